/- What the arguments of a claim read, as data. Conditions: the types are made of whole numbers, bools, strings, slices and structs. -/
import Derived.Test.YtlhjdikklmkihaaEv4
import Derived.Test.YtlhjdikklmkihaaEvJ
import Derived.ProofKit
import Derived.WalkKit
import Derived.OpenShut
import Derived.ShutString
import Derived.ChangeOld
import Derived.Below
import Derived.SizedLaws
set_option linter.all false
namespace Go.Proofs.Ytlhjdikklmkihaa.Ev
open Go

def aggE (P : Program) (t : TypeId) : Bool := match P.underlying t with
  | some (.struct _) => true
  | some (.array _ _) => true
  | _ => false
/-- A value of a type, of its cells. -/
def mkV (P : Program) (t : TypeId) (ds : List D) : D := if aggE P t = true then .agg ds else ds.headD .u

/-- The cells of a value of a type. -/
inductive RD (P : Program) : TypeId → List D → Prop
  | bool (t : TypeId) (b : Bool) (h : P.underlying t = some .bool) : RD P t [.v (.bool b)]
  | int (t : TypeId) (k : IntKind) (n : Int) (h : P.underlying t = some (.int k)) (hw : (Lit.int k n).wf = true) : RD P t [.v (.int k n)]
  | str (t : TypeId) (s : ByteArray) (h : P.underlying t = some .string) (hs : s.size ≤ maxLen) : RD P t [.v (.string s)]
  | sl (t e : TypeId) (q : Bool) (xs : List (List D)) (h : P.underlying t = some (.slice e)) (hx : ∀ (i : Nat) x, xs[i]? = some x → RD P e x) : RD P t [lst .ro (P.cellsOf e) q (xs.map (mkV P e))]
  | st (t : TypeId) (fs : Array Field) (xs : List (List D)) (h : P.underlying t = some (.struct fs)) (hl : xs.length = fs.size) (hx : ∀ (i : Nat) f x, fs[i]? = some f → xs[i]? = some x → RD P f.type x) : RD P t xs.flatten
  | arr (t e : TypeId) (n : Nat) (xs : List (List D)) (h : P.underlying t = some (.array n e)) (hl : xs.length = n) (hx : ∀ (i : Nat) x, xs[i]? = some x → RD P e x) : RD P t xs.flatten

section
variable {P : Program} {t e : TypeId} {ds : List D}
theorem RD.und (h : RD P t ds) : (∃ b, P.underlying t = some .bool ∧ ds = [.v (.bool b)]) ∨ (∃ k n, P.underlying t = some (.int k) ∧ (Lit.int k n).wf = true ∧ ds = [.v (.int k n)]) ∨ (∃ s, P.underlying t = some .string ∧ s.size ≤ maxLen ∧ ds = [.v (.string s)]) ∨
    (∃ (e : TypeId) (q : Bool) (xs : List (List D)), P.underlying t = some (.slice e) ∧ (∀ (i : Nat) x, xs[i]? = some x → RD P e x) ∧ ds = [lst .ro (P.cellsOf e) q (xs.map (mkV P e))]) ∨
    (∃ (fs : Array Field) (xs : List (List D)), P.underlying t = some (.struct fs) ∧ xs.length = fs.size ∧ (∀ (i : Nat) f x, fs[i]? = some f → xs[i]? = some x → RD P f.type x) ∧ ds = xs.flatten) ∨
    (∃ (n : Nat) (e : TypeId) (xs : List (List D)), P.underlying t = some (.array n e) ∧ xs.length = n ∧ (∀ (i : Nat) x, xs[i]? = some x → RD P e x) ∧ ds = xs.flatten) := by
  cases h with
  | bool _ b h => exact .inl ⟨b, h, rfl⟩
  | int _ k n h hw => exact .inr (.inl ⟨k, n, h, hw, rfl⟩)
  | str _ s h hs => exact .inr (.inr (.inl ⟨s, h, hs, rfl⟩))
  | sl _ e q xs h hx => exact .inr (.inr (.inr (.inl ⟨e, q, xs, h, hx, rfl⟩)))
  | st _ fs xs h hl hx => exact .inr (.inr (.inr (.inr (.inl ⟨fs, xs, h, hl, hx, rfl⟩))))
  | arr _ e n xs h hl hx => exact .inr (.inr (.inr (.inr (.inr ⟨n, e, xs, h, hl, hx, rfl⟩))))
theorem RD.bool' (hu : P.underlying t = some .bool) (hh : RD P t ds) : ∃ b, ds = [.v (.bool b)] := by
  rcases hh.und with ⟨b, h, hw⟩ | ⟨k', n, h, hw⟩ | ⟨s, h, hw⟩ | ⟨e', q, xs, h, hw⟩ | ⟨fs', xs, h, hw⟩ | ⟨n', e', xs, h, hw⟩ <;> rw [hu] at h <;> cases h
  exact ⟨b, hw⟩
theorem RD.int' {k : IntKind} (hu : P.underlying t = some (.int k)) (hh : RD P t ds) : ∃ n, (Lit.int k n).wf = true ∧ ds = [.v (.int k n)] := by
  rcases hh.und with ⟨b, h, hw⟩ | ⟨k', n, h, hw⟩ | ⟨s, h, hw⟩ | ⟨e', q, xs, h, hw⟩ | ⟨fs', xs, h, hw⟩ | ⟨n', e', xs, h, hw⟩ <;> rw [hu] at h <;> cases h
  exact ⟨n, hw⟩
theorem RD.str' (hu : P.underlying t = some .string) (hh : RD P t ds) : ∃ s, s.size ≤ maxLen ∧ ds = [.v (.string s)] := by
  rcases hh.und with ⟨b, h, hw⟩ | ⟨k', n, h, hw⟩ | ⟨s, h, hw⟩ | ⟨e', q, xs, h, hw⟩ | ⟨fs', xs, h, hw⟩ | ⟨n', e', xs, h, hw⟩ <;> rw [hu] at h <;> cases h
  exact ⟨s, hw⟩
theorem RD.sl' (hu : P.underlying t = some (.slice e)) (hh : RD P t ds) : ∃ (q : Bool) (xs : List (List D)), (∀ x, x ∈ xs → RD P e x) ∧ ds = [lst .ro (P.cellsOf e) q (xs.map (mkV P e))] := by
  rcases hh.und with ⟨b, h, hw⟩ | ⟨k', n, h, hw⟩ | ⟨s, h, hw⟩ | ⟨e', q, xs, h, hw⟩ | ⟨fs', xs, h, hw⟩ | ⟨n', e', xs, h, hw⟩ <;> rw [hu] at h <;> cases h
  exact ⟨q, xs, fun x hm => by obtain ⟨i, hi⟩ := List.mem_iff_getElem?.1 hm; exact hw.1 i x hi, hw.2⟩
theorem RD.st' {fs : Array Field} (hu : P.underlying t = some (.struct fs)) (hh : RD P t ds) : ∃ xs : List (List D), xs.length = fs.size ∧ (∀ (i : Nat) f x, fs[i]? = some f → xs[i]? = some x → RD P f.type x) ∧ ds = xs.flatten := by
  rcases hh.und with ⟨b, h, hw⟩ | ⟨k', n, h, hw⟩ | ⟨s, h, hw⟩ | ⟨e', q, xs, h, hw⟩ | ⟨fs', xs, h, hw⟩ | ⟨n', e', xs, h, hw⟩ <;> rw [hu] at h <;> cases h
  exact ⟨xs, hw⟩
theorem RD.arr' {n : Nat} (hu : P.underlying t = some (.array n e)) (hh : RD P t ds) : ∃ xs : List (List D), xs.length = n ∧ (∀ (i : Nat) x, xs[i]? = some x → RD P e x) ∧ ds = xs.flatten := by
  rcases hh.und with ⟨b, h, hw⟩ | ⟨k', n, h, hw⟩ | ⟨s, h, hw⟩ | ⟨e', q, xs, h, hw⟩ | ⟨fs', xs, h, hw⟩ | ⟨n', e', xs, h, hw⟩ <;> rw [hu] at h <;> cases h
  exact ⟨xs, hw⟩
theorem lst_cells {m : Mode} {z : Nat} {q : Bool} {xs : List D} : (lst m z q xs).cells = [lst m z q xs] := by unfold lst; split <;> rfl
theorem mkV_cells (hh : RD P t ds) : (mkV P t ds).cells = ds := by
  rcases hh.und with ⟨_, h, rfl⟩ | ⟨k', n, h, hw, rfl⟩ | ⟨_, h, _, rfl⟩ | ⟨_, q, xs, h, hx, rfl⟩ | ⟨_, xs, h, hl, hx, rfl⟩ | ⟨_, _, xs, h, hl, hx, rfl⟩ <;> simp only [mkV, aggE, h, Bool.false_eq_true, ↓reduceIte, List.headD_cons]
  · rfl
  · rfl
  · rfl
  · exact lst_cells
  · rfl
  · rfl
end

/-- The types that are read. -/
def contig (P : Program) : Nat → List Field → Nat → Bool
  | o, [], n => o == n
  | o, f :: fs, n => f.offset == o && contig P (o + P.cellsOf f.type) fs n
def okTy (P : Program) : Nat → TypeId → Bool
  | 0, _ => false
  | k + 1, t => match P.underlying t with
    | some .bool => true
    | some (.int _) => true
    | some .string => true
    | some (.slice e) => okTy P k e && decide (0 < P.cellsOf e)
    | some (.struct fs) => contig P 0 fs.toList (P.cellsOf t) && fs.toList.all fun f => okTy P k f.type
    | some (.array n e) => okTy P k e && P.cellsOf t == n * P.cellsOf e
    | _ => false

section
variable {H : Type} {enc : TypeId × Value → H} {P : Program} {w : World} {base : Nat} {sp : Nat → Bool} {held : Bool} {fr : Nat → Nat}
/-- Cells, told. -/
def Tl (w : World) (fr : Nat → Nat) (cs : List Value) (ds : List D) : Prop := ds.length = cs.length ∧ ∀ (i : Nat) v c, cs[i]? = some v → ds[i]? = some c → RF w fr v c
theorem Tl.one {v : Value} {d : D} (h : RF w fr v d) : Tl w fr [v] [d] := ⟨rfl, fun i v' c h1 h2 => by
  cases i with
  | zero => simp at h1 h2; subst h1 h2; exact h
  | succ i => simp at h1⟩
theorem Tl.app {a b : List Value} {x y : List D} (h : Tl w fr a x) (k : Tl w fr b y) : Tl w fr (a ++ b) (x ++ y) := by
  refine ⟨by rw [List.length_append, List.length_append, h.1, k.1], fun i v c h1 h2 => ?_⟩
  rcases Nat.lt_or_ge i a.length with hi | hi
  · rw [List.getElem?_append_left hi] at h1
    rw [List.getElem?_append_left (by rw [h.1]; exact hi)] at h2
    exact h.2 i v c h1 h2
  · rw [List.getElem?_append_right hi] at h1
    rw [List.getElem?_append_right (by rw [h.1]; exact hi), h.1] at h2
    exact k.2 _ v c h1 h2
theorem tl_fields {Q : TypeId → List D → Prop} {cs : List Value} : ∀ (fs : List Field) (o : Nat), contig P o fs cs.length = true → (∀ f ∈ fs, ∃ ds, Q f.type ds ∧ Tl w fr ((cs.drop f.offset).take (P.cellsOf f.type)) ds) →
    ∃ xs : List (List D), xs.length = fs.length ∧ (∀ (i : Nat) f x, fs[i]? = some f → xs[i]? = some x → Q f.type x) ∧ Tl w fr (cs.drop o) xs.flatten
  | [], o, h, _ => by
    simp only [contig, beq_iff_eq] at h
    refine ⟨[], rfl, fun i f x h => by simp at h, ?_⟩
    rw [h, List.drop_length]
    exact ⟨rfl, fun i v c h => by simp at h⟩
  | f :: fs, o, h, hf => by
    simp only [contig, Bool.and_eq_true, beq_iff_eq] at h
    obtain ⟨ho, h⟩ := h
    obtain ⟨ds, h1, h2⟩ := hf f (List.mem_cons_self ..)
    obtain ⟨xs, h3, h4, h5⟩ := tl_fields fs _ h (fun g hg => hf g (List.mem_cons_of_mem _ hg))
    refine ⟨ds :: xs, by simp [h3], fun i g x hg hx => ?_, ?_⟩
    · cases i with
      | zero => simp at hg hx; subst hg hx; exact h1
      | succ i => simp at hg hx; exact h4 i g x hg hx
    · rw [ho] at h2
      have e : cs.drop o = (cs.drop o).take (P.cellsOf f.type) ++ cs.drop (o + P.cellsOf f.type) := by rw [← List.drop_drop, List.take_append_drop]
      rw [e, List.flatten_cons]
      exact h2.app h5
theorem tl_elems {Q : List D → Prop} {cs : List Value} {z : Nat} : ∀ (m o : Nat), cs.length = (o + m) * z → (∀ i, o ≤ i → i < o + m → ∃ ds, Q ds ∧ Tl w fr ((cs.drop (i * z)).take z) ds) →
    ∃ xs : List (List D), xs.length = m ∧ (∀ (i : Nat) x, xs[i]? = some x → Q x) ∧ Tl w fr (cs.drop (o * z)) xs.flatten
  | 0, o, h, _ => by
    refine ⟨[], rfl, fun i x h => by simp at h, ?_⟩
    rw [Nat.add_zero] at h
    rw [← h, List.drop_length]
    exact ⟨rfl, fun i v c h => by simp at h⟩
  | m + 1, o, h, hf => by
    obtain ⟨ds, h1, h2⟩ := hf o (Nat.le_refl _) (by omega)
    obtain ⟨xs, h3, h4, h5⟩ := tl_elems m (o + 1) (by rw [h]; congr 1; omega) (fun i h1 h2 => hf i (by omega) (by omega))
    refine ⟨ds :: xs, by simp [h3], fun i x hx => ?_, ?_⟩
    · cases i with
      | zero => simp at hx; subst hx; exact h1
      | succ i => simp at hx; exact h4 i x hx
    · have e : cs.drop (o * z) = (cs.drop (o * z)).take z ++ cs.drop ((o + 1) * z) := by rw [Nat.add_mul, Nat.one_mul, ← List.drop_drop, List.take_append_drop]
      rw [e, List.flatten_cons]
      exact h2.app h5

theorem cells?_get {base : Nat} {a : Addr} {n : Nat} {vs : List Value} (h : w.cells? base a n = some vs) : vs.length = n ∧ ∀ i, i < n → w.cell? (a.add i) = vs[i]? := by
  unfold World.cells? at h
  split at h
  · refine ⟨by simpa using mapM_some_length h, fun i hi => ?_⟩
    exact mapM_some_get h i i (by rw [List.getElem?_range hi])
  · cases h
theorem spot_of {a : Addr} {k : Nat} {v : Value} (h : w.cell? (a.add 0) = some v) : a.spot = none := by
  simp only [Addr.add, ↓reduceIte] at h
  unfold World.cell? at h
  split at h
  · split at h
    · cases h
    · rename_i hs
      cases hq : a.spot with
      | none => rfl
      | some _ => rw [hq] at hs; exact absurd rfl hs
  · cases h

/-- What is read, is told. -/
theorem read_tl (hsp : ∀ b, sp b = true) (hfr : ∀ b o, (w.cell? ⟨b, o, none⟩).isSome → o < fr b) : ∀ (k : Nat) (t : TypeId), okTy P k t = true → ∀ (n : Nat) (cs : List Value) (x : DataW H × List MemPlace), DataW.trod enc P w base sp held n t cs = some x → ∃ ds, RD P t ds ∧ Tl w fr cs ds
  | 0, _, h => by cases h
  | k + 1, t, h => by
    intro n cs x hx
    unfold okTy at h
    split at h
    · rename_i hu
      obtain ⟨b, rfl, _⟩ := DataW.trod_bool hu hx
      exact ⟨_, .bool t b hu, .one (.v _ rfl)⟩
    · rename_i hu
      obtain ⟨m, rfl, _, hw⟩ := DataW.trod_int hu hx
      exact ⟨_, .int t _ m hu hw, .one (.v _ rfl)⟩
    · rename_i hu
      obtain ⟨s, rfl, _, hs⟩ := DataW.trod_string hu hx
      exact ⟨_, .str t s hu hs, .one (.v _ rfl)⟩
    · rename_i e hu
      rw [Bool.and_eq_true, decide_eq_true_eq] at h
      obtain ⟨h, hz⟩ := h
      rcases DataW.trod_slice hu hx with ⟨rfl, _⟩ | ⟨a, len, cap, elems, rest, m, _, rfl, _, _, hlc, hcap, hlen, hel, hrest, _⟩
      · refine ⟨_, .sl t e true [] hu (fun i x h => by simp at h), .one ?_⟩
        exact .nl 0
      · have each : ∀ i, i < len → ∃ vs ds, (∀ j, j < P.cellsOf e → w.cell? ((a.add (i * P.cellsOf e)).add j) = vs[j]?) ∧ vs.length = P.cellsOf e ∧ RD P e ds ∧ Tl w fr vs ds := by
          intro i hi
          have h1 := hel i hi
          rw [List.getElem?_eq_getElem (by omega)] at h1
          cases hc : w.cells? base (a.add (i * P.cellsOf e)) (P.cellsOf e) with
          | none => rw [hc] at h1; cases h1
          | some vs =>
            rw [hc] at h1
            obtain ⟨ds, h2, h3⟩ := read_tl hsp hfr k e h m vs _ h1
            obtain ⟨h4, h5⟩ := cells?_get hc
            exact ⟨vs, ds, h5, h4, h2, h3⟩
        have all : ∃ xs : List (List D), xs.length = len ∧ ∀ (i : Nat) x, xs[i]? = some x → RD P e x ∧ ∃ vs : List Value, (∀ j, j < P.cellsOf e → w.cell? ((a.add (i * P.cellsOf e)).add j) = vs[j]?) ∧ vs.length = P.cellsOf e ∧ Tl w fr vs x := by
          clear hx hel hlen hlc hcap hrest
          induction len with
          | zero => exact ⟨[], rfl, fun i x h => by simp at h⟩
          | succ len ih =>
            obtain ⟨xs, h1, h2⟩ := ih (fun i hi => each i (by omega))
            obtain ⟨vs, ds, h3, h4, h5, h6⟩ := each len (by omega)
            refine ⟨xs ++ [ds], by simp [h1], fun i x hx => ?_⟩
            rcases Nat.lt_trichotomy i xs.length with hi | hi | hi
            · rw [List.getElem?_append_left hi] at hx; exact h2 i x hx
            · rw [List.getElem?_append_right (by omega), hi, Nat.sub_self] at hx
              simp at hx
              subst hx
              rw [hi, h1]
              exact ⟨h5, vs, h3, h4, h6⟩
            · rw [List.getElem?_append_right (by omega)] at hx
              have : i - xs.length ≠ 0 := by omega
              cases hk : i - xs.length with
              | zero => omega
              | succ q => rw [hk] at hx; simp at hx
        obtain ⟨xs, h1, h2⟩ := all
        refine ⟨_, .sl t e false xs hu (fun i x hx => (h2 i x hx).1), .one ?_⟩
        rw [lst_f]
        rcases Nat.eq_zero_or_pos len with h0 | h0
        · subst h0
          obtain rfl : xs = [] := List.eq_nil_of_length_eq_zero h1
          rcases Nat.eq_zero_or_pos cap with c0 | c0
          · subst c0
            exact .z a _
          · obtain ⟨r1, r2⟩ := hrest (hsp _)
            have r3 := r2 0 (by omega)
            rw [List.getElem?_eq_getElem (by omega)] at r3
            cases hc : w.cells? base (a.add ((0 + 0) * P.cellsOf e)) (P.cellsOf e) with
            | none => rw [hc] at r3; cases r3
            | some vs =>
              obtain ⟨h4, h5⟩ := cells?_get hc
              have h6 := h5 0 hz
              rw [List.getElem?_eq_getElem (by omega), Nat.add_zero, Nat.zero_mul] at h6
              have hsp' : a.spot = none := spot_of (k := 0) (by simpa [Addr.add] using h6)
              obtain ⟨b, off, s⟩ := a
              simp only at hsp'
              subst hsp'
              exact .ro b off cap _ [] (fun _ _ => undef) (Nat.zero_le _) hcap (.inl rfl) (fun i d h => by simp at h) (fun i d j c h => by simp at h) (fun i d j c h => by simp at h)
        obtain ⟨x0, hx0⟩ : ∃ x0, xs[0]? = some x0 := ⟨_, List.getElem?_eq_getElem (by omega)⟩
        obtain ⟨_, v0, h3, h4, _⟩ := h2 0 x0 hx0
        have hsp : a.spot = none := by
          have := h3 0 hz
          rw [List.getElem?_eq_getElem (by omega), Nat.zero_mul] at this
          exact spot_of (k := 0) (by simpa [Addr.add] using this)
        obtain ⟨b, off, s⟩ := a
        simp only at hsp
        subst hsp
        simp only [add_lit] at h2
        have hcell : ∀ (i : Nat) d (j : Nat) c, (xs.map (mkV P e))[i]? = some d → d.cells[j]? = some c → ∃ v, w.cell? ⟨b, off + i * P.cellsOf e + j, none⟩ = some v ∧ RF w fr v c := by
          intro i d j c hd hj
          rw [List.getElem?_map] at hd
          cases hxi : xs[i]? with
          | none => rw [hxi] at hd; cases hd
          | some x =>
            rw [hxi] at hd
            injection hd with hd
            subst hd
            obtain ⟨g1, vs, g2, g3, g4⟩ := h2 i x hxi
            rw [mkV_cells g1] at hj
            have hjl := getq_lt hj
            rw [g4.1, g3] at hjl
            have hv : vs[j]? = some vs[j] := List.getElem?_eq_getElem (by omega)
            exact ⟨vs[j], by rw [g2 j hjl, hv], g4.2 j _ c hv hj⟩
        have hcl : ∀ (i : Nat) d, (xs.map (mkV P e))[i]? = some d → d.cells.length = P.cellsOf e := by
          intro i d hd
          rw [List.getElem?_map] at hd
          cases hxi : xs[i]? with
          | none => rw [hxi] at hd; cases hd
          | some x =>
            rw [hxi] at hd
            injection hd with hd
            subst hd
            obtain ⟨g1, vs, g2, g3, g4⟩ := h2 i x hxi
            rw [mkV_cells g1, g4.1, g3]
        have hml : (xs.map (mkV P e)).length = len := by rw [List.length_map, h1]
        rw [← hml]
        refine .ro b off cap _ _ (fun i j => (w.cell? ⟨b, off + i * P.cellsOf e + j, none⟩).getD undef) (by omega) hcap (.inr ?_) hcl (fun i d j c hd hj => ?_) (fun i d j c hd hj => ?_)
        · rw [hml]
          obtain ⟨d, hd⟩ : ∃ d, (xs.map (mkV P e))[len - 1]? = some d := ⟨_, List.getElem?_eq_getElem (by omega)⟩
          obtain ⟨c, hc⟩ : ∃ c, d.cells[P.cellsOf e - 1]? = some c := ⟨_, List.getElem?_eq_getElem (by rw [hcl _ _ hd]; omega)⟩
          obtain ⟨v, hv, _⟩ := hcell _ _ _ _ hd hc
          have := hfr b (off + (len - 1) * P.cellsOf e + (P.cellsOf e - 1)) (by rw [hv]; rfl)
          have e1 : len * P.cellsOf e = (len - 1) * P.cellsOf e + P.cellsOf e := by
            conv => lhs; rw [show len = (len - 1) + 1 by omega, Nat.add_mul, Nat.one_mul]
          omega
        · obtain ⟨v, hv, _⟩ := hcell _ _ _ _ hd hj
          rw [hv]; rfl
        · obtain ⟨v, hv, hr⟩ := hcell _ _ _ _ hd hj
          rw [hv]; exact hr
    · rename_i fs hu
      rw [Bool.and_eq_true] at h
      obtain ⟨hc, hall⟩ := h
      obtain ⟨ys, m, _, _, hl, hys, hf⟩ := DataW.trod_struct hu hx
      rw [← hl] at hc
      obtain ⟨xs, h1, h2, h3⟩ := tl_fields (P := P) (w := w) (fr := fr) (Q := RD P) (cs := cs) fs.toList 0 hc (fun f hm => by
        obtain ⟨i, hi⟩ := List.mem_iff_getElem?.1 hm
        have hi' : fs[i]? = some f := by rw [← Array.getElem?_toList]; exact hi
        have h4 := hf i f hi'
        rw [List.getElem?_eq_getElem (by rw [hys]; exact (Array.getElem?_eq_some_iff.1 hi').1)] at h4
        exact read_tl hsp hfr k f.type (List.all_eq_true.1 hall f hm) m _ _ h4)
      refine ⟨_, .st t fs xs hu (by rw [h1]; rfl) (fun i f x hf hx => h2 i f x (by rw [Array.getElem?_toList]; exact hf) hx), ?_⟩
      simpa using h3
    · rename_i m e hu
      rw [Bool.and_eq_true, beq_iff_eq] at h
      obtain ⟨h, hz⟩ := h
      obtain ⟨ys, m', _, _, hl, hys, hf⟩ := DataW.trod_array hu hx
      obtain ⟨xs, h1, h2, h3⟩ := tl_elems (w := w) (fr := fr) (Q := RD P e) (cs := cs) (z := P.cellsOf e) m 0 (by rw [hl, hz, Nat.zero_add]) (fun i _ hi => by
        have h4 := hf i (by omega)
        rw [List.getElem?_eq_getElem (by omega)] at h4
        exact read_tl hsp hfr k e h m' _ _ h4)
      refine ⟨_, .arr t e m xs hu h1 h2, ?_⟩
      simpa using h3
    · cases h
end
end Go.Proofs.Ytlhjdikklmkihaa.Ev
