/- The check that a table's functions are the program's. Conditions: none. -/
import Derived.Test.YtlhjdikklmkihaaEvJ
import Derived.Test.YtlhjdikklmkihaaEvK
set_option linter.all false
namespace Go.Proofs.Ytlhjdikklmkihaa.Ev
open Go

def vEq : Value → Value → Bool
  | .int k a, .int k' b => k == k' && a == b
  | .bool a, .bool b => a == b
  | .string a, .string b => a.data.toList == b.data.toList
  | .slice none 0 0, .slice none 0 0 => true
  | .pointer none, .pointer none => true
  | .map none, .map none => true
  | .nilFunc, .nilFunc => true
  | .nilIface, .nilIface => true
  | _, _ => false
theorem vEq_ok {a b : Value} (h : vEq a b = true) : a = b := by
  unfold vEq at h
  split at h <;> first | (cases h; done) | rfl | skip
  · simp only [Bool.and_eq_true, beq_iff_eq] at h; rw [h.1, h.2]
  · rw [beq_iff_eq.1 h]
  · rename_i a b
    have := beq_iff_eq.1 h
    obtain ⟨x⟩ := a
    obtain ⟨y⟩ := b
    simp only at this
    rw [show x = y from Array.ext' this]
def okD : Operand → Opd → Bool
  | .tmp n, .t m => n == m
  | .tmp n, .m m => n == m
  | .const x, .c y => vEq x y
  | .const x, .cn => vEq x (.slice none 0 0)
  | .func n, .f m => n == m && Nat.blt n RL
  | _, _ => false
theorem okD_ok {x : Operand} {y : Opd} (h : okD x y = true) : MOpd x y := by
  unfold okD at h
  split at h
  · rw [beq_iff_eq.1 h]; exact .t _
  · rw [beq_iff_eq.1 h]; exact .m _
  · rw [vEq_ok h]; exact .c _
  · rw [vEq_ok h]; exact .cn
  · simp only [Bool.and_eq_true, beq_iff_eq, Nat.blt_eq] at h; rw [h.1]; exact .f _ (by rw [← h.1]; exact h.2)
  · cases h
def okDs : List Operand → List Opd → Bool
  | [], [] => true
  | x :: r, y :: r' => okD x y && okDs r r'
  | _, _ => false
theorem okDs_ok : ∀ {xs : List Operand} {ys : List Opd}, okDs xs ys = true → xs.length = ys.length ∧ ∀ (i : Nat) x y, xs[i]? = some x → ys[i]? = some y → MOpd x y
  | [], [], _ => ⟨rfl, fun i x y h => by simp at h⟩
  | x :: r, y :: r', h => by
    simp only [okDs, Bool.and_eq_true] at h
    obtain ⟨h1, h2⟩ := okDs_ok h.2
    refine ⟨by simp [h1], fun i a b ha hb => ?_⟩
    cases i with
    | zero => simp at ha hb; subst ha hb; exact okD_ok h.1
    | succ i => exact h2 i a b (by simpa using ha) (by simpa using hb)
  | [], _ :: _, h => by cases h
  | _ :: _, [], h => by cases h
theorem okA_ok {xs : Array Operand} {ys : List Opd} (h : okDs xs.toList ys = true) : MArgs xs ys := by
  obtain ⟨h1, h2⟩ := okDs_ok h
  have := MArgs.mk h1 h2
  rwa [Array.toArray_toList] at this
def okO : Option Operand → Option Opd → Bool
  | none, none => true
  | some x, some y => okD x y
  | _, _ => false
theorem okO_ok {x : Option Operand} {y : Option Opd} (h : okO x y = true) : MOpt x y := by
  unfold okO at h
  split at h
  · exact .n
  · exact .s (okD_ok h)
  · cases h

variable (P : Program)
def okSz (t : TypeId) (q : Option Nat) : Bool := match P.underlying t with
  | some d => match q with
    | none => !aggT d
    | some n => aggT d && (match P.info? t with | some i => i.size == n | none => false)
  | none => false
theorem okSz_ok {t : TypeId} {q : Option Nat} (h : okSz P t q = true) : Sz P t q := by
  unfold okSz at h
  split at h
  · rename_i d hd
    cases q with
    | none => exact ⟨d, hd, by simpa using h⟩
    | some n =>
      simp only [Bool.and_eq_true] at h
      obtain ⟨h1, h2⟩ := h
      split at h2
      · rename_i i hi
        exact ⟨d, i, hd, h1, hi, beq_iff_eq.1 h2⟩
      · cases h2
  · cases h
def okB : BinOp → Bop → Bool
  | .add, .add | .sub, .sub | .mul, .mul | .quo, .quo | .rem, .rem | .and, .and | .or, .or | .xor, .xor | .andNot, .andNot | .shl, .shl | .shr, .shr
  | .eql, .eql | .neq, .neq | .lss, .lss | .leq, .leq | .gtr, .gtr | .geq, .geq => true
  | _, _ => false
theorem okB_ok {o : BinOp} {p : Bop} (h : okB o p = true) : MB o p := by
  cases o <;> cases p <;> first | trivial | cases h
/-- An element type: its cells and bytes. -/
def okE (t : TypeId) (f : TypeId → TypeInfo → Bool) : Bool := match P.underlying t with
  | some (.slice e) => match P.info? e with
    | some i => f e i
    | none => false
  | _ => false
theorem okE_ok {t : TypeId} {f : TypeId → TypeInfo → Bool} (h : okE P t f = true) : ∃ e i, P.underlying t = some (.slice e) ∧ P.info? e = some i ∧ f e i = true := by
  unfold okE at h
  split at h
  · rename_i e he
    split at h
    · rename_i i hi; exact ⟨e, i, he, hi, h⟩
    · cases h
  · cases h
def okZ (z : Nat) (by_ : Option Nat) (e : TypeId) (i : TypeInfo) : Bool := i.size == z && (match i.zero with | some v => v.cells.size == z | none => false) && decide (0 < z) && (match by_ with | some b => i.bytes == b && decide (1 ≤ b) | none => true)
theorem okZ_ok {z : Nat} {by_ : Option Nat} {e : TypeId} {i : TypeInfo} (h : okZ z by_ e i = true) : i.size = z ∧ (∃ zv, i.zero = some zv ∧ zv.cells.size = z) ∧ 0 < z ∧ ∀ b, by_ = some b → i.bytes = b ∧ 1 ≤ b := by
  simp only [okZ, Bool.and_eq_true, beq_iff_eq, decide_eq_true_eq] at h
  obtain ⟨⟨⟨h1, h2⟩, h3⟩, h4⟩ := h
  refine ⟨h1, ?_, h3, fun b hb => ?_⟩
  · split at h2
    · rename_i v hv; exact ⟨v, hv, beq_iff_eq.1 h2⟩
    · cases h2
  · subst hb; simp only [Bool.and_eq_true, beq_iff_eq, decide_eq_true_eq] at h4; exact h4
def okCells (z : List Value) (v : Value) : Bool := z.length == v.cells.toList.length && (z.zip v.cells.toList).all fun p => vEq p.1 p.2
theorem okCells_ok {z : List Value} {v : Value} (h : okCells z v = true) : v.cells.toList = z := by
  simp only [okCells, Bool.and_eq_true, beq_iff_eq] at h
  generalize v.cells.toList = l at h
  obtain ⟨h1, h2⟩ := h
  induction z generalizing l with
  | nil => exact List.eq_nil_of_length_eq_zero (by simpa using h1.symm)
  | cons x z ih => cases l with
    | nil => simp at h1
    | cons y l =>
      simp only [List.zip_cons_cons, List.all_cons, Bool.and_eq_true] at h2
      rw [vEq_ok h2.1, ih l (by simpa using h1) h2.2]
def okParts (fs : Array Field) : List (Nat × Operand) → List (Nat × Nat × Opd) → Bool
  | [], [] => true
  | (f, x) :: r, (off, sz, y) :: r' => okD x y && (match fs[f]? with | some fd => fd.offset == off && (match P.info? fd.type with | some i => i.size == sz | none => false) | none => false) && okParts fs r r'
  | _, _ => false
theorem okParts_ok {fs : Array Field} : ∀ {ps : List (Nat × Operand)} {ps' : List (Nat × Nat × Opd)}, okParts P fs ps ps' = true → ps.length = ps'.length ∧ ∀ (j : Nat) f x off sz y, ps[j]? = some (f, x) → ps'[j]? = some (off, sz, y) → MOpd x y ∧ ∃ (fd : Field) (fi : TypeInfo), fs[f]? = some fd ∧ fd.offset = off ∧ P.info? fd.type = some fi ∧ fi.size = sz
  | [], [], _ => ⟨rfl, fun j f x off sz y h => by simp at h⟩
  | (f, x) :: r, (off, sz, y) :: r', h => by
    simp only [okParts, Bool.and_eq_true] at h
    obtain ⟨⟨h1, h2⟩, h3⟩ := h
    obtain ⟨k1, k2⟩ := okParts_ok h3
    refine ⟨by simp [k1], fun j f' x' off' sz' y' ha hb => ?_⟩
    cases j with
    | zero =>
      simp at ha hb
      obtain ⟨rfl, rfl⟩ := ha
      obtain ⟨rfl, rfl, rfl⟩ := hb
      refine ⟨okD_ok h1, ?_⟩
      split at h2
      · rename_i fd hfd
        simp only [Bool.and_eq_true, beq_iff_eq] at h2
        split at h2
        · rename_i i hi; exact ⟨fd, i, hfd, h2.1, hi, beq_iff_eq.1 h2.2⟩
        · cases h2.2
      · cases h2
    | succ j => exact k2 j f' x' off' sz' y' (by simpa using ha) (by simpa using hb)
  | [], _ :: _, h => by cases h
  | _ :: _, [], h => by cases h

def zcEq : D → Value → Bool
  | .v x, y => vEq x y && !(vEq y (.slice none 0 0))
  | .sl .nl 0 [], y => vEq y (.slice none 0 0)
  | _, _ => false
theorem zcEq_ok {d : D} {y : Value} (h : zcEq d y = true) : d = zc y := by
  unfold zcEq at h
  split at h
  · simp only [Bool.and_eq_true, Bool.not_eq_true'] at h
    rw [vEq_ok h.1]
    unfold zc
    split
    · exact absurd h.2 (by simp [vEq])
    · rfl
  · rw [vEq_ok h]; rfl
  · cases h
def zcsEq : List D → List Value → Bool
  | [], [] => true
  | d :: r, v :: r' => zcEq d v && zcsEq r r'
  | _, _ => false
theorem zcsEq_ok : ∀ {ds : List D} {vs : List Value}, zcsEq ds vs = true → ds = vs.map zc
  | [], [], _ => rfl
  | d :: r, v :: r', h => by
    simp only [zcsEq, Bool.and_eq_true] at h
    rw [zcEq_ok h.1, zcsEq_ok h.2]; rfl
  | [], _ :: _, h => by cases h
  | _ :: _, [], h => by cases h

def okPl : Nat → List Field → List Value → Bool
  | _, [], [] => true
  | j, f :: fs, z :: zs => f.offset == j && !(f.name == "_") && (match P.underlying f.type with | some d => plainT d z | none => false) && okPl (j + 1) fs zs
  | _, _, _ => false
theorem okPl_ok : ∀ {j : Nat} {fs : List Field} {zs : List Value}, okPl P j fs zs = true → PlainF P j fs zs
  | j, [], [], _ => .nil
  | j, f :: fs, z :: zs, h => by
    simp only [okPl, Bool.and_eq_true, beq_iff_eq, Bool.not_eq_true'] at h
    obtain ⟨⟨⟨h1, h2⟩, h3⟩, h4⟩ := h
    split at h3
    · rename_i d hd; exact .cons h1 h2 hd h3 (okPl_ok h4)
    · cases h3
  | _, [], _ :: _, h => by cases h
  | _, _ :: _, [], h => by cases h
def okOp (o : Go.Op) (p : Op) : Bool := match o, p with
  | .move x, .mv x' => okD x x'
  | .assign x, .mv x' => okD x x'
  | .pick c a b, .pk c' a' b' => okD c c' && okD a a' && okD b b'
  | .alloc t, .al z => (match P.info? t with | some i => (match i.zero with | some v => okCells z v && z.all Value.oneCell' | none => false) | none => false)
  | .box _ x, .bx x' => okD x x'
  | .load t p, .ld n p' => okD p p' && okSz P t n
  | .load t p, .ldm n p' => okD p p' && okSz P t n
  | .store t p x, .st n p' x' => okD p p' && okD x x' && (match P.info? t with | some i => i.size == n | none => false)
  | .binOp op t x y _, .bin op' x' y' => okB op op' && okD x x' && okD y y'
  | .unOp .not _ x, .no x' => okD x x'
  | .unOp op _ x, .un xr x' => okD x x' && (match op with | .xor => xr | .neg => !xr | _ => false)
  | .fieldAddr t x f, .fa x' off => okD x x' && (match P.underlying t with | some (.struct fs) => (match fs[f]? with | some fd => fd.offset == off && (match P.info? fd.type with | some i => !(i.size == 0) | none => false) | none => false) | _ => false)
  | .indexAddr t x y, .ia x' y' z => okD x x' && okD y y' && okE P t fun _ i => i.size == z
  | .extract x i, .ext x' i' => okD x x' && i == i'
  | .call c, .call f args => (match c.callee with | .value (.func f') => f == f' && Nat.blt f RL && okDs c.args.toList args | _ => false)
  | .call c, .calf f args => (match c.callee with | .value (.func f') => f == f' && Nat.blt f RL && okDs c.args.toList args | _ => false)
  | .call c, .cv f args => (match c.callee with | .value f' => okD f' f && okDs c.args.toList args | _ => false)
  | .call c, .len x => (match c.callee, c.args.toList, c.argTypes.toList with | .builtin .len, [y], [t] => okD y x && okE P t fun _ _ => true | _, _, _ => false)
  | .call c, .lns x => (match c.callee, c.args.toList, c.argTypes.toList with | .builtin .len, [y], [t] => okD y x && (match P.underlying t with | some .string => true | _ => false) | _, _, _ => false)
  | .call c, .ap _ z by_ x y => (match c.callee, c.args.toList, c.argTypes.toList with | .builtin .append, [x', y'], [t, tx] => okD x' x && okD y' y && okE P t (okZ z (some by_)) && (match P.underlying tx with | some (.slice _) => true | _ => false) | _, _, _ => false)
  | .call c, .mm mx x r => (match c.callee, c.args.toList with | .builtin b, x' :: r' => (match b with | .max => mx | .min => !mx | _ => false) && okD x' x && okDs r' r | _, _ => false)
  | .buildSlice t len ps, .bs z ps' => okDs (ps.toList.map (·.2)) ps' && (ps.toList.map (·.1) == List.range len) && okE P t (okZ z none) && decide (len * z ≤ 16777216)
  | .makeSlice t x y, .mk z by_ ze x' y' => okD x x' && okD y y' && okE P t fun e i => okZ z (some by_) e i && (match i.zero with | some v => zcsEq ze.cells v.cells.toList && v.cells.toList.all Value.oneCell' | none => false)
  | .build t ps, .bd z ps' => (match P.underlying t with | some (.struct fs) => okParts P fs ps.toList ps' && fs.all (fun fd => (P.info? fd.type).isSome) | _ => false) && (match P.info? t with | some i => (match i.zero with | some v => okCells z v | none => false) | none => false)
  | .slice t x lo hi none, .slc z x' lo' hi' => okD x x' && okO lo lo' && okO hi hi' && okE P t fun _ i => i.size == z
  | .binOp op t x y _, .eqn ne x' => okD x x' && (match y with | .const v => vEq v (.slice none 0 0) | _ => false) && (match op with | .eql => !ne | .neq => ne | _ => false) && okE P t fun _ _ => true
  | .binOp op t x y _, .eqs ne x' y' => okD x x' && okD y y' && (match op with | .eql => !ne | .neq => ne | _ => false)
  | .binOp op t x y _, .eqb ne x' y' => okD x x' && okD y y' && (match op with | .eql => !ne | .neq => ne | _ => false) && (match P.underlying t with | some .bool => true | _ => false)
  | .binOp op t x y _, .eqa ne z x' y' => okD x x' && okD y y' && (match op with | .eql => !ne | .neq => ne | _ => false) && (match P.underlying t with | some (.struct fs) => !P.stoodInHeld t && !P.eqGuardType P.depth t && okPl P 0 fs.toList z | _ => false)
  | .binOp op t x y _, .sh op' x' y' => okB op op' && okD x x' && okD y y'
  | .convert s t x, .ci k x' => okD x x' && (P.underlying s).isSome && (match P.underlying t with | some (.int k') => k == k' | _ => false)
  | .makeFunc (.func f) first caps, .mf f' caps' => f == f' && Nat.blt f RL && first.isEmpty && okDs caps.toList caps'
  | .nilCheck x, .nck x' => okD x x'
  | _, _ => false
end Go.Proofs.Ytlhjdikklmkihaa.Ev
