/- Each operation, as the machine carries it out and as the evaluator does. Conditions: none. -/
import Derived.Test.YtlhjdikklmkihaaEvC
set_option linter.all false
namespace Go.Proofs.Ytlhjdikklmkihaa.Ev
open Go
variable {P : Program}

def W (ro : Option Nat) : Fence := { Fence.wide with round := ro }
theorem W_room (ro : Option Nat) (n : Nat) : (W ro).room n := fun _ h => by simp [W, Fence.wide] at h
theorem W_depth (ro : Option Nat) : (W ro).depth = none := rfl
theorem W_fn (ro : Option Nat) (f : FuncId) : (W ro).fn f := trivial

theorem add_lit (b o n : Nat) : (⟨b, o, none⟩ : Addr).add n = ⟨b, o + n, none⟩ := by unfold Addr.add; split <;> simp_all

def aggT : TypeDesc → Bool
  | .struct _ => true
  | .array _ _ => true
  | _ => false
theorem run_isAgg' {t : TypeId} {d : TypeDesc} (h : P.underlying t = some d) (w : World) : (isAgg t).run P w = .ok (aggT d) w := by
  unfold isAgg
  rw [Sem.run_bind, run_underlying h w]
  cases d <;> simp [aggT]
theorem run_sizeOf' {t : TypeId} {i : TypeInfo} (h : P.info? t = some i) (w : World) : (sizeOf t).run P w = .ok i.size w := by
  simp [sizeOf, typeInfo, h]
theorem run_load1 {t : TypeId} {d : TypeDesc} (h : P.underlying t = some d) (hd : aggT d = false) {w : World} {a : Addr} {x : Value} (hc : w.cell? a = some x) : (loadVar t a).run P w = .ok x w := by
  simp [loadVar, run_isAgg' h, hd, hc]
theorem run_loadN {t : TypeId} {d : TypeDesc} {i : TypeInfo} (h : P.underlying t = some d) (hd : aggT d = true) (hi : P.info? t = some i) {w : World} {b o : Nat} {cs : List Value} (hn : cs.length = i.size)
    (hc : ∀ (j : Nat) v, cs[j]? = some v → w.cell? ⟨b, o + j, none⟩ = some v) : (loadVar t ⟨b, o, none⟩).run P w = .ok (.agg cs.toArray) w := by
  have := run_loadCells_list (P := P) w ⟨b, o, none⟩ cs (fun j v hj => by rw [add_lit]; exact hc j v hj)
  rw [hn] at this
  simp [loadVar, run_isAgg' h, hd, run_sizeOf' hi, this]

/-- The type's cells: none: one cell; n: a struct of n. -/
def Sz (P : Program) (t : TypeId) : Option Nat → Prop
  | none => ∃ d, P.underlying t = some d ∧ aggT d = false
  | some n => ∃ d i, P.underlying t = some d ∧ aggT d = true ∧ P.info? t = some i ∧ i.size = n

theorem box_cell {g : G} {w : World} {f s : Nat} {ds : List D} (h : RBc g w f s ds) : ∃ b, g.bx f s = some b ∧ ∀ (c : Nat) d, ds[c]? = some d → ∃ y, w.cell? ⟨b, c, none⟩ = some y ∧ RC g w (boxL f s c) y d := by
  obtain ⟨b, cs, e, h1, h2, h3, h4⟩ := h
  refine ⟨b, h1, fun c d hc => ?_⟩
  obtain ⟨y, h5, h6⟩ := h4 c d hc
  exact ⟨y, by simp [World.cell?, h2, h5], h6⟩

/-- Values of a row of cells, all at once. -/
theorem choose_cells {ds : List D} {R : Nat → Value → D → Prop} (h : ∀ (c : Nat) d, ds[c]? = some d → ∃ y, R c y d) : ∃ ys : List Value, ys.length = ds.length ∧ ∀ (c : Nat) d, ds[c]? = some d → ∃ y, ys[c]? = some y ∧ R c y d := by
  induction ds generalizing R with
  | nil => exact ⟨[], rfl, fun c d hc => by simp at hc⟩
  | cons d ds ih =>
    obtain ⟨y, hy⟩ := h 0 d rfl
    obtain ⟨ys, h1, h2⟩ := ih (R := fun c => R (c + 1)) fun c d hc => h (c + 1) d (by simpa using hc)
    refine ⟨y :: ys, by simp [h1], fun c d' hc => ?_⟩
    cases c with
    | zero => simp at hc; subst hc; exact ⟨y, rfl, hy⟩
    | succ c => simpa using h2 c d' (by simpa using hc)

theorem take_drop_get {α : Type} {l : List α} {o n c : Nat} : ((l.drop o).take n)[c]? = if c < n then l[o + c]? else none := by
  rw [List.getElem?_take]
  split
  · rw [List.getElem?_drop]
  · rfl

/-- What is loaded of a variable is told by its cells. -/
theorem load_ok {t : TypeId} {n : Option Nat} (hs : Sz P t n) {w : World} {b off : Nat} {ds : List D} {R : Nat → Value → D → Prop}
    (hc : ∀ (c : Nat) d, ds[c]? = some d → ∃ y, w.cell? ⟨b, c, none⟩ = some y ∧ R c y d) {d : D} (hp : pick n ds off = some d) :
    ∃ x, (loadVar t ⟨b, off, none⟩).run P w = .ok x w ∧ match n with
      | none => R off x d
      | some n => ∃ cs, x = .agg cs ∧ cs.size = n ∧ ∃ es, d = .agg es ∧ es.length = n ∧ ∀ (c : Nat) e, es[c]? = some e → ds[off + c]? = some e ∧ ∃ y, cs[c]? = some y ∧ R (off + c) y e := by
  cases n with
  | none =>
    obtain ⟨u, h1, h2⟩ := hs
    obtain ⟨y, h3, h4⟩ := hc off d hp
    exact ⟨y, run_load1 h1 h2 h3, h4⟩
  | some n =>
    obtain ⟨u, i, h1, h2, h3, h4⟩ := hs
    simp only [pick] at hp
    split at hp
    · rename_i hle
      injection hp with hp
      subst hp
      obtain ⟨ys, h5, h6⟩ := choose_cells (ds := (ds.drop off).take n) (R := fun c y d => w.cell? ⟨b, off + c, none⟩ = some y ∧ R (off + c) y d) fun c d hcd => by
        rw [take_drop_get] at hcd
        split at hcd
        · exact hc _ _ hcd
        · cases hcd
      have hl : ((ds.drop off).take n).length = n := by simp; omega
      refine ⟨.agg ys.toArray, run_loadN h1 h2 h3 (by rw [h5, hl, h4]) fun j v hj => ?_, ys.toArray, rfl, by simp [h5]; omega, _, rfl, hl, fun c e hce => ⟨?_, ?_⟩⟩
      · have hjl := getq_lt hj
        rw [h5] at hjl
        obtain ⟨y, h7, h8, _⟩ := h6 j _ (List.getElem?_eq_getElem hjl)
        rw [hj] at h7
        injection h7 with h7
        rw [h7]; exact h8
      · rw [take_drop_get] at hce
        split at hce
        · exact hce
        · cases hce
      · obtain ⟨y, h7, _, h9⟩ := h6 c e hce
        exact ⟨y, by simpa using h7, h9⟩
    · cases hp

/-! ### Operations -/
def MB : BinOp → Bop → Prop
  | .add, .add | .sub, .sub | .mul, .mul | .quo, .quo | .rem, .rem | .and, .and | .or, .or | .xor, .xor | .andNot, .andNot | .shl, .shl | .shr, .shr
  | .eql, .eql | .neq, .neq | .lss, .lss | .leq, .leq | .gtr, .gtr | .geq, .geq => True
  | _, _ => False

inductive MArgs : Array Operand → List Opd → Prop
  | mk {xs : List Operand} {ys : List Opd} (h : xs.length = ys.length) (h' : ∀ (i : Nat) x y, xs[i]? = some x → ys[i]? = some y → MOpd x y) : MArgs xs.toArray ys

inductive MOpt : Option Operand → Option Opd → Prop
  | n : MOpt none none
  | s {x y} (h : MOpd x y) : MOpt (some x) (some y)

def plainT : TypeDesc → Value → Bool
  | .bool, .bool _ => true
  | .string, .string _ => true
  | .int _, .int _ _ => true
  | _, _ => false
/-- Fields of one plain cell each. -/
inductive PlainF (P : Program) : Nat → List Field → List Value → Prop
  | nil {j} : PlainF P j [] []
  | cons {j f fs z zs d} (ho : f.offset = j) (hn : (f.name == "_") = false) (hu : P.underlying f.type = some d) (hd : plainT d z = true) (hr : PlainF P (j + 1) fs zs) : PlainF P j (f :: fs) (z :: zs)
inductive MOp (P : Program) : Go.Op → Op → Prop
  | mv {x x'} (h : MOpd x x') : MOp P (.move x) (.mv x')
  | asg {x x'} (h : MOpd x x') : MOp P (.assign x) (.mv x')
  | pk {c a b c' a' b'} (h : MOpd c c') (ha : MOpd a a') (hb : MOpd b b') : MOp P (.pick c a b) (.pk c' a' b')
  | al {t z zv} {i : TypeInfo} (hi : P.info? t = some i) (hz : i.zero = some zv) (h : zv.cells.toList = z) (h1 : z.all Value.oneCell' = true) : MOp P (.alloc t) (.al z)
  | bx {t x x'} (h : MOpd x x') : MOp P (.box t x) (.bx x')
  | ld {t p p' n} (h : MOpd p p') (hs : Sz P t n) : MOp P (.load t p) (.ld n p')
  | ldm {t p p' n} (h : MOpd p p') (hs : Sz P t n) : MOp P (.load t p) (.ldm n p')
  | st {t p x p' x' n} {i : TypeInfo} (hp : MOpd p p') (hx : MOpd x x') (hi : P.info? t = some i) (hn : i.size = n) : MOp P (.store t p x) (.st n p' x')
  | bin {op op' t x y t' x' y'} (ho : MB op op') (hx : MOpd x x') (hy : MOpd y y') : MOp P (.binOp op t x y t') (.bin op' x' y')
  | no {t x x'} (hx : MOpd x x') : MOp P (.unOp .not t x) (.no x')
  | xr {t x x'} (hx : MOpd x x') : MOp P (.unOp .xor t x) (.un true x')
  | ng {t x x'} (hx : MOpd x x') : MOp P (.unOp .neg t x) (.un false x')
  | fa {t x x' f off} {fs : Array Field} {fd : Field} {i : TypeInfo} (hx : MOpd x x') (hu : P.underlying t = some (.struct fs)) (hf : fs[f]? = some fd) (ho : fd.offset = off) (hi : P.info? fd.type = some i) (h0 : i.size ≠ 0) : MOp P (.fieldAddr t x f) (.fa x' off)
  | ia {t e x y x' y' z} {i : TypeInfo} (hx : MOpd x x') (hy : MOpd y y') (hu : P.underlying t = some (.slice e)) (hi : P.info? e = some i) (hz : i.size = z) : MOp P (.indexAddr t x y) (.ia x' y' z)
  | ext {x x' i} (hx : MOpd x x') : MOp P (.extract x i) (.ext x' i)
  | call {f args args' ts} (hf : f < RL) (h : MArgs args args') : MOp P (.call ⟨.value (.func f), args, ts⟩) (.call f args')
  | calf {f args args' ts} (hf : f < RL) (h : MArgs args args') : MOp P (.call ⟨.value (.func f), args, ts⟩) (.calf f args')
  | cv {f f' args args' ts} (hf : MOpd f f') (h : MArgs args args') : MOp P (.call ⟨.value f, args, ts⟩) (.cv f' args')
  | lenS {x x' t e} (hx : MOpd x x') (hu : P.underlying t = some (.slice e)) : MOp P (.call ⟨.builtin .len, #[x], #[t]⟩) (.len x')
  | ap {w t tx e e' x y x' y' z by_ zv} {i : TypeInfo} (hx : MOpd x x') (hy : MOpd y y') (hu : P.underlying t = some (.slice e)) (hu' : P.underlying tx = some (.slice e')) (hi : P.info? e = some i) (hz : i.zero = some zv) (hs : i.size = z) (hb : i.bytes = by_) (hzs : zv.cells.size = z) (h0 : 0 < z) (h1 : 1 ≤ by_) :
      MOp P (.call ⟨.builtin .append, #[x, y], #[t, tx]⟩) (.ap w z by_ x' y')
  | bs {t e z zv} {ps : List Operand} {ps' : List Opd} {i : TypeInfo} (hl : ps.length = ps'.length) (hm : ∀ (j : Nat) x y, ps[j]? = some x → ps'[j]? = some y → MOpd x y) (hu : P.underlying t = some (.slice e)) (hi : P.info? e = some i) (hz : i.zero = some zv) (hs : i.size = z) (hzs : zv.cells.size = z) (h0 : 0 < z) (hlen : ps.length * z ≤ 16777216) :
      MOp P (.buildSlice t ps.length (((List.range ps.length).zip ps).toArray)) (.bs z ps')
  | mk {t e x y x' y' z by_ zv ze} {i : TypeInfo} (hx : MOpd x x') (hy : MOpd y y') (hu : P.underlying t = some (.slice e)) (hi : P.info? e = some i) (hz : i.zero = some zv) (hs : i.size = z) (hb : i.bytes = by_) (hzs : zv.cells.size = z) (h0 : 0 < z) (h1 : 1 ≤ by_)
      (hze : ze.cells = zv.cells.toList.map zc) (hze1 : zv.cells.toList.all Value.oneCell' = true) : MOp P (.makeSlice t x y) (.mk z by_ ze x' y')
  | bd {t zv z fs} {ps : List (Nat × Operand)} {ps' : List (Nat × Nat × Opd)} {i : TypeInfo} (hu : P.underlying t = some (.struct fs)) (hi : P.info? t = some i) (hz : i.zero = some zv) (hzc : zv.cells.toList = z) (hl : ps.length = ps'.length)
      (hm : ∀ (j : Nat) f x off sz y, ps[j]? = some (f, x) → ps'[j]? = some (off, sz, y) → MOpd x y ∧ ∃ (fd : Field) (fi : TypeInfo), fs[f]? = some fd ∧ fd.offset = off ∧ P.info? fd.type = some fi ∧ fi.size = sz) (hall : ∀ fd ∈ fs, (P.info? fd.type).isSome) : MOp P (.build t ps.toArray) (.bd z ps')
  | slc {t e x x' z} {lo hg : Option Operand} {lo' hg' : Option Opd} {i : TypeInfo} (hx : MOpd x x') (hu : P.underlying t = some (.slice e)) (hi : P.info? e = some i) (hs : i.size = z) (hlo : MOpt lo lo') (hhi : MOpt hg hg') : MOp P (.slice t x lo hg none) (.slc z x' lo' hg')
  | eqn {t e x x' t'} (hx : MOpd x x') (hu : P.underlying t = some (.slice e)) : MOp P (.binOp .eql t x (.const (.slice none 0 0)) t') (.eqn false x')
  | nen {t e x x' t'} (hx : MOpd x x') (hu : P.underlying t = some (.slice e)) : MOp P (.binOp .neq t x (.const (.slice none 0 0)) t') (.eqn true x')
  | eqs {t x y x' y' t'} (hx : MOpd x x') (hy : MOpd y y') : MOp P (.binOp .eql t x y t') (.eqs false x' y')
  | nes {t x y x' y' t'} (hx : MOpd x x') (hy : MOpd y y') : MOp P (.binOp .neq t x y t') (.eqs true x' y')
  | eqb {t x y x' y' t'} (hx : MOpd x x') (hy : MOpd y y') (hu : P.underlying t = some .bool) : MOp P (.binOp .eql t x y t') (.eqb false x' y')
  | neb {t x y x' y' t'} (hx : MOpd x x') (hy : MOpd y y') (hu : P.underlying t = some .bool) : MOp P (.binOp .neq t x y t') (.eqb true x' y')
  | eqa {t x y x' y' t' z} {fs : Array Field} (hx : MOpd x x') (hy : MOpd y y') (hu : P.underlying t = some (.struct fs)) (hp : P.stoodInHeld t = false) (hq : P.eqGuardType P.depth t = false) (hf : PlainF P 0 fs.toList z) : MOp P (.binOp .eql t x y t') (.eqa false z x' y')
  | nea {t x y x' y' t' z} {fs : Array Field} (hx : MOpd x x') (hy : MOpd y y') (hu : P.underlying t = some (.struct fs)) (hp : P.stoodInHeld t = false) (hq : P.eqGuardType P.depth t = false) (hf : PlainF P 0 fs.toList z) : MOp P (.binOp .neq t x y t') (.eqa true z x' y')
  | sh {op op' t x y t' x' y'} (ho : MB op op') (hx : MOpd x x') (hy : MOpd y y') : MOp P (.binOp op t x y t') (.sh op' x' y')
  | ci {s t k x x' d} (hx : MOpd x x') (hs : P.underlying s = some d) (hu : P.underlying t = some (.int k)) : MOp P (.convert s t x) (.ci k x')
  | mf {f caps caps'} (hf : f < RL) (h : MArgs caps caps') : MOp P (.makeFunc (.func f) #[] caps) (.mf f caps')
  | nck {x x'} (hx : MOpd x x') : MOp P (.nilCheck x) (.nck x')
  | mn {x x' ts} {xs : List Operand} {xs' : List Opd} (hx : MOpd x x') (hl : xs.length = xs'.length) (hm : ∀ (i : Nat) x y, xs[i]? = some x → xs'[i]? = some y → MOpd x y) : MOp P (.call ⟨.builtin .min, (x :: xs).toArray, ts⟩) (.mm false x' xs')
  | mx {x x' ts} {xs : List Operand} {xs' : List Opd} (hx : MOpd x x') (hl : xs.length = xs'.length) (hm : ∀ (i : Nat) x y, xs[i]? = some x → xs'[i]? = some y → MOpd x y) : MOp P (.call ⟨.builtin .max, (x :: xs).toArray, ts⟩) (.mm true x' xs')
  | lenT {x x' t} (hx : MOpd x x') (hu : P.underlying t = some .string) : MOp P (.call ⟨.builtin .len, #[x], #[t]⟩) (.lns x')

/-- What an operation that gives a value comes to. -/
def Gives (P : Program) (o : Oper) (g : G) (w : World) (n : Nat) (a : Act) (s : S) (d : D) (s' : S) : Prop :=
  ∃ x w' g', (execOp a.eval o).run P w = .ok (.value x) w' ∧ SN g' w' n a.tmps s' ∧ RT g' w' (flyL 0) x d ∧ Ext s.k g w g' w' ∧ s'.k = s.k

theorem rd_v {g : G} {w : World} {n : Nat} {a : Act} {s : S} (h : SN g w n a.tmps s) {x : Operand} {x' : Opd} (hm : MOpd x x') {y : Value} (hy : (rd x' s).1 = .v y) : a.eval x = y := by
  obtain ⟨L, hL⟩ := rd_at h hm
  rw [hy] at hL
  exact hL

section
variable {o : Oper} {g : G} {w : World} {n : Nat} {a : Act} {s s' : S} {d : D} {call : Caller} {t : Option Nat}

theorem gives_mv {x : Operand} {x' : Opd} (ho : o.op = .move x ∨ o.op = .assign x) (hx : MOpd x x') (h : SN g w n a.tmps s) (he : evOp call t (.mv x') s = some (d, s')) : Gives P o g w n a s d s' := by
  simp only [evOp] at he
  injection he with he
  obtain ⟨g', h1, h2, h3, _⟩ := rd_fly h hx 0
  rw [he] at h1 h2
  refine ⟨a.eval x, w, g', ?_, h1, h2, h3, by have := rd_k x' s; rw [he] at this; exact this⟩
  rcases ho with ho | ho <;> simp [execOp, ho]

theorem gives_pk {c x y : Operand} {c' x' y' : Opd} (ho : o.op = .pick c x y) (hc : MOpd c c') (hx : MOpd x x') (hy : MOpd y y') (h : SN g w n a.tmps s) (he : evOp call t (.pk c' x' y') s = some (d, s')) : Gives P o g w n a s d s' := by
  simp only [evOp] at he
  split at he
  · rename_i q hq
    have hcv := rd_v h hc hq
    injection he with he
    cases q with
    | true =>
      simp only [if_true] at he
      obtain ⟨g', h1, h2, h3, _⟩ := rd_fly h hx 0
      rw [he] at h1 h2
      exact ⟨a.eval x, w, g', by simp [execOp, ho, hcv, asBool], h1, h2, h3, by have := rd_k x' s; rw [he] at this; exact this⟩
    | false =>
      simp only [Bool.false_eq_true, if_false] at he
      obtain ⟨g', h1, h2, h3, _⟩ := rd_fly h hy 0
      rw [he] at h1 h2
      exact ⟨a.eval y, w, g', by simp [execOp, ho, hcv, asBool], h1, h2, h3, by have := rd_k y' s; rw [he] at this; exact this⟩
  · cases he

theorem gives_no {x : Operand} {x' : Opd} {ty : TypeId} (ho : o.op = .unOp .not ty x) (hx : MOpd x x') (h : SN g w n a.tmps s) (he : evOp call t (.no x') s = some (d, s')) : Gives P o g w n a s d s' := by
  simp only [evOp] at he
  split at he
  · rename_i b hb
    have hv := rd_v h hx hb
    injection he with he
    injection he with h1 h2
    subst h1 h2
    exact ⟨.bool !b, w, g, by simp [execOp, ho, hv, Op.unary], h, rfl, Ext.refl _ _ _, rfl⟩
  · cases he

theorem gives_bin {op : BinOp} {op' : Bop} {ty ty' : TypeId} {x y : Operand} {x' y' : Opd} (ho : o.op = .binOp op ty x y ty') (hop : MB op op') (hx : MOpd x x') (hy : MOpd y y') (h : SN g w n a.tmps s) (he : evOp call t (.bin op' x' y') s = some (d, s')) : Gives P o g w n a s d s' := by
  simp only [evOp] at he
  split at he
  · rename_i k p k' q h1 h2
    have hv1 := rd_v h hx h1
    have hv2 := rd_v h hy h2
    split at he
    · rename_i hk
      subst hk
      cases hb : bz op' k p q with
      | none => rw [hb] at he; cases he
      | some v =>
        rw [hb] at he
        simp only [Option.map_some] at he
        injection he with he
        injection he with e1 e2
        subst e1 e2
        refine ⟨v, w, g, ?_, h, rfl, Ext.refl _ _ _, rfl⟩
        cases op' with
        | quo =>
          simp only [bz] at hb
          by_cases h0 : q = 0
          · rw [if_pos h0] at hb; cases hb
          · rw [if_neg h0] at hb; injection hb with hb; subst hb
            cases op <;> first | exact hop.elim | simp [execOp, ho, hv1, hv2, Go.eqGuard, Go.binOp, Go.Op.intDiv, h0]
        | rem =>
          simp only [bz] at hb
          by_cases h0 : q = 0
          · rw [if_pos h0] at hb; cases hb
          · rw [if_neg h0] at hb; injection hb with hb; subst hb
            cases op <;> first | exact hop.elim | simp [execOp, ho, hv1, hv2, Go.eqGuard, Go.binOp, Go.Op.intDiv, h0]
        | shl => simp [bz] at hb
        | shr => simp [bz] at hb
        | _ =>
          simp only [bz] at hb
          injection hb with hb
          subst hb
          cases op <;> first | exact hop.elim | simp [execOp, ho, hv1, hv2, Go.eqGuard, Go.binOp, Go.Op.intArith, Go.Op.intCmp, Go.Op.intBits]
    · cases he
  · cases he

theorem Ext.mvk {ρ : Loc → Loc} {k : Nat} (h : ∀ ℓ : Loc, ℓ.k = 0 → ℓ.f < k → ρ ℓ = ℓ) : Ext k g w (g.mv ρ) w := g.mv_ext w ρ k h

theorem gives_ext {x : Operand} {x' : Opd} {i : Nat} (ho : o.op = .extract x i) (hx : MOpd x x') (h : SN g w n a.tmps s) (he : evOp call t (.ext x' i) s = some (d, s')) : Gives P o g w n a s d s' := by
  have other : ∀ ds, (rd x' s).1 = .tup ds → (ds[i]?).map (fun d => (d, s)) = some (d, s') → (∀ d, d ∈ ds → ∀ g L L' x, RV g w L x d → RV g w L' x d) → Gives P o g w n a s d s' := by
    intro ds h1 h2 h3
    obtain ⟨d0, h4, h5⟩ := Option.map_eq_some_iff.1 h2
    injection h5 with e1 e2
    subst e1 e2
    obtain ⟨L, hL⟩ := rd_at h hx
    rw [h1] at hL
    obtain ⟨vs, h6, h7, h8⟩ := hL
    obtain ⟨y, h9, h10⟩ := h8 i d0 h4
    refine ⟨y, w, g, by simp [execOp, ho, Instr.extract, h6, h9], h, ?_, Ext.refl _ _ _, rfl⟩
    exact (h3 d0 (List.mem_of_getElem? h4) g (L i) (flyL 0 0) y h10).toRT
  cases hx with
  | m t =>
    simp only [evOp] at he
    split at he
    · rename_i ds hds
      obtain ⟨d0, h4, h5⟩ := Option.map_eq_some_iff.1 he
      injection h5 with e1 e2
      subst e1 e2
      have hL := h.st.e t
      rw [hds] at hL
      obtain ⟨vs, h6, h7, h8⟩ := hL
      obtain ⟨y, h9, h10⟩ := h8 i d0 h4
      let ρ : Loc → Loc := fun ℓ => if ℓ = slotL s.k t i ℓ.c then flyL 0 0 ℓ.c else ℓ
      have hρ : ∀ ℓ, ℓ ≠ slotL s.k t i ℓ.c → ρ ℓ = ℓ := fun ℓ hl => by simp only [ρ, if_neg hl]
      have hρ' : ∀ c, ρ (slotL s.k t i c) = flyL 0 0 c := fun c => by simp [ρ, slotL]
      have hd2 : RV (g.mv ρ) w (flyL 0 0) y d0 := h10.keep fun c => g.mv_keep' w ρ (hρ' c)
      have hi := getq_lt h4
      refine ⟨y, w, g.mv ρ, ?_, ⟨⟨h.st.inv.mv _, h.st.sb.mv _ fun f b c => hρ _ (by simp [boxL, slotL]), fun t' => ?_⟩, h.size⟩, ?_, g.mv_ext w _ _ fun ℓ h0 hk => hρ _ fun e => by rw [e] at hk; simp [slotL] at hk, rfl⟩
      · have : a.eval (.tmp t) = .tuple vs := h6
        simp [execOp, ho, Instr.extract, this, h9]
      · show RT _ _ (slotL s.k t') _ (get t' ((t, _) :: s.e))
        by_cases e : t' = t
        · subst e
          simp only [get, if_true]
          refine ⟨vs, h6, by simpa using h7, fun i' d' hd' => ?_⟩
          rw [List.getElem?_set] at hd'
          by_cases ei : i = i'
          · subst ei
            simp only [if_true, hi] at hd'
            injection hd' with hd'
            subst hd'
            exact ⟨y, h9, hd2.strip _⟩
          · simp only [if_neg ei] at hd'
            obtain ⟨y', h11, h12⟩ := h8 i' d' hd'
            refine ⟨y', h11, h12.keep fun c => g.mv_keep' w _ (hρ _ fun e => ?_)⟩
            simp [slotL] at e
            exact ei e.symm
        · simp only [get, if_neg e]
          exact (h.st.e t').keep fun i c => g.mv_keep' w _ (hρ _ fun e' => by simp [slotL] at e'; exact e e'.1)
      · exact hd2.toRT
    · cases he
  | t m =>
    simp only [evOp] at he
    split at he
    · rename_i ds hds
      refine other ds hds he fun d hd g L L' x hv => ?_
      simp only [rd] at hds
      rcases tup_or (get m s.e) with ⟨es, h1⟩ | h1
      · rw [h1] at hds
        simp only [D.strip] at hds
        injection hds with hds
        subst hds
        obtain ⟨d0, _, rfl⟩ := List.mem_map.1 hd
        have h2 : d0.strip2.strip2 = d0.strip2 := by
          rcases agg_or d0 with ⟨cs, rfl⟩ | hh
          · simp only [D.strip2, List.map_map, D.agg.injEq]
            refine List.map_congr_left fun c _ => ?_
            cases c with
            | sl m z xs => cases m <;> rfl
            | _ => rfl
          · rw [strip2_ne hh, strip2_ne strip1_agg]
            cases d0 with
            | sl m z xs => cases m <;> rfl
            | _ => rfl
        rw [← h2]
        exact hv.strip L'
      · rw [strip_ne h1] at hds
        have := strip2_tup (d := get m s.e)
        rw [hds] at this
        cases this
    · cases he
  | c x => simp [evOp, rd] at he
  | cn => simp [evOp, rd] at he
  | f m => simp [evOp, rd] at he

theorem RC.slice {ℓ : Loc} {x : Value} {m : Mode} {z : Nat} {xs : List D} (hr : RC g w ℓ x (.sl m z xs)) : ∃ b cap, x = .slice b xs.length cap := by
  cases m with
  | nl => cases (show RF w g.fr x (.sl .nl z xs) from hr) with | nl z => exact ⟨none, 0, rfl⟩
  | ro => cases (show RF w g.fr x (.sl .ro z xs) from hr) with | ro b off cap z xs val => exact ⟨_, cap, rfl⟩ | z a z => exact ⟨_, 0, rfl⟩
  | app => obtain ⟨b, off, cap, cur, e, val, h1, _⟩ := (show Own g w _ x .app z xs from hr); exact ⟨_, cap, h1⟩
  | mu => obtain ⟨b, off, cap, cur, e, val, h1, _⟩ := (show Own g w _ x .mu z xs from hr); exact ⟨_, cap, h1⟩

theorem gives_len {x : Operand} {x' : Opd} {ty e : TypeId} (ho : o.op = .call ⟨.builtin .len, #[x], #[ty]⟩) (hu : P.underlying ty = some (.slice e)) (hx : MOpd x x') (h : SN g w n a.tmps s) (he : evOp call t (.len x') s = some (d, s')) : Gives P o g w n a s d s' := by
  obtain ⟨L, hL⟩ := rd_at h hx
  simp only [evOp] at he
  split at he
  · rename_i m z xs hxs
    rw [hxs] at hL
    injection he with he
    injection he with e1 e2
    subst e1 e2
    obtain ⟨b, cap, hv⟩ := RC.slice (show RC g w (L 0 0) (a.eval x) (.sl m z xs) from hL)
    exact ⟨.int .i64 xs.length, w, g, by simp [execOp, ho, resolve, invoke, builtin, Builtin.len_, run_underlying hu, hv, goInt], h, rfl, Ext.refl _ _ _, rfl⟩
  · rename_i f b off m z hxs
    rw [hxs] at hL
    injection he with he
    injection he with e1 e2
    subst e1 e2
    obtain ⟨_, blk, cap, off', h1, hv, _⟩ := (show RC g w (L 0 0) (a.eval x) (.ref f b off m z) from hL)
    exact ⟨.int .i64 m, w, g, by simp [execOp, ho, resolve, invoke, builtin, Builtin.len_, run_underlying hu, hv, goInt], h, rfl, Ext.refl _ _ _, rfl⟩
  · cases he

theorem gives_lns {x : Operand} {x' : Opd} {ty : TypeId} (ho : o.op = .call ⟨.builtin .len, #[x], #[ty]⟩) (hu : P.underlying ty = some .string) (hx : MOpd x x') (h : SN g w n a.tmps s) (he : evOp call t (.lns x') s = some (d, s')) : Gives P o g w n a s d s' := by
  simp only [evOp] at he
  split at he
  · rename_i b hb
    have hv := rd_v h hx hb
    injection he with he
    injection he with e1 e2
    subst e1 e2
    exact ⟨.int .i64 b.size, w, g, by simp [execOp, ho, resolve, invoke, builtin, Builtin.len_, run_underlying hu, hv, goInt], h, rfl, Ext.refl _ _ _, rfl⟩
  · cases he

theorem run_fieldAt' {ty : TypeId} {fs : Array Field} {f off : Nat} {fd : Field} {i : TypeInfo} (hu : P.underlying ty = some (.struct fs)) (hf : fs[f]? = some fd) (ho : fd.offset = off) (hi : P.info? fd.type = some i) (h0 : i.size ≠ 0) (w : World) (b o : Nat) :
    (Instr.fieldAt ty (.pointer (some ⟨b, o, none⟩)) f).run P w = .ok (.pointer (some ⟨b, o + off, none⟩)) w := by
  simp [Instr.fieldAt, run_underlying hu, hf, Instr.sureAddr, fieldPlace, run_sizeOf' hi, h0, ho, add_lit]

theorem gives_fa {x : Operand} {x' : Opd} {ty : TypeId} {fs : Array Field} {f off : Nat} {fd : Field} {i : TypeInfo} (ho : o.op = .fieldAddr ty x f) (hx : MOpd x x') (hu : P.underlying ty = some (.struct fs)) (hf : fs[f]? = some fd) (hoff : fd.offset = off) (hi : P.info? fd.type = some i) (h0 : i.size ≠ 0)
    (h : SN g w n a.tmps s) (he : evOp call t (.fa x' off) s = some (d, s')) : Gives P o g w n a s d s' := by
  obtain ⟨L, hL⟩ := rd_at h hx
  simp only [evOp] at he
  split at he
  · rename_i fr b off0 hx1
    rw [hx1] at hL
    injection he with he
    injection he with e1 e2
    subst e1 e2
    obtain ⟨hRL, blk, h1, h2⟩ := (show RP g w (a.eval x) (.ptr fr b off0) from hL)
    refine ⟨_, w, g, by simp [execOp, ho, h2, run_fieldAt' hu hf hoff hi h0], h, (show RP g w _ (.ptr fr b (off0 + off)) from ⟨hRL, blk, h1, rfl⟩), Ext.refl _ _ _, rfl⟩
  · rename_i cs off0 hx1
    rw [hx1] at hL
    injection he with he
    injection he with e1 e2
    subst e1 e2
    obtain ⟨blk, o0, val, h1, h2, h3⟩ := (show RP g w (a.eval x) (.fptr cs off0) from hL)
    refine ⟨.pointer (some ⟨blk, o0 + off0 + off, none⟩), w, g, by simp [execOp, ho, h1, run_fieldAt' hu hf hoff hi h0], h, (show RP g w _ (.fptr cs (off0 + off)) from ⟨blk, o0, val, by rw [Nat.add_assoc], h2, h3⟩), Ext.refl _ _ _, rfl⟩
  · cases he

/-- The elements of a list that may be read. -/
theorem RC.elem {ℓ : Loc} {x : Value} {m : Mode} {z : Nat} {xs : List D} (hr : RC g w ℓ x (D.sl m z xs).strip1) {i : Nat} {d : D} (hi : xs[i]? = some d) (hm : m ≠ .mu) :
    ∃ b off cap, x = .slice (some ⟨b, off, none⟩) xs.length cap ∧ d.cells.length = z ∧ off + i * z + z ≤ g.fr b ∧ ∀ (j : Nat) c, d.cells[j]? = some c → ∃ y, w.cell? ⟨b, off + i * z + j, none⟩ = some y ∧ RF w g.fr y c := by
  have main : RF w g.fr x (.sl .ro z xs) → ∃ b off cap, x = .slice (some ⟨b, off, none⟩) xs.length cap ∧ d.cells.length = z ∧ off + i * z + z ≤ g.fr b ∧ ∀ (j : Nat) c, d.cells[j]? = some c → ∃ y, w.cell? ⟨b, off + i * z + j, none⟩ = some y ∧ RF w g.fr y c := by
    intro hf
    cases hf with
    | z a z => simp at hi
    | ro b off cap z xs val h1 h2 h3 h4 h5 h6 =>
      rcases h3 with rfl | h3
      · simp at hi
      refine ⟨b, off, cap, rfl, h4 i d hi, ?_, fun j c hc => ⟨_, h5 i d j c hi hc, h6 i d j c hi hc⟩⟩
      have hl := getq_lt hi
      have : (i + 1) * z ≤ xs.length * z := Nat.mul_le_mul_right z hl
      rw [Nat.add_mul, Nat.one_mul] at this
      omega
  cases m with
  | nl =>
    cases (show RF w g.fr x (.sl .nl z xs) from hr) with
    | nl z => simp at hi
  | ro => exact main hr
  | app => exact main hr
  | mu => exact absurd rfl hm

theorem gives_ia {x y : Operand} {x' y' : Opd} {ty e : TypeId} {z : Nat} {i : TypeInfo} (ho : o.op = .indexAddr ty x y) (hx : MOpd x x') (hy : MOpd y y') (hu : P.underlying ty = some (.slice e)) (hi : P.info? e = some i) (hz : i.size = z)
    (h : SN g w n a.tmps s) (he : evOp call t (.ia x' y' z) s = some (d, s')) : Gives P o g w n a s d s' := by
  obtain ⟨L, hL⟩ := rd_at h hx
  simp only [evOp] at he
  split at he
  · rename_i m z' xs k iv h1 h2
    have hv := rd_v h hy h2
    rw [h1] at hL
    split at he
    · rename_i hc
      obtain ⟨hzz, h0, hm⟩ := hc
      subst hzz
      obtain ⟨d0, h4, h5⟩ := Option.map_eq_some_iff.1 he
      injection h5 with e1 e2
      subst e1 e2
      have hr := (show RC g w (L 0 0) (a.eval x) (.sl m z xs) from hL).strip (L 0 0)
      obtain ⟨b, off, cap, h6, h7, h8, h9⟩ := hr.elem h4 (by simpa using hm)
      obtain ⟨ys, h10, h11⟩ := choose_cells h9
      obtain ⟨q, rfl⟩ := Int.eq_ofNat_of_zero_le h0
      have hlt := getq_lt h4
      rw [Int.toNat_natCast] at hlt h8 h9 h11
      refine ⟨.pointer (some ⟨b, off + q * z, none⟩), w, g, ?_, h, ?_, Ext.refl _ _ _, rfl⟩
      · simp [execOp, ho, hv, h6, Instr.indexAt, asIntOf, run_underlying hu, run_sizeOf' hi, hz, hlt, add_lit]
      · refine (show RP g w _ (.fptr d0.cells 0) from ⟨b, off + q * z, fun j => ys.getD j undef, rfl, by omega, fun j c hj => ?_⟩)
        obtain ⟨y, h12, h13, h14⟩ := h11 j c hj
        have : ys.getD j undef = y := by simp [List.getD, h12]
        simp only [this]
        exact ⟨h13, h14⟩
    · cases he
  · rename_i f b off m z' k iv h1 h2
    have hv := rd_v h hy h2
    rw [h1] at hL
    split at he
    · rename_i hc
      obtain ⟨hzz, h0, hlt⟩ := hc
      subst hzz
      injection he with he
      injection he with e1 e2
      subst e1 e2
      obtain ⟨hRL, blk, cap, off', h3, h4, _, _, h5⟩ := (show RC g w (L 0 0) (a.eval x) (.ref f b off m z) from hL)
      obtain ⟨q, rfl⟩ := Int.eq_ofNat_of_zero_le h0
      rw [Int.toNat_natCast]
      have hlt' : q < m := by omega
      have h5 : off' = off := by omega
      subst h5
      refine ⟨.pointer (some ⟨blk, off' + q * z, none⟩), w, g, ?_, h, (show RP g w _ (.ptr f b (off' + q * z)) from ⟨hRL, blk, h3, rfl⟩), Ext.refl _ _ _, rfl⟩
      simp [execOp, ho, hv, h4, Instr.indexAt, asIntOf, run_underlying hu, run_sizeOf' hi, hz, hlt', add_lit]
    · cases he
  · cases he
end
end Go.Proofs.Ytlhjdikklmkihaa.Ev
