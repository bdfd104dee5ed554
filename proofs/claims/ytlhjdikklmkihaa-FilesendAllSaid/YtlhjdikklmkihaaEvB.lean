/- What data say of the machine's values and memory. Conditions: none. -/
import Derived.Test.YtlhjdikklmkihaaEvA
import Derived.Test.YtlhjdikklmkihaaEvZ
import Derived.Laws.AppendOwn
import Derived.Laws.Rows
import Derived.Laws.CopyRow
set_option linter.all false
namespace Go.Proofs.Ytlhjdikklmkihaa.Ev
open Go

structure Loc where
  (k f s i c : Nat)
  deriving DecidableEq
def slotL (f t : Nat) (i c : Nat) : Loc := ⟨0, f, t, i, c⟩
def boxL (f b : Nat) (c : Nat) : Loc := ⟨1, f, b, 0, c⟩
def retL (i c : Nat) : Loc := ⟨2, 0, 0, i, c⟩

/-- Which block a variable is, how far a block is never written any more, and who may write a block behind that. -/
structure G where
  base : Nat
  bx : Nat → Nat → Option Nat
  fr : Nat → Nat
  tk : Nat → Option Loc
  dm : Nat → Bool

/-- Names from here on are those of loops' records. -/
def RL : Nat := 1000000
/-- The rounds that code holds. -/
def rounds : Code → List (Array Tmp × Code × Code)
  | .seq a b => rounds a ++ rounds b
  | .cond _ a b => rounds a ++ rounds b
  | .block _ c => rounds c
  | .loop c => rounds c
  | .scope c => rounds c
  | .rangeFunc _ ps a c => (ps, a, c) :: (rounds a ++ rounds c)
  | _ => []
/-- A round: the frame's size, its parameters, what is done first, what is done then. -/
def roundOf (P : Program) (rid : Nat) : Option (Nat × Array Tmp × Code × Code) :=
  (P.funcs[(rid - RL) / 1000]?).bind fun fn => fn.body.bind fun c => ((rounds c)[(rid - RL) % 1000]?).map fun p => (fn.ntmps, p)
def stOf : Nat → LoopState
  | 0 => .ready
  | 1 => .busy
  | 2 => .done
  | _ => .exhausted
def jumpOf : Nat → Option Code
  | 0 => none
  | 1 => some .ret
  | n + 2 => some (.exit n)

/-- What is never written any more. -/
inductive RF (w : World) (fr : Nat → Nat) : Value → D → Prop
  | v (x : Value) (h : x.oneCell' = true) : RF w fr x (.v x)
  | nl (z : Nat) : RF w fr (.slice none 0 0) (.sl .nl z [])
  | z (a : Addr) (z : Nat) : RF w fr (.slice (some a) 0 0) (.sl .ro z [])
  | ro (b off cap z : Nat) (xs : List D) (val : Nat → Nat → Value) (h1 : xs.length ≤ cap) (h2 : cap ≤ maxLen) (h3 : xs = [] ∨ off + xs.length * z ≤ fr b)
      (h4 : ∀ (i : Nat) d, xs[i]? = some d → d.cells.length = z)
      (h5 : ∀ (i : Nat) d (j : Nat) c, xs[i]? = some d → d.cells[j]? = some c → w.cell? ⟨b, off + i * z + j, none⟩ = some (val i j))
      (h6 : ∀ (i : Nat) d (j : Nat) c, xs[i]? = some d → d.cells[j]? = some c → RF w fr (val i j) c) :
      RF w fr (.slice (some ⟨b, off, none⟩) xs.length cap) (.sl .ro z xs)

theorem lt_of_el {i j n z : Nat} (hi : i < n) (hj : j < z) : i * z + j < n * z := by
  have : (i + 1) * z ≤ n * z := Nat.mul_le_mul_right z hi
  rw [Nat.add_mul, Nat.one_mul] at this
  omega
theorem getq_lt {α : Type} {l : List α} {i : Nat} {x : α} (h : l[i]? = some x) : i < l.length := by
  rcases Nat.lt_or_ge i l.length with h' | h'
  · exact h'
  · rw [List.getElem?_eq_none h'] at h; cases h

theorem RF.mono {w w' : World} {fr fr' : Nat → Nat} {x : Value} {d : D} (h : RF w fr x d) (hc : ∀ b o, o < fr b → w'.cell? ⟨b, o, none⟩ = w.cell? ⟨b, o, none⟩) (hf : ∀ b, fr b ≤ fr' b) : RF w' fr' x d := by
  induction h with
  | v x h => exact .v x h
  | nl z => exact .nl z
  | z a z => exact .z a z
  | ro b off cap z xs val h1 h2 h3 h4 h5 h6 ih =>
    refine .ro b off cap z xs val h1 h2 (h3.imp id fun q => Nat.le_trans q (hf b)) h4 (fun i d j c hi hj => ?_) (fun i d j c hi hj => ih i d j c hi hj)
    rcases h3 with rfl | h3
    · simp at hi
    rw [hc, h5 i d j c hi hj]
    have := lt_of_el (getq_lt hi) (h4 i d hi ▸ getq_lt hj)
    omega

/-- A list of which a block's front is told, and of which the rest may be filled. -/
def Own (g : G) (w : World) (ℓ : Loc) (x : Value) (m : Mode) (z : Nat) (xs : List D) : Prop :=
  ∃ b off cap cur e, ∃ val : Nat → Nat → Value, x = .slice (some ⟨b, off, none⟩) xs.length cap ∧ w.heap[b]? = some (.cells cur e (0, 0)) ∧ xs.length ≤ cap ∧ cap ≤ maxLen ∧ off + cap * z ≤ cur.size ∧
    g.tk b = some ℓ ∧ g.fr b = (match m with | .app => off + xs.length * z | _ => 0) ∧ (m = .mu → off = 0) ∧
    (∀ (i : Nat) d, xs[i]? = some d → d.cells.length = z) ∧
    (∀ (i : Nat) d (j : Nat) c, xs[i]? = some d → d.cells[j]? = some c → w.cell? ⟨b, off + i * z + j, none⟩ = some (val i j)) ∧
    (∀ (i : Nat) d (j : Nat) c, xs[i]? = some d → d.cells[j]? = some c → RF w g.fr (val i j) c)

/-- What a pointer's or a captured value's data say. -/
def RP (g : G) (w : World) (x : Value) : D → Prop
  | .v y => x = y
  | .ptr f s off => s < RL ∧ ∃ b, g.bx f s = some b ∧ x = .pointer (some ⟨b, off, none⟩)
  | .fptr cs off => ∃ b o, ∃ val : Nat → Value, x = .pointer (some ⟨b, o + off, none⟩) ∧ o + cs.length ≤ g.fr b ∧ ∀ (j : Nat) c, cs[j]? = some c → w.cell? ⟨b, o + j, none⟩ = some (val j) ∧ RF w g.fr (val j) c
  | _ => False

def RC (g : G) (w : World) (ℓ : Loc) (x : Value) : D → Prop
  | .u => True
  | .v y => x = y
  | .sl .app z xs => Own g w ℓ x .app z xs
  | .sl .mu z xs => Own g w ℓ x .mu z xs
  | .sl .nl z xs => RF w g.fr x (.sl .nl z xs)
  | .sl .ro z xs => RF w g.fr x (.sl .ro z xs)
  | .ptr f s off => RP g w x (.ptr f s off)
  | .ref f s off n z => s < RL ∧ ∃ b cap off', g.bx f s = some b ∧ x = .slice (some ⟨b, off', none⟩) n cap ∧ n ≤ cap ∧ cap ≤ maxLen ∧ (n = 0 ∨ off' = off)
  | .fptr cs off => RP g w x (.fptr cs off)
  | .clo fn caps => fn < RL ∧ ∃ vs, x = .func (.func fn) #[] vs ∧ vs.size = caps.length ∧ ∀ (j : Nat) d, caps[j]? = some d → ∃ y, vs[j]? = some y ∧ RP g w y d
  | .yld f s => RL ≤ s ∧ ∃ l, g.bx f s = some l ∧ x = .func (.yield l) #[] #[]
  | _ => False
def RV (g : G) (w : World) (L : Nat → Loc) (x : Value) : D → Prop
  | .agg ds => ∃ cs, x = .agg cs ∧ cs.size = ds.length ∧ ∀ (c : Nat) d, ds[c]? = some d → ∃ y, cs[c]? = some y ∧ RC g w (L c) y d
  | d => RC g w (L 0) x d
def RT (g : G) (w : World) (L : Nat → Nat → Loc) (x : Value) : D → Prop
  | .tup ds => ∃ vs, x = .tuple vs ∧ vs.size = ds.length ∧ ∀ (i : Nat) d, ds[i]? = some d → ∃ y, vs[i]? = some y ∧ RV g w (L i) y d
  | d => RV g w (L 0) x d

/-- A variable's cells. -/
def RBc (g : G) (w : World) (f s : Nat) (ds : List D) : Prop :=
  ∃ b cs e, g.bx f s = some b ∧ w.heap[b]? = some (.cells cs e (0, 0)) ∧ ds.length ≤ cs.size ∧ ∀ (c : Nat) d, ds[c]? = some d → ∃ y, cs[c]? = some y ∧ RC g w (boxL f s c) y d
/-- A loop's record. -/
def RBr (g : G) (w : World) (f s : Nat) (ds : List D) : Prop :=
  ∃ l r st j rid ks caps, g.bx f s = some l ∧ w.heap[l]? = some (.loop r) ∧ ds = .rcd st j rid ks :: caps ∧ RL ≤ rid ∧ roundOf PP rid = some (r.tmps.size, r.params, r.assign, r.body) ∧ r.state = stOf st ∧ r.pending = jumpOf j ∧ ks.length = caps.length ∧
    ∀ (c : Nat) d t, caps[c]? = some d → ks[c]? = some t → RC g w (boxL f s c) (r.tmps.getD t undef) d
def RB (g : G) (w : World) (f s : Nat) (ds : List D) : Prop := (s < RL ∧ RBc g w f s ds) ∨ (RL ≤ s ∧ RBr g w f s ds)
theorem RB.bx {g : G} {w : World} {f s : Nat} {ds : List D} (h : RB g w f s ds) : (g.bx f s).isSome := by
  rcases h with ⟨_, b, cs, e, h1, _⟩ | ⟨_, l, r, st, j, rid, ks, caps, h1, _⟩ <;> rw [h1] <;> rfl
theorem RB.c {g : G} {w : World} {f s : Nat} {ds : List D} (h : RB g w f s ds) (hs : s < RL) : RBc g w f s ds := by
  rcases h with ⟨_, h⟩ | ⟨h, _⟩
  · exact h
  · omega
theorem RB.r {g : G} {w : World} {f s : Nat} {ds : List D} (h : RB g w f s ds) (hs : RL ≤ s) : RBr g w f s ds := by
  rcases h with ⟨h, _⟩ | ⟨_, h⟩
  · omega
  · exact h

structure Inv (g : G) (w : World) : Prop where
  base : g.base ≤ w.heap.size
  fresh : ∀ b, w.heap.size ≤ b → g.fr b = 0 ∧ g.tk b = none
  box : ∀ f s b, g.bx f s = some b → g.base ≤ b ∧ b < w.heap.size ∧ g.fr b = 0 ∧ g.tk b = none
  inj : ∀ f s f' s' b, g.bx f s = some b → g.bx f' s' = some b → f = f' ∧ s = s'
  tk : ∀ b ℓ, g.tk b = some ℓ → g.base ≤ b
  cells : ∀ b o, o < g.fr b → (w.cell? ⟨b, o, none⟩).isSome
  dm : ∀ b, g.dm b = true → g.base ≤ b ∧ w.heap[b]? = some (.deferred (some []))
  dt : ∀ b, g.dm b = true → g.tk b = none
theorem Inv.mkc {g : G} {w : World} (h : Inv g w) {b : Nat} {cs : Array Value} {e : TypeId} {q : Nat × Nat} (hb : w.heap[b]? = some (.cells cs e q)) : g.dm b = false := by
  cases hm : g.dm b with
  | false => rfl
  | true => rw [(h.dm b hm).2] at hb; cases hb
theorem Inv.mkl {g : G} {w : World} (h : Inv g w) {b : Nat} {r : Loop} (hb : w.heap[b]? = some (.loop r)) : g.dm b = false := by
  cases hm : g.dm b with
  | false => rfl
  | true => rw [(h.dm b hm).2] at hb; cases hb

/-- What lies in frames below k is as it was, and nothing is written that was told never to be. -/
structure Ext (k : Nat) (g : G) (w : World) (g' : G) (w' : World) : Prop where
  base : g'.base = g.base
  os : w'.os = w.os
  tape : w'.tape = w.tape
  output : w'.output = w.output
  size : w.heap.size ≤ w'.heap.size
  old : ∀ b, b < g.base → w'.heap[b]? = w.heap[b]?
  fr : ∀ b, g.fr b ≤ g'.fr b
  cell : ∀ b o, o < g.fr b → w'.cell? ⟨b, o, none⟩ = w.cell? ⟨b, o, none⟩
  bx : ∀ f s, f < k → g'.bx f s = g.bx f s
  tk : ∀ b ℓ, g.tk b = some ℓ → ℓ.k = 0 → ℓ.f < k → g'.tk b = some ℓ ∧ g'.fr b = g.fr b ∧ w'.heap[b]? = w.heap[b]?
  dm : ∀ b, g.dm b = true → g'.dm b = true

theorem Ext.refl (k : Nat) (g : G) (w : World) : Ext k g w g w := ⟨rfl, rfl, rfl, rfl, Nat.le_refl _, fun _ _ => rfl, fun _ => Nat.le_refl _, fun _ _ _ => rfl, fun _ _ _ => rfl, fun _ _ h _ _ => ⟨h, rfl, rfl⟩, fun _ h => h⟩
theorem Ext.trans {k : Nat} {g g1 g2 : G} {w w1 w2 : World} (h : Ext k g w g1 w1) (h' : Ext k g1 w1 g2 w2) : Ext k g w g2 w2 where
  base := h'.base.trans h.base
  os := h'.os.trans h.os
  tape := h'.tape.trans h.tape
  output := h'.output.trans h.output
  size := Nat.le_trans h.size h'.size
  old := fun b hb => (h'.old b (by rw [h.base]; exact hb)).trans (h.old b hb)
  fr := fun b => Nat.le_trans (h.fr b) (h'.fr b)
  cell := fun b o ho => (h'.cell b o (Nat.lt_of_lt_of_le ho (h.fr b))).trans (h.cell b o ho)
  bx := fun f s hf => (h'.bx f s hf).trans (h.bx f s hf)
  tk := fun b ℓ hb h0 hk => by
    obtain ⟨a1, a2, a3⟩ := h.tk b ℓ hb h0 hk
    obtain ⟨b1, b2, b3⟩ := h'.tk b ℓ a1 h0 hk
    exact ⟨b1, b2.trans a2, b3.trans a3⟩
  dm := fun b hb => h'.dm b (h.dm b hb)
theorem Ext.less {k k' : Nat} {g g' : G} {w w' : World} (h : Ext k g w g' w') (hk : k' ≤ k) : Ext k' g w g' w' :=
  ⟨h.base, h.os, h.tape, h.output, h.size, h.old, h.fr, h.cell, fun f s hf => h.bx f s (by omega), fun b ℓ hb h0 hf => h.tk b ℓ hb h0 (by omega), h.dm⟩

theorem RF.ext {k : Nat} {g g' : G} {w w' : World} {x : Value} {d : D} (h : RF w g.fr x d) (he : Ext k g w g' w') : RF w' g'.fr x d := h.mono he.cell he.fr

theorem cell_of_block {w w' : World} {b o : Nat} (h : w'.heap[b]? = w.heap[b]?) : w'.cell? ⟨b, o, none⟩ = w.cell? ⟨b, o, none⟩ := World.cell?_of_block (a := ⟨b, o, none⟩) h

theorem Own.ext {g g' : G} {w w' : World} {ℓ ℓ' : Loc} {x : Value} {m : Mode} {z : Nat} {xs : List D} (h : Own g w ℓ x m z xs) (hc : ∀ b o, o < g.fr b → w'.cell? ⟨b, o, none⟩ = w.cell? ⟨b, o, none⟩) (hf : ∀ b, g.fr b ≤ g'.fr b)
    (ht : ∀ b, g.tk b = some ℓ → g'.tk b = some ℓ' ∧ g'.fr b = g.fr b ∧ w'.heap[b]? = w.heap[b]?) : Own g' w' ℓ' x m z xs := by
  obtain ⟨b, off, cap, cur, e, val, h1, h2, h3, h4, h5, h6, h7, h7', h8, h9, h10⟩ := h
  obtain ⟨a1, a2, a3⟩ := ht b h6
  exact ⟨b, off, cap, cur, e, val, h1, a3.trans h2, h3, h4, h5, a1, a2.trans h7, h7', h8, fun i d j c hi hj => (cell_of_block a3).trans (h9 i d j c hi hj), fun i d j c hi hj => (h10 i d j c hi hj).mono hc hf⟩

/-- What a step keeps of whatever stands at a place. -/
structure Keep (g : G) (w : World) (ℓ : Loc) (g' : G) (w' : World) (ℓ' : Loc) : Prop where
  cell : ∀ b o, o < g.fr b → w'.cell? ⟨b, o, none⟩ = w.cell? ⟨b, o, none⟩
  fr : ∀ b, g.fr b ≤ g'.fr b
  bx : ∀ f s b, g.bx f s = some b → g'.bx f s = some b
  tk : ∀ b, g.tk b = some ℓ → g'.tk b = some ℓ' ∧ g'.fr b = g.fr b ∧ w'.heap[b]? = w.heap[b]?
theorem RP.keep {g g' : G} {w w' : World} {x : Value} {d : D} (h : RP g w x d) (hc : ∀ b o, o < g.fr b → w'.cell? ⟨b, o, none⟩ = w.cell? ⟨b, o, none⟩) (hf : ∀ b, g.fr b ≤ g'.fr b) (hb : ∀ f s b, g.bx f s = some b → g'.bx f s = some b) : RP g' w' x d := by
  cases d with
  | v y => exact h
  | ptr f s off => obtain ⟨h0, b, h1, h2⟩ := h; exact ⟨h0, b, hb _ _ _ h1, h2⟩
  | fptr cs off =>
    obtain ⟨b, o, val, h1, h2, h3⟩ := h
    refine ⟨b, o, val, h1, Nat.le_trans h2 (hf b), fun j c hj => ⟨?_, (h3 j c hj).2.mono hc hf⟩⟩
    rw [hc b (o + j) (by have := getq_lt hj; omega)]
    exact (h3 j c hj).1
  | _ => exact h.elim
theorem RC.keep {g g' : G} {w w' : World} {ℓ ℓ' : Loc} {x : Value} {d : D} (h : RC g w ℓ x d) (k : Keep g w ℓ g' w' ℓ') : RC g' w' ℓ' x d := by
  cases d with
  | u => trivial
  | v y => exact h
  | sl m z xs => cases m with
    | nl => exact RF.mono h k.cell k.fr
    | ro => exact RF.mono h k.cell k.fr
    | app => exact Own.ext (show Own g w ℓ x .app z xs from h) k.cell k.fr k.tk
    | mu => exact Own.ext (show Own g w ℓ x .mu z xs from h) k.cell k.fr k.tk
  | ptr f s off => exact RP.keep (show RP g w x (.ptr f s off) from h) k.cell k.fr k.bx
  | fptr cs off => exact RP.keep (show RP g w x (.fptr cs off) from h) k.cell k.fr k.bx
  | clo fn caps =>
    obtain ⟨h0, vs, h1, h2, h3⟩ := h
    refine ⟨h0, vs, h1, h2, fun j d hj => ?_⟩
    obtain ⟨y, h4, h5⟩ := h3 j d hj
    exact ⟨y, h4, h5.keep k.cell k.fr k.bx⟩
  | yld f s => obtain ⟨h0, l, h1, h2⟩ := h; exact ⟨h0, l, k.bx _ _ _ h1, h2⟩
  | ref f s off n z => obtain ⟨h0, b, cap, off', h1, h2, h3⟩ := h; exact ⟨h0, b, cap, off', k.bx _ _ _ h1, h2, h3⟩
  | _ => exact h.elim
theorem agg_or (d : D) : (∃ ds, d = .agg ds) ∨ d.aggB = false := by cases d <;> simp [D.aggB]
theorem tup_or (d : D) : (∃ ds, d = .tup ds) ∨ d.tupB = false := by cases d <;> simp [D.tupB]
theorem RV_ne {g : G} {w : World} {L : Nat → Loc} {x : Value} {d : D} (h : d.aggB = false) : RV g w L x d = RC g w (L 0) x d := by
  cases d <;> first | rfl | cases h
theorem RT_ne {g : G} {w : World} {L : Nat → Nat → Loc} {x : Value} {d : D} (h : d.tupB = false) : RT g w L x d = RV g w (L 0) x d := by
  cases d <;> first | rfl | cases h
theorem RV.toRT {g : G} {w : World} {L : Nat → Nat → Loc} {x : Value} {d : D} (h : RV g w (L 0) x d) : RT g w L x d := by
  rcases tup_or d with ⟨ds, rfl⟩ | hd
  · exact h.elim
  · rw [RT_ne hd]; exact h
theorem RC.toRV {g : G} {w : World} {L : Nat → Loc} {x : Value} {d : D} (h : RC g w (L 0) x d) : RV g w L x d := by
  rcases agg_or d with ⟨ds, rfl⟩ | hd
  · exact h.elim
  · rw [RV_ne hd]; exact h
theorem strip2_ne {d : D} (h : d.aggB = false) : d.strip2 = d.strip1 := by cases d <;> first | rfl | cases h
theorem strip_ne {d : D} (h : d.tupB = false) : d.strip = d.strip2 := by cases d <;> first | rfl | cases h
theorem strip1_agg {d : D} : d.strip1.aggB = false := by
  cases d with
  | sl m z xs => cases m <;> rfl
  | _ => rfl
theorem strip1_tup {d : D} : d.strip1.tupB = false := by
  cases d with
  | sl m z xs => cases m <;> rfl
  | _ => rfl
theorem strip2_tup {d : D} : d.strip2.tupB = false := by
  cases d with
  | sl m z xs => cases m <;> rfl
  | _ => rfl
theorem RV.keep {g g' : G} {w w' : World} {L L' : Nat → Loc} {x : Value} {d : D} (h : RV g w L x d) (k : ∀ c, Keep g w (L c) g' w' (L' c)) : RV g' w' L' x d := by
  rcases agg_or d with ⟨ds, rfl⟩ | hd
  · obtain ⟨cs, h1, h2, h3⟩ := h
    refine ⟨cs, h1, h2, fun c d hc => ?_⟩
    obtain ⟨y, h4, h5⟩ := h3 c d hc
    exact ⟨y, h4, h5.keep (k c)⟩
  · rw [RV_ne hd] at h ⊢
    exact h.keep (k 0)
theorem RT.keep {g g' : G} {w w' : World} {L L' : Nat → Nat → Loc} {x : Value} {d : D} (h : RT g w L x d) (k : ∀ i c, Keep g w (L i c) g' w' (L' i c)) : RT g' w' L' x d := by
  rcases tup_or d with ⟨ds, rfl⟩ | hd
  · obtain ⟨cs, h1, h2, h3⟩ := h
    refine ⟨cs, h1, h2, fun c d hc => ?_⟩
    obtain ⟨y, h4, h5⟩ := h3 c d hc
    exact ⟨y, h4, h5.keep (k c)⟩
  · rw [RT_ne hd] at h ⊢
    exact h.keep (k 0)

/-- A copy is only read: it takes no token along. -/
theorem Own.strip {g : G} {w : World} {ℓ : Loc} {x : Value} {z : Nat} {xs : List D} (h : Own g w ℓ x .app z xs) : RF w g.fr x (.sl .ro z xs) := by
  obtain ⟨b, off, cap, cur, e, val, rfl, h2, h3, h4, h5, h6, h7, h7', h8, h9, h10⟩ := h
  exact .ro b off cap z xs val h3 h4 (.inr (by rw [h7]; exact Nat.le_refl _)) h8 h9 h10
theorem RC.strip {g : G} {w : World} {ℓ : Loc} (ℓ' : Loc) {x : Value} {d : D} (h : RC g w ℓ x d) : RC g w ℓ' x d.strip1 := by
  cases d with
  | sl m z xs => cases m with
    | nl => exact h
    | ro => exact h
    | app => exact Own.strip (show Own g w ℓ x .app z xs from h)
    | mu => trivial
  | u => trivial
  | v y => exact h
  | ptr f s off => exact h
  | fptr cs off => exact h
  | clo fn caps => exact h
  | ref f s off n z => exact h
  | yld f s => exact h
  | rcd st j rid ks => exact h.elim
  | _ => trivial
theorem RV.strip {g : G} {w : World} {L : Nat → Loc} (L' : Nat → Loc) {x : Value} {d : D} (h : RV g w L x d) : RV g w L' x d.strip2 := by
  rcases agg_or d with ⟨ds, rfl⟩ | hd
  · obtain ⟨cs, h1, h2, h3⟩ := h
    refine ⟨cs, h1, by simpa using h2, fun c d hc => ?_⟩
    rw [List.getElem?_map] at hc
    obtain ⟨d0, h4, rfl⟩ := Option.map_eq_some_iff.1 hc
    obtain ⟨y, h5, h6⟩ := h3 c d0 h4
    exact ⟨y, h5, h6.strip _⟩
  · rw [RV_ne hd] at h
    rw [strip2_ne hd, RV_ne strip1_agg]
    exact h.strip _
theorem RT.strip {g : G} {w : World} {L : Nat → Nat → Loc} (L' : Nat → Nat → Loc) {x : Value} {d : D} (h : RT g w L x d) : RT g w L' x d.strip := by
  rcases tup_or d with ⟨ds, rfl⟩ | hd
  · obtain ⟨cs, h1, h2, h3⟩ := h
    refine ⟨cs, h1, by simpa using h2, fun c d hc => ?_⟩
    rw [List.getElem?_map] at hc
    obtain ⟨d0, h4, rfl⟩ := Option.map_eq_some_iff.1 hc
    obtain ⟨y, h5, h6⟩ := h3 c d0 h4
    exact ⟨y, h5, h6.strip _⟩
  · rw [RT_ne hd] at h
    rw [strip_ne hd, RT_ne strip2_tup]
    exact h.strip _

/-! ### States -/
def bxl (B : List Bx) (f s : Nat) : Option (List D) := (B[f]?).bind (lk s)
structure SB (g : G) (w : World) (B : List Bx) : Prop where
  rel : ∀ f s ds, bxl B f s = some ds → RB g w f s ds
  dom : ∀ f s, (g.bx f s).isSome → (bxl B f s).isSome
  bnd : ∀ f s ds d, bxl B f s = some ds → d ∈ ds → d.bnd1 (f + 1) = true
def S.B (s : S) : List Bx := s.o ++ [s.l]
def S.k (s : S) : Nat := s.o.length
structure ST (g : G) (w : World) (tmps : Array Value) (s : S) : Prop where
  inv : Inv g w
  sb : SB g w s.B
  e : ∀ t, RT g w (slotL s.k t) (tmps.getD t undef) (get t s.e)
theorem bx_eq (f b : Nat) (s : S) (hf : f ≤ s.k) : Ev.bx f b s = bxl s.B f b := by
  unfold Ev.bx bxl S.B
  split
  · rename_i h; subst h; simp
  · rename_i h; rw [List.getElem?_append_left (by have : s.k = s.o.length := rfl; omega)]
theorem bx_bxl {f b : Nat} {s : S} {ds : List D} (h : Ev.bx f b s = some ds) : bxl s.B f b = some ds := by
  unfold Ev.bx at h
  split at h
  · rename_i hf; subst hf; simpa [bxl, S.B] using h
  · rename_i hf
    cases ho : s.o[f]? with
    | none => rw [ho] at h; cases h
    | some L =>
      rw [ho] at h
      unfold bxl S.B
      rw [List.getElem?_append_left (getq_lt ho), ho]
      exact h
end Go.Proofs.Ytlhjdikklmkihaa.Ev
