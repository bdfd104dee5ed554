/- Operands, moving what is owned, and putting it in its place. Conditions: none. -/
import Derived.Test.YtlhjdikklmkihaaEvB
import Derived.Fence
import Derived.AtR
set_option linter.all false
namespace Go.Proofs.Ytlhjdikklmkihaa.Ev
open Go

def flyL (j : Nat) (i c : Nat) : Loc := ⟨3, j, 0, i, c⟩
theorem box_fly {f b c j i c' : Nat} : boxL f b c ≠ flyL j i c' := fun e => by injection e with e; cases e
theorem slot_fly {f b c j i i' c' : Nat} : slotL f b i' c ≠ flyL j i c' := fun e => by injection e with e; cases e
theorem slot_box {f b c j i i' c' : Nat} : slotL f b i' c ≠ boxL j i c' := fun e => by injection e with e; cases e
def G.mv (g : G) (ρ : Loc → Loc) : G := { g with tk := fun b => (g.tk b).map ρ }

/-- From one row of places to another. -/
def relo (A B : Nat → Nat → Loc) (ℓ : Loc) : Loc := if ℓ = A ℓ.i ℓ.c then B ℓ.i ℓ.c else ℓ

theorem G.mv_keep (g : G) (w : World) (ρ : Loc → Loc) (ℓ : Loc) : Keep g w ℓ (g.mv ρ) w (ρ ℓ) :=
  ⟨fun _ _ _ => rfl, fun _ => Nat.le_refl _, fun _ _ _ h => h, fun b hb => ⟨by simp [G.mv, hb], rfl, rfl⟩⟩
theorem G.mv_keep' (g : G) (w : World) (ρ : Loc → Loc) {ℓ ℓ' : Loc} (h : ρ ℓ = ℓ') : Keep g w ℓ (g.mv ρ) w ℓ' := h ▸ g.mv_keep w ρ ℓ
theorem Inv.mv {g : G} {w : World} (h : Inv g w) (ρ : Loc → Loc) : Inv (g.mv ρ) w where
  base := h.base
  fresh := fun b hb => ⟨(h.fresh b hb).1, by simp [G.mv, (h.fresh b hb).2]⟩
  box := fun f s b hb => by obtain ⟨a1, a2, a3, a4⟩ := h.box f s b hb; exact ⟨a1, a2, a3, by simp [G.mv, a4]⟩
  inj := h.inj
  tk := fun b ℓ hb => by
    simp only [G.mv] at hb
    obtain ⟨ℓ0, h0, _⟩ := Option.map_eq_some_iff.1 hb
    exact h.tk b ℓ0 h0
  cells := h.cells
  dm := h.dm
  dt := fun b hb => by simp [G.mv, h.dt b hb]
theorem G.mv_ext (g : G) (w : World) (ρ : Loc → Loc) (k : Nat) (h : ∀ ℓ : Loc, ℓ.k = 0 → ℓ.f < k → ρ ℓ = ℓ) : Ext k g w (g.mv ρ) w :=
  ⟨rfl, rfl, rfl, rfl, Nat.le_refl _, fun _ _ => rfl, fun _ => Nat.le_refl _, fun _ _ _ => rfl, fun _ _ _ => rfl, fun b ℓ hb h0 hk => ⟨by simp [G.mv, hb, h ℓ h0 hk], rfl, rfl⟩, fun _ h => h⟩

theorem RB.keep {g g' : G} {w w' : World} {f s : Nat} {ds : List D} (h : RB g w f s ds) (k : ∀ c, Keep g w (boxL f s c) g' w' (boxL f s c)) (hb : ∀ b, g.bx f s = some b → w'.heap[b]? = w.heap[b]?) : RB g' w' f s ds := by
  rcases h with ⟨h0, b, cs, e, h1, h2, h3, h4⟩ | ⟨h0, l, r, st, j, rid, ks, caps, h1, h2, h3, h4, h4', h5, h6, h7, h8⟩
  · refine .inl ⟨h0, b, cs, e, (k 0).bx _ _ _ h1, (hb b h1).trans h2, h3, fun c d hc => ?_⟩
    obtain ⟨y, h5, h6⟩ := h4 c d hc
    exact ⟨y, h5, h6.keep (k c)⟩
  · exact .inr ⟨h0, l, r, st, j, rid, ks, caps, (k 0).bx _ _ _ h1, (hb l h1).trans h2, h3, h4, h4', h5, h6, h7, fun c d t hc ht => (h8 c d t hc ht).keep (k c)⟩
theorem SB.mv {g : G} {w : World} {B : List Bx} (h : SB g w B) (ρ : Loc → Loc) (hρ : ∀ f s c, ρ (boxL f s c) = boxL f s c) : SB (g.mv ρ) w B :=
  ⟨fun f s ds hs => (h.rel f s ds hs).keep (fun c => g.mv_keep' w ρ (hρ f s c)) fun _ _ => rfl, h.dom, h.bnd⟩

/-- The state of a frame of n temporaries. -/
structure SN (g : G) (w : World) (n : Nat) (tmps : Array Value) (s : S) : Prop where
  st : ST g w tmps s
  size : tmps.size = n

theorem relo_fix {A B : Nat → Nat → Loc} {ℓ : Loc} (h : ∀ i c, ℓ ≠ A i c) : relo A B ℓ = ℓ := by
  unfold relo
  rw [if_neg (h _ _)]
theorem relo_A {A B : Nat → Nat → Loc} (hA : ∀ i c, (A i c).i = i ∧ (A i c).c = c) (i c : Nat) : relo A B (A i c) = B i c := by
  unfold relo
  rw [(hA i c).1, (hA i c).2, if_pos rfl]

theorem getD_set {a : Array Value} {t t' : Nat} {x : Value} (ht : t < a.size) : (a.setIfInBounds t x).getD t' undef = if t' = t then x else a.getD t' undef := by
  simp only [Array.getD_eq_getD_getElem?, Array.getElem?_setIfInBounds]
  by_cases h : t' = t
  · subst h; simp [ht]
  · have : t ≠ t' := fun e => h e.symm
    simp [h, this]

/-- What flies is put into a temporary. -/
theorem SN.put {g : G} {w : World} {n : Nat} {tmps : Array Value} {s : S} (h : SN g w n tmps s) {t : Nat} (ht : t < n) {x : Value} {d : D} {j : Nat} (hx : RT g w (flyL j) x d) :
    ∃ g', SN g' w n (tmps.setIfInBounds t x) (Ev.put t d s) ∧ Ext s.k g w g' w := by
  refine ⟨g.mv (relo (flyL j) (slotL s.k t)), ⟨⟨h.st.inv.mv _, h.st.sb.mv _ fun f b c => relo_fix fun i c' e => by simp [boxL, flyL] at e, fun t' => ?_⟩, by simp [h.size]⟩, g.mv_ext w _ _ fun ℓ h0 _ => relo_fix fun i c e => by rw [e] at h0; simp [flyL] at h0⟩
  rw [getD_set (by rw [h.size]; exact ht)]
  have hk : (Ev.put t d s).k = s.k := rfl
  rw [hk]
  by_cases e : t' = t
  · subst e
    simp only [Ev.put, get, if_true]
    exact hx.keep fun i c => g.mv_keep' w _ (relo_A (fun _ _ => ⟨rfl, rfl⟩) i c)
  · simp only [Ev.put, get, if_neg e]
    exact (h.st.e t').keep fun i c => g.mv_keep' w _ (relo_fix fun i' c' e => by simp [slotL, flyL] at e)
theorem SN.putO {g : G} {w : World} {n : Nat} {a : Act} {s : S} (h : SN g w n a.tmps s) {t : Option Nat} (ht : ∀ t', t = some t' → t' < n) {x : Value} {d : D} {j : Nat} (hx : RT g w (flyL j) x d) :
    ∃ g', SN g' w n (a.put t x).tmps (Ev.putO t d s) ∧ Ext s.k g w g' w := by
  cases t with
  | none => exact ⟨g, h, Ext.refl _ _ _⟩
  | some t => exact h.put (ht t rfl) hx

theorem Keep.refl (g : G) (w : World) (ℓ : Loc) : Keep g w ℓ g w ℓ := ⟨fun _ _ _ => rfl, fun _ => Nat.le_refl _, fun _ _ _ h => h, fun _ h => ⟨h, rfl, rfl⟩⟩
/-! ### Operands -/
inductive MOpd : Operand → Opd → Prop
  | t (n : Nat) : MOpd (.tmp n) (.t n)
  | m (n : Nat) : MOpd (.tmp n) (.m n)
  | c (x : Value) : MOpd (.const x) (.c x)
  | cn : MOpd (.const (.slice none 0 0)) .cn
  | f (n : Nat) (h : n < RL) : MOpd (.func n) (.f n)

/-- What an operand's data say, where it stands. -/
theorem rd_at {g : G} {w : World} {n : Nat} {a : Act} {s : S} (h : SN g w n a.tmps s) {x : Operand} {x' : Opd} (hm : MOpd x x') : ∃ L, RT g w L (a.eval x) (rd x' s).1 := by
  cases hm with
  | t n => exact ⟨_, (h.st.e n).strip (slotL 0 0)⟩
  | m n => exact ⟨_, h.st.e n⟩
  | c x => exact ⟨slotL 0 0, rfl⟩
  | cn => exact ⟨slotL 0 0, .nl 0⟩
  | f n hn => exact ⟨slotL 0 0, hn, #[], rfl, rfl, fun j d hj => by simp at hj⟩
theorem rd_k (x : Opd) (s : S) : (rd x s).2.k = s.k := by cases x <;> rfl
theorem rd_B (x : Opd) (s : S) : (rd x s).2.B = s.B := by cases x <;> rfl
theorem rd_o (x : Opd) (s : S) : (rd x s).2.o = s.o := by cases x <;> rfl
theorem rd_l (x : Opd) (s : S) : (rd x s).2.l = s.l := by cases x <;> rfl

/-- An operand is taken up: it flies. -/
theorem rd_fly {g : G} {w : World} {n : Nat} {a : Act} {s : S} (h : SN g w n a.tmps s) {x : Operand} {x' : Opd} (hm : MOpd x x') (j : Nat) :
    ∃ g', SN g' w n a.tmps (rd x' s).2 ∧ RT g' w (flyL j) (a.eval x) (rd x' s).1 ∧ Ext s.k g w g' w ∧ (∀ j' y d, j' ≠ j → RT g w (flyL j') y d → RT g' w (flyL j') y d) ∧ g'.bx = g.bx ∧ (∀ ℓ : Loc, 4 ≤ ℓ.k → Keep g w ℓ g' w ℓ) := by
  cases hm with
  | t m => exact ⟨g, h, (h.st.e m).strip _, Ext.refl _ _ _, fun _ _ _ _ h => h, rfl, fun _ _ => Keep.refl _ _ _⟩
  | c x => exact ⟨g, h, rfl, Ext.refl _ _ _, fun _ _ _ _ h => h, rfl, fun _ _ => Keep.refl _ _ _⟩
  | cn => exact ⟨g, h, .nl 0, Ext.refl _ _ _, fun _ _ _ _ h => h, rfl, fun _ _ => Keep.refl _ _ _⟩
  | f m hn => exact ⟨g, h, ⟨hn, #[], rfl, rfl, fun j d hj => by simp at hj⟩, Ext.refl _ _ _, fun _ _ _ _ h => h, rfl, fun _ _ => Keep.refl _ _ _⟩
  | m t =>
    refine ⟨g.mv (relo (slotL s.k t) (flyL j)), ⟨⟨h.st.inv.mv _, h.st.sb.mv _ fun f b c => relo_fix fun i c' e => by simp [boxL, slotL] at e, fun t' => ?_⟩, h.size⟩, ?_, g.mv_ext w _ _ fun ℓ h0 hk => relo_fix fun i c e => by rw [e] at hk; simp [slotL] at hk, ?_, rfl, fun ℓ hℓ => g.mv_keep' w _ (relo_fix fun i c e => by rw [e] at hℓ; simp [slotL] at hℓ)⟩
    · show RT _ _ (slotL s.k t') _ (get t' ((t, (get t s.e).strip) :: s.e))
      by_cases e : t' = t
      · subst e
        simp only [get, if_true]
        exact ((h.st.e t').keep fun i c => g.mv_keep' w _ (relo_A (B := flyL j) (fun _ _ => ⟨rfl, rfl⟩) i c)).strip _
      · simp only [get, if_neg e]
        exact (h.st.e t').keep fun i c => g.mv_keep' w _ (relo_fix fun i' c' e' => by simp [slotL] at e'; exact e e'.1)
    · exact (h.st.e t).keep fun i c => g.mv_keep' w _ (relo_A (fun _ _ => ⟨rfl, rfl⟩) i c)
    · intro j' y d hj hy
      exact hy.keep fun i c => g.mv_keep' w _ (relo_fix fun i' c' e' => by simp [slotL, flyL] at e')
end Go.Proofs.Ytlhjdikklmkihaa.Ev
