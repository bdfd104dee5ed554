/- What Put and Step make of what is sent: it may be. Conditions: none. -/
import Derived.Test.YtlhjdikklmkihaaL21
import Derived.Test.YtlhjdikklmkihaaR21
import Derived.Test.YtlhjdikklmkihaaN21
set_option linter.all false
namespace Go.Proofs.Ytlhjdikklmkihaa.Ev
open Go
theorem snds_iff {nx : Int} {l : List Og} : ∀ (k i : Nat), sndsB nx l i k = true ↔ ∀ j, i ≤ j → j < i + k → ∀ x, l[j]? = some x → sndB nx (prevN l j) x = true
  | 0, i => by simp only [sndsB, true_iff]; intro j h1 h2; omega
  | k + 1, i => by
    simp only [sndsB, Bool.and_eq_true]
    rw [snds_iff k (i + 1)]
    constructor
    · intro ⟨h1, h2⟩ j a b x hx
      by_cases e : j = i
      · subst e; rw [hx] at h1; exact h1
      · exact h2 j (by omega) (by omega) x hx
    · intro h
      refine ⟨?_, fun j a b x hx => h j (by omega) (by omega) x hx⟩
      cases hx : l[i]? with
      | none => rfl
      | some x => exact h i (Nat.le_refl _) (by omega) x hx
theorem out_iff {nx : Int} {l : List Og} : outB nx l [] = true ↔ 0 < nx ∧ l.length ≤ 4 ∧ ∀ (j : Nat) x, l[j]? = some x → sndB nx (prevN l j) x = true := by
  simp only [outB, Bool.and_eq_true, decide_eq_true_eq, List.all_nil, and_true, snds_iff]
  constructor
  · intro ⟨⟨⟨h1, h2⟩, _⟩, h3⟩
    exact ⟨h1, by omega, fun j x hx => h3 j (Nat.zero_le _) (by have := getq_lt hx; omega) x hx⟩
  · intro ⟨h1, h2, h3⟩
    exact ⟨⟨⟨h1, by omega⟩, by simp⟩, fun j _ _ x hx => h3 j x hx⟩
theorem snd_beg {nx : Int} {p : Option Int} {x : Og} (h : sndB nx p x = true) : begB x.d x.u x.nm x.b.length = true ∧ 0 < x.n ∧ x.n < nx := by
  simp only [sndB, Bool.and_eq_true, decide_eq_true_eq] at h
  obtain ⟨⟨⟨⟨h1, h2⟩, h3⟩, _⟩, _⟩ := h
  exact ⟨h1, h2, h3⟩
theorem beg_b {d u : Int} {nm : ByteArray} {n : Nat} (h : begB d u nm n = true) : n ≤ 2048 ∧ nmB nm = true := by
  simp only [begB, Bool.and_eq_true, decide_eq_true_eq] at h
  exact ⟨by omega, h.1.1.2⟩
theorem out_put {nx : Int} {l : List Og} {x : Og} (h : outB nx l [] = true) (hl : l.length ≠ 4) (hb : begB x.d x.u x.nm x.b.length = true) : outB (nx + 1) (l ++ [{ x with n := nx, s := 0 }]) [] = true := by
  rw [out_iff] at h ⊢
  obtain ⟨h1, h2, h3⟩ := h
  refine ⟨by omega, by simp; omega, fun j y hy => ?_⟩
  have hp : j ≤ l.length → prevN (l ++ [{ x with n := nx, s := 0 }]) j = prevN l j := by
    intro hj
    cases j with
    | zero => rfl
    | succ j => simp only [prevN]; rw [List.getElem?_append_left (by omega)]
  rcases Nat.lt_trichotomy j l.length with hj | hj | hj
  · rw [List.getElem?_append_left hj] at hy
    rw [hp (by omega)]
    have := h3 j y hy
    simp only [sndB, Bool.and_eq_true, decide_eq_true_eq] at this ⊢
    obtain ⟨⟨⟨⟨a, b⟩, c⟩, d⟩, e⟩ := this
    exact ⟨⟨⟨⟨a, b⟩, by omega⟩, d⟩, e⟩
  · subst hj
    rw [List.getElem?_append_right (Nat.le_refl _), Nat.sub_self] at hy
    injection hy with hy
    subst hy
    rw [hp (Nat.le_refl _)]
    simp only [sndB, Bool.and_eq_true, decide_eq_true_eq, inR]
    refine ⟨⟨⟨⟨hb, h1⟩, by omega⟩, by omega, by omega⟩, ?_⟩
    cases hk : l.length with
    | zero => rfl
    | succ k =>
      simp only [prevN]
      obtain ⟨z, hz⟩ : ∃ z, l[k]? = some z := ⟨_, List.getElem?_eq_getElem (by omega)⟩
      rw [hz]
      simp only [Option.map_some]
      exact decide_eq_true (snd_beg (h3 k z hz)).2.2
  · rw [List.getElem?_append_right (by omega)] at hy
    cases hk : j - l.length with
    | zero => omega
    | succ k => rw [hk] at hy; simp at hy
theorem out_set {nx : Int} {l : List Og} {i : Nat} {y : Og} {s : Int} (h : outB nx l [] = true) (hy : l[i]? = some y) (hs : 0 ≤ s ∧ s ≤ 2 + (y.b.length + 255) / 256) : outB nx (l.set i { y with s := s }) [] = true := by
  rw [out_iff] at h ⊢
  obtain ⟨h1, h2, h3⟩ := h
  refine ⟨h1, by simpa using h2, fun j z hz => ?_⟩
  have hp : prevN (l.set i { y with s := s }) j = prevN l j := by
    cases j with
    | zero => rfl
    | succ j =>
      simp only [prevN]
      rw [List.getElem?_set]
      by_cases e : i = j
      · subst e
        rw [if_pos rfl, if_pos (getq_lt hy), hy]; rfl
      · rw [if_neg e]
  rw [hp]
  rw [List.getElem?_set] at hz
  split at hz
  · rename_i e
    subst e
    rw [if_pos (getq_lt hy)] at hz
    injection hz with hz
    subst hz
    have := h3 i y hy
    simp only [sndB, Bool.and_eq_true, decide_eq_true_eq, inR] at this ⊢
    obtain ⟨⟨⟨⟨a, b⟩, c⟩, d⟩, e⟩ := this
    exact ⟨⟨⟨⟨a, b⟩, c⟩, hs.1, hs.2⟩, e⟩
  · exact h3 j z hz
theorem idxO_first {j : Nat} {y : Og} (hm : more y = true) : ∀ {l : List Og} {i : Nat}, (∀ k, k < j → ∀ x, l[k]? = some x → more x = false) → l[j]? = some y → idxO l i = (i + j : Nat) := by
  induction j with
  | zero =>
    intro l i _ hy
    cases l with
    | nil => simp at hy
    | cons x l =>
      simp at hy
      subst hy
      simp only [idxO]
      rw [if_pos hm]; rfl
  | succ j ih =>
    intro l i h hy
    cases l with
    | nil => simp at hy
    | cons x l =>
      have h0 := h 0 (by omega) x rfl
      simp only [idxO, h0, Bool.false_eq_true, if_false]
      rw [ih (fun k hk z hz => h (k + 1) (by omega) z (by simpa using hz)) (by simpa using hy)]
      congr 1; omega
theorem idxO_none : ∀ {l : List Og} {i : Nat}, (∀ x ∈ l, more x = false) → idxO l i = -1
  | [], _, _ => rfl
  | x :: l, i, h => by
    simp only [idxO, h x (List.mem_cons_self ..), Bool.false_eq_true, if_false]
    exact idxO_none fun y hy => h y (List.mem_cons_of_mem _ hy)
theorem datas_get (x : Og) : ∀ (k i j : Nat), j < k → (datas x i k)[j]? = some (mData x (i + j))
  | 0, i, j, h => by omega
  | k + 1, i, j, h => by
    cases j with
    | zero => rfl
    | succ j => simp only [datas, List.getElem?_cons_succ]; rw [datas_get x k (i + 1) j (by omega)]; congr 2; omega
theorem msgs_0 (x : Og) : (msgs x)[0]? = some (mMeta x) := rfl
theorem msgs_d (x : Og) (i : Nat) (h : i < nData x) : (msgs x)[i + 1]? = some (mData x i) := by
  simp only [msgs, List.getElem?_cons_succ]
  rw [List.getElem?_append_left (by rw [datas_len]; exact h), datas_get x _ 0 i h, Nat.zero_add]
theorem msgs_e (x : Og) : (msgs x)[nData x + 1]? = some (mEnd x) := by
  simp only [msgs, List.getElem?_cons_succ]
  rw [List.getElem?_append_right (by rw [datas_len]; exact Nat.le_refl _), datas_len, Nat.sub_self]; rfl
theorem take_chunk (l : List Nat) (i : Nat) : l.take (256 * i) ++ (l.take (min (256 * i + 256) l.length)).drop (256 * i) = l.take (256 * (i + 1)) := by
  have e : l.take (min (256 * i + 256) l.length) = l.take (256 * (i + 1)) := by
    rw [show 256 * i + 256 = 256 * (i + 1) by omega]
    rcases Nat.le_total (256 * (i + 1)) l.length with h | h
    · rw [Nat.min_eq_left h]
    · rw [Nat.min_eq_right h, List.take_length, List.take_of_length_le h]
  rw [e]
  have : l.take (256 * i) = (l.take (256 * (i + 1))).take (256 * i) := by rw [List.take_take, Nat.min_eq_left (by omega)]
  rw [this, List.take_append_drop]
end Go.Proofs.Ytlhjdikklmkihaa.Ev
