/- From a call that a claim makes to the evaluator. Conditions: none. -/
import Derived.Test.YtlhjdikklmkihaaEv7
set_option linter.all false
namespace Go.Proofs.Ytlhjdikklmkihaa.Ev
open Go Go.RowKit

def g0 (w : World) : G := ⟨w.heap.size, fun _ _ => none, fun b => match w.heap[b]? with | some (.cells cs _ _) => cs.size | _ => 0, fun _ => none, fun _ => false⟩
theorem fr0 {w : World} (b o : Nat) (h : (w.cell? ⟨b, o, none⟩).isSome) : o < (g0 w).fr b := by
  unfold World.cell? at h
  simp only [Option.isSome_none, Bool.false_eq_true, ↓reduceIte] at h
  simp only [g0]
  split at h
  · rename_i hb
    rw [hb]
    simp only
    exact (Array.getElem?_eq_some_iff.1 (Option.isSome_iff_exists.1 h).choose_spec).1
  · cases h
theorem inv0 (w : World) : Inv (g0 w) w where
  base := Nat.le_refl _
  fresh b hb := by
    refine ⟨?_, rfl⟩
    simp only [g0]
    rw [Array.getElem?_eq_none hb]
  box f s b h := by cases h
  inj f s f' s' b h := by cases h
  tk b l h := by cases h
  cells b o h := by
    simp only [g0] at h
    split at h
    · rename_i hb
      unfold World.cell?
      simp only [hb, Option.isSome_none, Bool.false_eq_true, ↓reduceIte]
      rw [Array.getElem?_eq_getElem h]; rfl
    · cases h
  dm b h := by cases h
  dt b h := by cases h
theorem sb0 (w : World) : SB (g0 w) w [] where
  rel f s ds h := by simp [bxl] at h
  dom f s h := by cases h
  bnd f s ds d h := by simp [bxl] at h

section
variable {H : Type} {enc : TypeId × Value → H} {w : World} {base b0 k : Nat} {sp : Nat → Bool} {held : Bool} {t : TypeId} {v : Value} {d : DataW H} {ps : List MemPlace}
theorem open_arg (hsp : ∀ b, sp b = true) (hk : okTy PP k t = true) (hval : Value.okWide PP w .any b0 t v) (h : DataW.Trod enc PP w base sp held t v d ps) : ∃ ds, RD PP t ds ∧ ∀ L, RV (g0 w) w L v (mkV PP t ds) := by
  obtain ⟨n, h⟩ := h
  obtain ⟨ds, h1, h2⟩ := read_tl hsp (fr := (g0 w).fr) fr0 k t hk n _ _ h
  refine ⟨ds, h1, fun L => ?_⟩
  have agg : ∀ cs : Array Value, v = .agg cs → RV (g0 w) w L v (.agg ds) := by
    intro cs e
    subst e
    have e : (Value.agg cs).cells.toList = cs.toList := rfl
    rw [e] at h2
    refine ⟨cs, rfl, h2.1.symm, fun c d hc => ?_⟩
    have hl := getq_lt hc
    rw [h2.1] at hl
    have hv : cs[c]? = some cs[c] := Array.getElem?_eq_getElem hl
    exact ⟨_, hv, (h2.2 c _ _ (by rw [Array.getElem?_toList]; exact hv) hc).toRC _⟩
  have one : v.cells.toList = [v] → ∀ d', ds = [d'] → d'.aggB = false → RV (g0 w) w L v d' := by
    intro e d' e' ha
    subst e'
    rw [e] at h2
    rw [RV_ne ha]
    exact (h2.2 0 v d' rfl rfl).toRC _
  rcases h1.und with ⟨b, hu, e⟩ | ⟨k', m, hu, _, e⟩ | ⟨s, hu, _, e⟩ | ⟨e', q, xs, hu, _, e⟩ | ⟨fs, xs, hu, _, _, e⟩ | ⟨m, e', xs, hu, _, _, e⟩ <;> simp only [mkV, aggE, hu, Bool.false_eq_true, ↓reduceIte]
  · obtain ⟨x, rfl⟩ := WideShapes.okWide_bool hu hval
    rw [e]; exact one rfl _ e rfl
  · obtain ⟨x, rfl⟩ := WideShapes.okWide_int hu hval
    rw [e]; exact one rfl _ e rfl
  · obtain ⟨x, rfl⟩ := WideShapes.okWide_string hu hval
    rw [e]; exact one rfl _ e rfl
  · obtain ⟨x, l, c, rfl⟩ := WideShapes.okWide_slice hu hval
    rw [e]; exact one rfl _ e (by unfold lst; split <;> rfl)
  · simp only [Value.okWide, hu] at hval
    obtain ⟨cs, rfl, _⟩ := hval
    exact agg cs rfl
  · simp only [Value.okWide, hu] at hval
    obtain ⟨cs, rfl, _⟩ := hval
    exact agg cs rfl
end

theorem run0 {prog : Nat → Option Fn} (hp : MProg PP prog) {f : Nat} {ds : List D} {r : D} (hf : f < RL) (h : EF prog f ds [] = some (r, [])) {W : World} {vs : Array Value} (hs : vs.size = ds.length)
    (hv : ∀ (i : Nat) d, ds[i]? = some d → ∃ x, vs[i]? = some x ∧ ∀ L, RV (g0 W) W L x d) :
    Calls PP f vs W fun e W' => ∃ x g', e = .returned x ∧ RT g' W' retL x r ∧ Below W.heap.size W W' := by
  obtain ⟨_, _, h2⟩ := (EF_good hp f ds [] r [] h).1 hf
  have h3 := h2 (g0 W) W vs (inv0 W) (sb0 W) hs (fun i d hi => by
    obtain ⟨x, hx, hr⟩ := hv i d hi
    exact ⟨x, hx, hr _⟩)
  refine ((callsIn_wide (n := 0)).1 h3).mono fun e W' ⟨x, g', he, hi, _, _, hx, hr⟩ => ⟨x, g', he, hr, hx.os, hx.tape, hx.output, hx.size, hx.old⟩
end Go.Proofs.Ytlhjdikklmkihaa.Ev
