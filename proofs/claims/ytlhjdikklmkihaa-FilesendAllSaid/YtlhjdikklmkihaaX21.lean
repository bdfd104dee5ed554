/- The law FilesendAll, as it is given: it returns true whatever it is given, and leaves it as it was. Conditions: none. -/
import Derived.Test.YtlhjdikklmkihaaW21
import Derived.Test.YtlhjdikklmkihaaQ21
set_option linter.all false
namespace Go.Proofs.Ytlhjdikklmkihaa
open Go Go.ChangeShapes Go.WideShapes Go.ChangeAt Go.RowKit Go.Proofs.Ytlhjdikklmkihaa.Ev
theorem rd_Ogs {ds : List D} (h : RD Try.prog 23 ds) : ∃ (l : List Og) (q : Bool), mkV Try.prog 23 ds = lst .ro 6 q (l.map Og.D) ∧ ∀ y ∈ l, ∀ c ∈ y.b, c < 256 := by
  obtain ⟨q, x1, k1, rfl⟩ := h.sl' Try.underlying23
  have e23 : Try.prog.underlying 23 = _ := Try.underlying23
  obtain ⟨l, h1, h2⟩ := list_of (f := Og.D) (Q := fun y => 0 ≤ y.n ∧ ∀ c ∈ y.b, c < 256) k1 (fun x hx => rd_Og hx)
  have z1 : Try.prog.cellsOf 29 = 6 := by kernel_rfl
  exact ⟨l, q, by simp [mkV, aggE, e23, h1, z1], fun y hy => (h2 y hy).2⟩
set_option maxRecDepth 100000 in
theorem lifted6 (os : Os) (started : os.Started) (H : Type) (enc : TypeId × Value → H) :
    ReturnsInHanded {} Try.checked os 6 .any (Rows.filesendAllSpec.pre6 enc Try.prog Try.f6 Rows.filesendAllRow.domain false) (Rows.filesendAllSpec.post enc Try.prog Try.f6 false true false false) := by
  refine returnsInHanded_of_change_sized (C := Try.checked) own started (by kernel_rfl) Try.func6
    (ChangeSpec.witness6 (enc := enc) (C := Try.checked) false ⟨#[], #[.slice none 0 0], []⟩ 8 (by kernel_rfl) (by kernel_rfl) (by kernel_rfl) (by kernel_rfl)) ?_
  intro W base args ds gs before hval0 hW hcnd hsz0 _
  have hval : ∀ (j : Nat) t v, Try.f6.params[j]? = some t → args[j]? = some v → Value.okWide Try.prog W .any base t v := hval0
  have hW' := hW
  obtain ⟨p, q, hA0, hV, rfl, hfz, hnd⟩ := hW
  have hA : DataW.TrodAll enc Try.prog W 0 (fun _ => true) true Try.f6.params.toList args.toList ds p := hA0
  rw [Try.params6] at hA hval
  obtain ⟨v0, vs0, d0, ds0, p0, q0, hargs, rfl, rfl, h0, r0⟩ := trodAll_cons hA
  obtain ⟨rfl, rfl, rfl⟩ := trodAll_nil r0
  obtain rfl : args = #[v0] := by cases args; simp_all
  obtain ⟨rfl, rfl⟩ := trodVars_none hV
  have lt0 : ∀ x ∈ p0, x.block < W.heap.size := by obtain ⟨m, hm⟩ := h0; exact DataW.trod_lt m _ _ _ hm
  obtain ⟨c0, g1, g2⟩ := open_arg (k := 8) (fun _ => rfl) (by kernel_rfl) (hval 0 23 v0 rfl rfl) h0
  obtain ⟨l, q, e1, f1⟩ := rd_Ogs g1
  rw [show mkV PP 23 c0 = _ from e1] at g2
  clear hA0 hval0 hsz0
  refine (run0 pg_ok (f := 6) (by decide) (w6 [] l q f1) (W := W) (vs := #[v0]) rfl (fun i d hi => ?_)).mono fun e W' ⟨x, g', he, hr, bel⟩ => ?_
  · match i with
    | 0 => simp at hi; subst hi; exact ⟨v0, rfl, g2⟩
    | i + 1 => simp at hi
  · obtain rfl := rtb hr
    subst he
    exact ⟨_, rfl, _, _, _, [], _, [], hW', trodAll_mk1 (shut_bool Try.underlying4 _), trodAll_cons_mk (Below.trod laidOut (by kernel_rfl) (of_decide_eq_true (by kernel_rfl)) h0 bel lt0) trodAll_mk0, rfl, bel.frame _, fun h => by cases h⟩
/-- The law FilesendAll holds for every input. -/
theorem filesendAll_holds : Rows.FilesendAllSaid :=
  OpenClaim.holds_of_wide 6 Try.f6 rfl rfl rfl rfl rfl rfl rfl ⟨rfl, rfl, rfl, rfl, rfl⟩ rfl rfl rfl rfl rfl (by kernel_rfl) Try.func6 (by kernel_rfl)
    (of_decide_eq_true (by kernel_rfl)) (by unfold Func.isWrapper; first | (rw [if_pos (by decide +kernel)]; kernel_rfl) | (rw [if_neg (by decide +kernel)]; exact ⟨rfl, rfl⟩))
    (fun os started H enc _ => lifted6 os started H enc)
#print axioms filesendAll_holds
end Go.Proofs.Ytlhjdikklmkihaa
