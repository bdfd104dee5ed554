/- The law FilesendPuts, as it is given: it returns true whatever it is given, and leaves it as it was. Conditions: none. -/
import Derived.Test.YtlhjdikklmkihaaO21
import Derived.Test.YtlhjdikklmkihaaQ21
set_option linter.all false
namespace Go.Proofs.Ytlhjdikklmkihaa
open Go Go.ChangeShapes Go.WideShapes Go.ChangeAt Go.RowKit Go.Proofs.Ytlhjdikklmkihaa.Ev
set_option maxRecDepth 100000 in
theorem lifted4 (os : Os) (started : os.Started) (H : Type) (enc : TypeId × Value → H) :
    ReturnsInHanded {} Try.checked os 4 .any (Rows.filesendPutsSpec.pre6 enc Try.prog Try.f4 Rows.filesendPutsRow.domain false) (Rows.filesendPutsSpec.post enc Try.prog Try.f4 false true false false) := by
  refine returnsInHanded_of_change_sized (C := Try.checked) own started (by kernel_rfl) Try.func4
    (ChangeSpec.witness6 (enc := enc) (C := Try.checked) false ⟨#[], #[.agg #[.int .u32 0, .slice none 0 0, .slice none 0 0], .agg #[.int .u32 0, .int .i64 0, .string ByteArray.empty, .slice none 0 0, .int .i64 0, .int .i64 0]], []⟩ 8 (by kernel_rfl) (by kernel_rfl) (by kernel_rfl) (by kernel_rfl)) ?_
  intro W base args ds gs before hval0 hW hcnd hsz0 _
  have hval : ∀ (j : Nat) t v, Try.f4.params[j]? = some t → args[j]? = some v → Value.okWide Try.prog W .any base t v := hval0
  have hW' := hW
  obtain ⟨p, q, hA0, hV, rfl, hfz, hnd⟩ := hW
  have hA : DataW.TrodAll enc Try.prog W 0 (fun _ => true) true Try.f4.params.toList args.toList ds p := hA0
  rw [Try.params4] at hA hval
  obtain ⟨v0, vs0, d0, ds0, p0, q0, hargs, rfl, rfl, h0, r0⟩ := trodAll_cons hA
  obtain ⟨v1, vs1, d1, ds1, p1, q1, rfl, rfl, rfl, h1, r1⟩ := trodAll_cons r0
  obtain ⟨rfl, rfl, rfl⟩ := trodAll_nil r1
  obtain rfl : args = #[v0, v1] := by cases args; simp_all
  obtain ⟨rfl, rfl⟩ := trodVars_none hV
  have lt0 : ∀ x ∈ p0, x.block < W.heap.size := by obtain ⟨m, hm⟩ := h0; exact DataW.trod_lt m _ _ _ hm
  have lt1 : ∀ x ∈ p1, x.block < W.heap.size := by obtain ⟨m, hm⟩ := h1; exact DataW.trod_lt m _ _ _ hm
  obtain ⟨c0, g1, g2⟩ := open_arg (k := 8) (fun _ => rfl) (by kernel_rfl) (hval 0 26 v0 rfl rfl) h0
  obtain ⟨c1, g3, g4⟩ := open_arg (k := 8) (fun _ => rfl) (by kernel_rfl) (hval 1 29 v1 rfl rfl) h1
  obtain ⟨nx, l, e, q, q2, e1, f1, f2, f3⟩ := rd_Fo g1
  obtain ⟨y, e2, f4, f5⟩ := rd_Og g3
  rw [show mkV PP 26 c0 = _ from e1] at g2
  rw [show mkV PP 29 c1 = _ from e2] at g4
  clear hA0 hval0 hsz0
  refine (run0 pg_ok (f := 4) (by decide) (w4 [] nx l e q q2 y f1 (fun y hy => (f2 y hy).1) (fun y hy => (f2 y hy).2) f3 f5) (W := W) (vs := #[v0, v1]) rfl (fun i d hi => ?_)).mono fun e W' ⟨x, g', he, hr, bel⟩ => ?_
  · match i with
    | 0 => simp at hi; subst hi; exact ⟨v0, rfl, g2⟩
    | 1 => simp at hi; subst hi; exact ⟨v1, rfl, g4⟩
    | i + 2 => simp at hi
  · obtain rfl := rtb hr
    subst he
    exact ⟨_, rfl, _, _, _, [], _, [], hW', trodAll_mk1 (shut_bool Try.underlying4 _), trodAll_cons_mk (Below.trod laidOut (by kernel_rfl) (of_decide_eq_true (by kernel_rfl)) h0 bel lt0) (trodAll_cons_mk (Below.trod laidOut (by kernel_rfl) (of_decide_eq_true (by kernel_rfl)) h1 bel lt1) trodAll_mk0), rfl, bel.frame _, fun h => by cases h⟩
/-- The law FilesendPuts holds for every input. -/
theorem filesendPuts_holds : Rows.FilesendPutsSaid :=
  OpenClaim.holds_of_wide 4 Try.f4 rfl rfl rfl rfl rfl rfl rfl ⟨rfl, rfl, rfl, rfl, rfl⟩ rfl rfl rfl rfl rfl (by kernel_rfl) Try.func4 (by kernel_rfl)
    (of_decide_eq_true (by kernel_rfl)) (by unfold Func.isWrapper; first | (rw [if_pos (by decide +kernel)]; kernel_rfl) | (rw [if_neg (by decide +kernel)]; exact ⟨rfl, rfl⟩))
    (fun os started H enc _ => lifted4 os started H enc)
#print axioms filesendPuts_holds
end Go.Proofs.Ytlhjdikklmkihaa
