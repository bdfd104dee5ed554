/- The law FilesendSteps, as it is given: it returns true whatever it is given, and leaves it as it was. Conditions: none. -/
import Derived.Test.YtlhjdikklmkihaaL21
import Derived.Test.YtlhjdikklmkihaaEv8
import Derived.Test.YtlhjdikklmkihaaRows
set_option linter.all false
namespace Go.Proofs.Ytlhjdikklmkihaa.Ev
open Go Go.ChangeShapes Go.WideShapes Go.ChangeAt Go.RowKit

theorem list_of {α : Type} {P : Program} {e : TypeId} {f : α → D} {Q : α → Prop} : ∀ {xs : List (List D)}, (∀ x, x ∈ xs → RD P e x) → (∀ x, RD P e x → ∃ a, mkV P e x = f a ∧ Q a) → ∃ l : List α, xs.map (mkV P e) = l.map f ∧ ∀ a ∈ l, Q a
  | [], _, _ => ⟨[], rfl, fun a h => by cases h⟩
  | x :: xs, h, k => by
    obtain ⟨l, h1, h2⟩ := list_of (xs := xs) (fun y hy => h y (List.mem_cons_of_mem _ hy)) k
    obtain ⟨a, h3, h4⟩ := k x (h x (List.mem_cons_self ..))
    exact ⟨a :: l, by rw [List.map_cons, h3, h1, List.map_cons], fun b hb => by
      rcases List.mem_cons.1 hb with rfl | hb
      · exact h4
      · exact h2 b hb⟩
theorem wf_nat {n : Int} (h : (Lit.int .u32 n).wf = true) : 0 ≤ n := by
  simp only [Lit.wf, Bool.and_eq_true, decide_eq_true_eq] at h
  exact h.1
theorem wf_byte {n : Int} (h : (Lit.int .u8 n).wf = true) : 0 ≤ n ∧ n < 256 := by
  simp only [Lit.wf, Bool.and_eq_true, decide_eq_true_eq] at h
  have e1 : IntKind.u8.min = 0 := rfl
  have e2 : IntKind.u8.max = 255 := rfl
  omega
theorem xs2 {α : Type} {xs : List α} (h : xs.length = 2) : ∃ a b, xs = [a, b] := by
  match xs, h with
  | [a, b], _ => exact ⟨a, b, rfl⟩
theorem xs3 {α : Type} {xs : List α} (h : xs.length = 3) : ∃ a b c, xs = [a, b, c] := by
  match xs, h with
  | [a, b, c], _ => exact ⟨a, b, c, rfl⟩
theorem xs6 {α : Type} {xs : List α} (h : xs.length = 6) : ∃ a b c d e f, xs = [a, b, c, d, e, f] := by
  match xs, h with
  | [a, b, c, d, e, f], _ => exact ⟨a, b, c, d, e, f, rfl⟩

theorem rd_bytes {ds : List D} (h : RD Try.prog 27 ds) : ∃ (q : Bool) (b : List Nat), ds = [lst .ro 1 q (b.map un)] ∧ ∀ c ∈ b, c < 256 := by
  obtain ⟨q, xs, h1, rfl⟩ := h.sl' Try.underlying27
  obtain ⟨b, h2, h3⟩ := list_of (f := un) (Q := fun c => c < 256) h1 (fun x hx => by
    obtain ⟨n, hw, rfl⟩ := hx.int' Try.underlying5
    obtain ⟨w1, w2⟩ := wf_byte hw
    refine ⟨n.toNat, ?_, by omega⟩
    have e : ((n.toNat : Nat) : Int) = n := Int.toNat_of_nonneg w1
    have e5 : Try.prog.underlying 5 = some (.int .u8) := Try.underlying5
    simp [mkV, aggE, e5, e])
  have z : Try.prog.cellsOf 5 = 1 := by kernel_rfl
  rw [h2, z]
  exact ⟨q, b, rfl, h3⟩
theorem rd_Og {ds : List D} (h : RD Try.prog 29 ds) : ∃ y : Og, mkV Try.prog 29 ds = y.D ∧ 0 ≤ y.n ∧ ∀ c ∈ y.b, c < 256 := by
  have e29 : Try.prog.underlying 29 = _ := Try.underlying29
  obtain ⟨xs, hl, hx, rfl⟩ := h.st' Try.underlying29
  obtain ⟨a, b, c, d, e, f, rfl⟩ := xs6 hl
  obtain ⟨n, hn, rfl⟩ := (hx 0 _ _ rfl rfl).int' Try.underlying22
  obtain ⟨dd, _, rfl⟩ := (hx 1 _ _ rfl rfl).int' Try.underlying3
  obtain ⟨nm, _, rfl⟩ := (hx 2 _ _ rfl rfl).str' Try.underlying9
  obtain ⟨q, b, rfl, hb⟩ := rd_bytes (hx 3 _ _ rfl rfl)
  obtain ⟨s, _, rfl⟩ := (hx 4 _ _ rfl rfl).int' Try.underlying3
  obtain ⟨u, _, rfl⟩ := (hx 5 _ _ rfl rfl).int' Try.underlying3
  exact ⟨⟨n, dd, nm, q, b, s, u⟩, by simp [mkV, aggE, e29, Og.D], wf_nat hn, hb⟩
theorem rd_En {ds : List D} (h : RD Try.prog 51 ds) : ∃ y : En, mkV Try.prog 51 ds = y.D ∧ 0 ≤ y.n := by
  have e51 : Try.prog.underlying 51 = _ := Try.underlying51
  obtain ⟨xs, hl, hx, rfl⟩ := h.st' Try.underlying51
  obtain ⟨a, b, rfl⟩ := xs2 hl
  obtain ⟨n, hn, rfl⟩ := (hx 0 _ _ rfl rfl).int' Try.underlying22
  obtain ⟨c, _, rfl⟩ := (hx 1 _ _ rfl rfl).int' Try.underlying3
  exact ⟨⟨n, c⟩, by simp [mkV, aggE, e51, En.D], wf_nat hn⟩
theorem rd_Fo {ds : List D} (h : RD Try.prog 26 ds) : ∃ (nx : Int) (l : List Og) (e : List En) (q q2 : Bool), mkV Try.prog 26 ds = .agg [vu nx, lst .ro 6 q (l.map Og.D), lst .ro 2 q2 (e.map En.D)] ∧ 0 ≤ nx ∧ (∀ y ∈ l, 0 ≤ y.n ∧ ∀ c ∈ y.b, c < 256) ∧ ∀ y ∈ e, 0 ≤ y.n := by
  have e26 : Try.prog.underlying 26 = _ := Try.underlying26
  obtain ⟨xs, hl, hx, rfl⟩ := h.st' Try.underlying26
  obtain ⟨a, b, c, rfl⟩ := xs3 hl
  obtain ⟨n, hn, rfl⟩ := (hx 0 _ _ rfl rfl).int' Try.underlying22
  obtain ⟨q, x1, k1, rfl⟩ := (hx 1 _ _ rfl rfl).sl' Try.underlying23
  obtain ⟨q2, x2, k2, rfl⟩ := (hx 2 _ _ rfl rfl).sl' Try.underlying24
  obtain ⟨l, h1, h2⟩ := list_of (f := Og.D) (Q := fun y => 0 ≤ y.n ∧ ∀ c ∈ y.b, c < 256) k1 (fun x hx => rd_Og hx)
  obtain ⟨e, h3, h4⟩ := list_of (f := En.D) (Q := fun y => 0 ≤ y.n) k2 (fun x hx => rd_En hx)
  have z1 : Try.prog.cellsOf 29 = 6 := by kernel_rfl
  have z2 : Try.prog.cellsOf 51 = 2 := by kernel_rfl
  exact ⟨n, l, e, q, q2, by simp [mkV, aggE, e26, h1, h3, z1, z2], wf_nat hn, h2, h4⟩

theorem own : ownKnob Try.prog.godebug = none := by kernel_rfl
theorem laidOut : laidOutB Try.prog = true := by kernel_rfl
theorem rtb {g : G} {w : World} {x : Value} {b : Bool} (h : RT g w retL x (vb b)) : x = .bool b := h

end Go.Proofs.Ytlhjdikklmkihaa.Ev
namespace Go.Proofs.Ytlhjdikklmkihaa
open Go Go.ChangeShapes Go.WideShapes Go.ChangeAt Go.RowKit Go.Proofs.Ytlhjdikklmkihaa.Ev
set_option maxRecDepth 100000 in
theorem lifted3 (os : Os) (started : os.Started) (H : Type) (enc : TypeId × Value → H) :
    ReturnsInHanded {} Try.checked os 3 .any (Rows.filesendStepsSpec.pre6 enc Try.prog Try.f3 Rows.filesendStepsRow.domain false) (Rows.filesendStepsSpec.post enc Try.prog Try.f3 false true false false) := by
  refine returnsInHanded_of_change_sized (C := Try.checked) own started (by kernel_rfl) Try.func3
    (ChangeSpec.witness6 (enc := enc) (C := Try.checked) false ⟨#[], #[.agg #[.int .u32 0, .slice none 0 0, .slice none 0 0], .agg #[.int .u32 0, .int .i64 0, .string ByteArray.empty, .slice none 0 0, .int .i64 0, .int .i64 0]], []⟩ 8 (by kernel_rfl) (by kernel_rfl) (by kernel_rfl) (by kernel_rfl)) ?_
  intro W base args ds gs before hval0 hW hcnd hsz0 _
  have hval : ∀ (j : Nat) t v, Try.f3.params[j]? = some t → args[j]? = some v → Value.okWide Try.prog W .any base t v := hval0
  have hW' := hW
  obtain ⟨p, q, hA0, hV, rfl, hfz, hnd⟩ := hW
  have hA : DataW.TrodAll enc Try.prog W 0 (fun _ => true) true Try.f3.params.toList args.toList ds p := hA0
  rw [Try.params3] at hA hval
  obtain ⟨v0, vs0, d0, ds0, p0, q0, hargs, rfl, rfl, h0, r0⟩ := trodAll_cons hA
  obtain ⟨v1, vs1, d1, ds1, p1, q1, rfl, rfl, rfl, h1, r1⟩ := trodAll_cons r0
  obtain ⟨rfl, rfl, rfl⟩ := trodAll_nil r1
  obtain rfl : args = #[v0, v1] := by cases args; simp_all
  obtain ⟨rfl, rfl⟩ := trodVars_none hV
  have lt0 : ∀ x ∈ p0, x.block < W.heap.size := by obtain ⟨m, hm⟩ := h0; exact DataW.trod_lt m _ _ _ hm
  have lt1 : ∀ x ∈ p1, x.block < W.heap.size := by obtain ⟨m, hm⟩ := h1; exact DataW.trod_lt m _ _ _ hm
  obtain ⟨c0, g1, g2⟩ := open_arg (k := 8) (fun _ => rfl) (by kernel_rfl) (hval 0 26 v0 rfl rfl) h0
  obtain ⟨c1, g3, g4⟩ := open_arg (k := 8) (fun _ => rfl) (by kernel_rfl) (hval 1 29 v1 rfl rfl) h1
  obtain ⟨nx, l, e, q, q2, e1, f1, f2, f3⟩ := rd_Fo g1
  obtain ⟨y, e2, f4, f5⟩ := rd_Og g3
  rw [show mkV PP 26 c0 = _ from e1] at g2
  rw [show mkV PP 29 c1 = _ from e2] at g4
  clear hA0 hval0 hsz0
  refine (run0 pg_ok (f := 3) (by decide) (w3 [] nx l e q q2 y f1 (fun y hy => (f2 y hy).1) (fun y hy => (f2 y hy).2) f3 f5) (W := W) (vs := #[v0, v1]) rfl (fun i d hi => ?_)).mono fun e W' ⟨x, g', he, hr, bel⟩ => ?_
  · match i with
    | 0 => simp at hi; subst hi; exact ⟨v0, rfl, g2⟩
    | 1 => simp at hi; subst hi; exact ⟨v1, rfl, g4⟩
    | i + 2 => simp at hi
  · obtain rfl := rtb hr
    subst he
    exact ⟨_, rfl, _, _, _, [], _, [], hW', trodAll_mk1 (shut_bool Try.underlying4 _), trodAll_cons_mk (Below.trod laidOut (by kernel_rfl) (of_decide_eq_true (by kernel_rfl)) h0 bel lt0) (trodAll_cons_mk (Below.trod laidOut (by kernel_rfl) (of_decide_eq_true (by kernel_rfl)) h1 bel lt1) trodAll_mk0), rfl, bel.frame _, fun h => by cases h⟩
/-- The law FilesendSteps holds for every input. -/
theorem filesendSteps_holds : Rows.FilesendStepsSaid :=
  OpenClaim.holds_of_wide 3 Try.f3 rfl rfl rfl rfl rfl rfl rfl ⟨rfl, rfl, rfl, rfl, rfl⟩ rfl rfl rfl rfl rfl (by kernel_rfl) Try.func3 (by kernel_rfl)
    (of_decide_eq_true (by kernel_rfl)) (by unfold Func.isWrapper; first | (rw [if_pos (by decide +kernel)]; kernel_rfl) | (rw [if_neg (by decide +kernel)]; exact ⟨rfl, rfl⟩))
    (fun os started H enc _ => lifted3 os started H enc)
#print axioms filesendSteps_holds
end Go.Proofs.Ytlhjdikklmkihaa
