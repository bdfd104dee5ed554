/- What the arguments of layer 21's laws are, as data. Conditions: none. -/
import Derived.Test.YtlhjdikklmkihaaB21
import Derived.Test.YtlhjdikklmkihaaEv8
import Derived.Test.YtlhjdikklmkihaaRows
import Derived.KernelRfl
set_option linter.all false
namespace Go.Proofs.Ytlhjdikklmkihaa.Ev
open Go Go.ChangeShapes Go.WideShapes Go.ChangeAt Go.RowKit

theorem list_of {α : Type} {P : Program} {e : TypeId} {f : α → D} {Q : α → Prop} : ∀ {xs : List (List D)}, (∀ x, x ∈ xs → RD P e x) → (∀ x, RD P e x → ∃ a, mkV P e x = f a ∧ Q a) → ∃ l : List α, xs.map (mkV P e) = l.map f ∧ ∀ a ∈ l, Q a
  | [], _, _ => ⟨[], rfl, fun a h => by cases h⟩
  | x :: xs, h, k => by
    obtain ⟨l, h1, h2⟩ := list_of (xs := xs) (fun y hy => h y (List.mem_cons_of_mem _ hy)) k
    obtain ⟨a, h3, h4⟩ := k x (h x (List.mem_cons_self ..))
    exact ⟨a :: l, by rw [List.map_cons, h3, h1, List.map_cons], fun b hb => by
      rcases List.mem_cons.1 hb with rfl | hb
      · exact h4
      · exact h2 b hb⟩
theorem wf_nat {n : Int} (h : (Lit.int .u32 n).wf = true) : 0 ≤ n := by
  simp only [Lit.wf, Bool.and_eq_true, decide_eq_true_eq] at h
  exact h.1
theorem wf_u32 {n : Int} (h : (Lit.int .u32 n).wf = true) : n < 4294967296 := by
  simp only [Lit.wf, Bool.and_eq_true, decide_eq_true_eq] at h
  have e2 : IntKind.u32.max = 4294967295 := rfl
  omega
theorem wf_byte {n : Int} (h : (Lit.int .u8 n).wf = true) : 0 ≤ n ∧ n < 256 := by
  simp only [Lit.wf, Bool.and_eq_true, decide_eq_true_eq] at h
  have e1 : IntKind.u8.min = 0 := rfl
  have e2 : IntKind.u8.max = 255 := rfl
  omega
theorem xs2 {α : Type} {xs : List α} (h : xs.length = 2) : ∃ a b, xs = [a, b] := by
  match xs, h with
  | [a, b], _ => exact ⟨a, b, rfl⟩
theorem xs3 {α : Type} {xs : List α} (h : xs.length = 3) : ∃ a b c, xs = [a, b, c] := by
  match xs, h with
  | [a, b, c], _ => exact ⟨a, b, c, rfl⟩
theorem xs6 {α : Type} {xs : List α} (h : xs.length = 6) : ∃ a b c d e f, xs = [a, b, c, d, e, f] := by
  match xs, h with
  | [a, b, c, d, e, f], _ => exact ⟨a, b, c, d, e, f, rfl⟩

theorem rd_bytes {ds : List D} (h : RD Try.prog 27 ds) : ∃ (q : Bool) (b : List Nat), ds = [lst .ro 1 q (b.map un)] ∧ ∀ c ∈ b, c < 256 := by
  obtain ⟨q, xs, h1, rfl⟩ := h.sl' Try.underlying27
  obtain ⟨b, h2, h3⟩ := list_of (f := un) (Q := fun c => c < 256) h1 (fun x hx => by
    obtain ⟨n, hw, rfl⟩ := hx.int' Try.underlying5
    obtain ⟨w1, w2⟩ := wf_byte hw
    refine ⟨n.toNat, ?_, by omega⟩
    have e : ((n.toNat : Nat) : Int) = n := Int.toNat_of_nonneg w1
    have e5 : Try.prog.underlying 5 = some (.int .u8) := Try.underlying5
    simp [mkV, aggE, e5, e])
  have z : Try.prog.cellsOf 5 = 1 := by kernel_rfl
  rw [h2, z]
  exact ⟨q, b, rfl, h3⟩
theorem rd_Og {ds : List D} (h : RD Try.prog 29 ds) : ∃ y : Og, mkV Try.prog 29 ds = y.D ∧ 0 ≤ y.n ∧ ∀ c ∈ y.b, c < 256 := by
  have e29 : Try.prog.underlying 29 = _ := Try.underlying29
  obtain ⟨xs, hl, hx, rfl⟩ := h.st' Try.underlying29
  obtain ⟨a, b, c, d, e, f, rfl⟩ := xs6 hl
  obtain ⟨n, hn, rfl⟩ := (hx 0 _ _ rfl rfl).int' Try.underlying22
  obtain ⟨dd, _, rfl⟩ := (hx 1 _ _ rfl rfl).int' Try.underlying3
  obtain ⟨nm, _, rfl⟩ := (hx 2 _ _ rfl rfl).str' Try.underlying9
  obtain ⟨q, b, rfl, hb⟩ := rd_bytes (hx 3 _ _ rfl rfl)
  obtain ⟨s, _, rfl⟩ := (hx 4 _ _ rfl rfl).int' Try.underlying3
  obtain ⟨u, _, rfl⟩ := (hx 5 _ _ rfl rfl).int' Try.underlying3
  exact ⟨⟨n, dd, nm, q, b, s, u⟩, by simp [mkV, aggE, e29, Og.D], wf_nat hn, hb⟩
theorem rd_En {ds : List D} (h : RD Try.prog 51 ds) : ∃ y : En, mkV Try.prog 51 ds = y.D ∧ 0 ≤ y.n := by
  have e51 : Try.prog.underlying 51 = _ := Try.underlying51
  obtain ⟨xs, hl, hx, rfl⟩ := h.st' Try.underlying51
  obtain ⟨a, b, rfl⟩ := xs2 hl
  obtain ⟨n, hn, rfl⟩ := (hx 0 _ _ rfl rfl).int' Try.underlying22
  obtain ⟨c, _, rfl⟩ := (hx 1 _ _ rfl rfl).int' Try.underlying3
  exact ⟨⟨n, c⟩, by simp [mkV, aggE, e51, En.D], wf_nat hn⟩
theorem rd_Fo {ds : List D} (h : RD Try.prog 26 ds) : ∃ (nx : Int) (l : List Og) (e : List En) (q q2 : Bool), mkV Try.prog 26 ds = .agg [vu nx, lst .ro 6 q (l.map Og.D), lst .ro 2 q2 (e.map En.D)] ∧ (0 ≤ nx ∧ nx < 4294967296) ∧ (∀ y ∈ l, 0 ≤ y.n ∧ ∀ c ∈ y.b, c < 256) ∧ ∀ y ∈ e, 0 ≤ y.n := by
  have e26 : Try.prog.underlying 26 = _ := Try.underlying26
  obtain ⟨xs, hl, hx, rfl⟩ := h.st' Try.underlying26
  obtain ⟨a, b, c, rfl⟩ := xs3 hl
  obtain ⟨n, hn, rfl⟩ := (hx 0 _ _ rfl rfl).int' Try.underlying22
  obtain ⟨q, x1, k1, rfl⟩ := (hx 1 _ _ rfl rfl).sl' Try.underlying23
  obtain ⟨q2, x2, k2, rfl⟩ := (hx 2 _ _ rfl rfl).sl' Try.underlying24
  obtain ⟨l, h1, h2⟩ := list_of (f := Og.D) (Q := fun y => 0 ≤ y.n ∧ ∀ c ∈ y.b, c < 256) k1 (fun x hx => rd_Og hx)
  obtain ⟨e, h3, h4⟩ := list_of (f := En.D) (Q := fun y => 0 ≤ y.n) k2 (fun x hx => rd_En hx)
  have z1 : Try.prog.cellsOf 29 = 6 := by kernel_rfl
  have z2 : Try.prog.cellsOf 51 = 2 := by kernel_rfl
  exact ⟨n, l, e, q, q2, by simp [mkV, aggE, e26, h1, h3, z1, z2], ⟨wf_nat hn, wf_u32 hn⟩, h2, h4⟩

theorem own : ownKnob Try.prog.godebug = none := by kernel_rfl
theorem laidOut : laidOutB Try.prog = true := by kernel_rfl
theorem rtb {g : G} {w : World} {x : Value} {b : Bool} (h : RT g w retL x (vb b)) : x = .bool b := h

end Go.Proofs.Ytlhjdikklmkihaa.Ev
