/- The law ReceiverBegins, as it is given: it returns true whatever it is given, and leaves it as it was. Conditions: none. -/
import Derived.Test.YtmbhpchkhilheaaUi
import Derived.Test.YtmbhpchkhilheaaEv8
import Derived.Test.YtmbhpchkhilheaaFt15
import Derived.Test.YtmbhpchkhilheaaRows
import Derived.KernelRfl
set_option linter.all false
namespace Go.Proofs.Ytmbhpchkhilheaa.Ev.U
open Go
/-- A cell is of a type. -/
def CellOk (P : Caller) (τ : Ty) (d : D) : Prop := τ.one = true ∧ ∃ x : τ.T, RepL P τ [] x [d]
def rowL : Ty → List Ty
  | .p a r => a :: rowL r
  | τ => [τ]
def rowKk : Ty → Bool
  | .p a r => a.one && (r.rowk && rowKk r)
  | τ => τ.one
theorem row_of {P : Caller} : ∀ (r : Ty) (ds : List D), rowKk r = true → All2 (CellOk P) (rowL r) ds → ∃ x : r.T, RepL P r [] x ds := by
  have base : ∀ (r : Ty) (ds : List D), All2 (CellOk P) [r] ds → ∃ x : r.T, RepL P r [] x ds := fun r ds h => by
    obtain ⟨d, q, rfl, ⟨_, x, hx⟩, h2⟩ := h.cons_l
    obtain rfl := h2.nil_l
    exact ⟨x, hx⟩
  intro r
  induction r with
  | p a r _ ih =>
    intro ds hk h
    simp only [rowKk, Bool.and_eq_true] at hk
    obtain ⟨d, q, rfl, ⟨_, x, hx⟩, h2⟩ := h.cons_l
    obtain ⟨y, hy⟩ := ih q hk.2.2 h2
    exact ⟨(x, y), ⟨hk.1, hk.2.1⟩, d, q, rfl, hx, hy⟩
  | _ => intro ds _ h; exact base _ ds h
/-- Types of cells, eaten from the front. -/
def manyM (cM : TypeId → List Ty → Option (List Ty)) : List TypeId → List Ty → Option (List Ty)
  | [], ts => some ts
  | t :: l, ts => (cM t ts).bind (manyM cM l)
def endM : Option (List Ty) → Bool
  | some [] => true
  | _ => false
def valM (P : Program) (cM : TypeId → List Ty → Option (List Ty)) (e : TypeId) (τ : Ty) : Bool := bif aggE P e then (match τ with
  | .g r => r.rowk && rowKk r && endM (cM e (rowL r))
  | _ => false) else τ.one && endM (cM e [τ])
def cellM (P : Program) : Nat → TypeId → List Ty → Option (List Ty)
  | 0, _, _ => none
  | k + 1, t, ts => match P.underlying t with
    | some .bool => match ts with
      | .b :: q => some q
      | _ => none
    | some (.int k1) => match ts with
      | .i k2 :: q => bif decide (k1 = k2) then some q else none
      | _ => none
    | some .string => match ts with
      | .s :: q => some q
      | _ => none
    | some (.slice e) => match ts with
      | .l .ro τ :: q => bif valM P (cellM P k) e τ && (csz τ == P.cellsOf e) then some q else none
      | _ => none
    | some (.struct fs) => manyM (cellM P k) (fs.toList.map (·.type)) ts
    | some (.array n e) => manyM (cellM P k) (List.replicate n e) ts
    | _ => none
section
variable {P : Caller}
def CM (P : Caller) (cM : TypeId → List Ty → Option (List Ty)) : Prop := ∀ t ts q, cM t ts = some q → ∀ ds, RD PP t ds → ∃ us, ts = us ++ q ∧ All2 (CellOk P) us ds
theorem many_ok {cM : TypeId → List Ty → Option (List Ty)} (h : CM P cM) : ∀ (l : List TypeId) (ts q : List Ty), manyM cM l ts = some q → ∀ xs : List (List D), xs.length = l.length → (∀ (i : Nat) t x, l[i]? = some t → xs[i]? = some x → RD PP t x) → ∃ us, ts = us ++ q ∧ All2 (CellOk P) us xs.flatten
  | [], ts, q, hm, xs, hl, hx => by
    obtain rfl : ts = q := by injection hm
    obtain rfl : xs = [] := List.eq_nil_of_length_eq_zero hl
    exact ⟨[], rfl, trivial⟩
  | t :: l, ts, q, hm, [], hl, hx => by simp at hl
  | t :: l, ts, q, hm, x :: xs, hl, hx => by
    obtain ⟨r, h1, h2⟩ := Option.bind_eq_some_iff.1 hm
    obtain ⟨us, rfl, h3⟩ := h t ts r h1 x (hx 0 t x rfl rfl)
    obtain ⟨vs, rfl, h4⟩ := many_ok h l r q h2 xs (by simpa using hl) fun i t x ht hq => hx (i + 1) t x (by simpa using ht) (by simpa using hq)
    exact ⟨us ++ vs, by simp, by rw [List.flatten_cons]; exact h3.app h4⟩
theorem end_ok {o : Option (List Ty)} (h : endM o = true) : o = some [] := by
  cases o with
  | none => cases h
  | some l => cases l with
    | nil => rfl
    | cons => cases h
theorem val_ok {cM : TypeId → List Ty → Option (List Ty)} (h : CM P cM) {e : TypeId} {τ : Ty} (hm : valM PP cM e τ = true) {ds : List D} (hr : RD PP e ds) : τ.val = true ∧ ∃ x : τ.T, RepL P τ [] x [mkV PP e ds] := by
  unfold valM at hm
  cases ha : aggE PP e with
  | true =>
    rw [ha, cond_true] at hm
    have hv : mkV PP e ds = .agg ds := by unfold mkV; rw [if_pos ha]
    rw [hv]
    cases τ with
    | g r =>
      simp only [Bool.and_eq_true] at hm
      obtain ⟨us, h1, h2⟩ := h e (rowL r) [] (end_ok hm.2) ds hr
      rw [List.append_nil] at h1
      subst h1
      obtain ⟨x, hx⟩ := row_of r ds hm.1.2 h2
      exact ⟨rfl, x, hm.1.1, ds, rfl, hx⟩
    | _ => cases hm
  | false =>
    rw [ha, cond_false, Bool.and_eq_true] at hm
    have hv : mkV PP e ds = ds.headD .u := by unfold mkV; rw [if_neg (by rw [ha]; simp)]
    obtain ⟨us, h1, h2⟩ := h e [τ] [] (end_ok hm.2) ds hr
    rw [List.append_nil] at h1
    subst h1
    obtain ⟨d, q, rfl, ⟨h3, x, hx⟩, h4⟩ := h2.cons_l
    obtain rfl := h4.nil_l
    rw [hv]
    refine ⟨?_, x, hx⟩
    cases τ <;> first | exact h3 | rfl
theorem list_ok {cM : TypeId → List Ty → Option (List Ty)} (h : CM P cM) {e : TypeId} {τ : Ty} (hm : valM PP cM e τ = true) : ∀ {xs : List (List D)}, (∀ x, x ∈ xs → RD PP e x) → ∃ l : List τ.T, l.length = xs.length ∧ All2 (fun y d => RepL P τ [] y [d]) l (xs.map (mkV PP e))
  | [], _ => ⟨[], rfl, trivial⟩
  | x :: xs, hx => by
    obtain ⟨l, h1, h2⟩ := list_ok h hm (xs := xs) fun y hy => hx y (List.mem_cons_of_mem _ hy)
    obtain ⟨_, y, hy⟩ := val_ok h hm (hx x (List.mem_cons_self ..))
    exact ⟨y :: l, by simp [h1], hy, h2⟩
theorem str_ok (s : ByteArray) : strV (s.data.toList.map fun u => ((u.toNat : Nat) : Int)) = s := by
  have : ∀ l : List UInt8, (l.map fun u => ((u.toNat : Nat) : Int)).map (fun c => UInt8.ofNat c.toNat) = l := by
    intro l
    induction l with
    | nil => rfl
    | cons u l ih => simp only [List.map_cons, ih, Int.toNat_natCast, UInt8.ofNat_toNat]
  unfold strV
  rw [this]
theorem wf_in {k : IntKind} {n : Int} (h : (Lit.int k n).wf = true) : inK k n = true := by
  simp only [Lit.wf, Bool.and_eq_true, decide_eq_true_eq] at h
  cases k <;> exact decide_eq_true h
theorem cell_ok : ∀ k, CM P (cellM PP k)
  | 0 => fun t ts q h => by cases h
  | k + 1 => fun t ts q h ds hr => by
    have ih := cell_ok k
    unfold cellM at h
    split at h
    · rename_i hu
      obtain ⟨b, rfl⟩ := hr.bool' hu
      split at h
      · injection h with h; subst h
        exact ⟨[.b], rfl, ⟨rfl, b, rfl⟩, trivial⟩
      · cases h
    · rename_i k1 hu
      obtain ⟨n, hw, rfl⟩ := hr.int' hu
      split at h
      · rename_i k2 q'
        by_cases e : k1 = k2
        · rw [decide_eq_true e, cond_true] at h
          injection h with h; subst h; subst e
          exact ⟨[.i k1], rfl, ⟨rfl, n, rfl, wf_in hw⟩, trivial⟩
        · rw [decide_eq_false e, cond_false] at h; cases h
      · cases h
    · rename_i hu
      obtain ⟨s, hs, rfl⟩ := hr.str' hu
      split at h
      · injection h with h; subst h
        refine ⟨[.s], rfl, ⟨rfl, s.data.toList.map fun u => ((u.toNat : Nat) : Int), by rw [str_ok], ?_, fun c hc => ?_⟩, trivial⟩
        · rw [List.length_map]; exact hs
        · obtain ⟨u, _, rfl⟩ := List.mem_map.1 hc
          have := u.toNat_lt
          omega
      · cases h
    · rename_i e hu
      obtain ⟨b, xs, ⟨hn, hx⟩, rfl⟩ := hr.sl' hu
      split at h
      · rename_i τ q'
        cases hc : (valM PP (cellM PP k) e τ && (csz τ == PP.cellsOf e)) with
        | false => rw [hc, cond_false] at h; cases h
        | true =>
          rw [hc, cond_true] at h
          injection h with h; subst h
          rw [Bool.and_eq_true, beq_iff_eq] at hc
          obtain ⟨l, h1, h2⟩ := list_ok ih hc.1 hx
          refine ⟨[.l .ro τ], rfl, ⟨rfl, l, by rw [h1]; exact hn, _, h2, ?_⟩, trivial⟩
          unfold lst
          rw [hc.2]
          split
          · rename_i hq
            simp only [Bool.and_eq_true, List.isEmpty_iff] at hq
            exact .inr ⟨hq.2, 0, rfl⟩
          · exact .inl rfl
      · cases h
    · rename_i fs hu
      obtain ⟨xs, hl, hx, rfl⟩ := hr.st' hu
      refine many_ok ih _ ts q h xs (by simpa using hl) fun i t x ht hq => ?_
      rw [List.getElem?_map] at ht
      cases hf : fs.toList[i]? with
      | none => rw [hf] at ht; cases ht
      | some f =>
        rw [hf] at ht
        injection ht with ht; subst ht
        exact hx i f x (by rw [← Array.getElem?_toList]; exact hf) hq
    · rename_i n e hu
      obtain ⟨xs, hl, hx, rfl⟩ := hr.arr' hu
      refine many_ok ih _ ts q h xs (by simpa using hl) fun i t x ht hq => ?_
      have := List.mem_of_getElem? ht
      obtain ⟨_, rfl⟩ := List.mem_replicate.1 this
      exact hx i x hq
    · cases h
end
/-- A value of a type, read as one. -/
theorem arg_u {P : Caller} (k : Nat) {t : TypeId} (τ : Ty) (hm : valM PP (cellM PP k) t τ = true) {ds : List D} (hr : RD PP t ds) : ∃ x : τ.T, RepL P τ [] x [mkV PP t ds] := (val_ok (cell_ok k) hm hr).2
/-- The numbers of a value are of their kinds. -/
def Wf : (τ : Ty) → τ.T → Prop
  | .i k, x => inK k x = true
  | .b, _ => True
  | .s, x => ∀ c : Int, List.Mem (α := Int) c x → 0 ≤ c ∧ c < 256
  | .l _ t, x => ∀ y : t.T, List.Mem (α := t.T) y x → Wf t y
  | .p a r, x => Wf a x.1 ∧ Wf r x.2
  | .g r, x => Wf r x
  | .t a r, x => Wf a x.1 ∧ Wf r x.2
  | .n, _ => True
  | .o _ _, _ => True
  | .fn _ _, _ => True
theorem All2.mem_l {α β : Type} {R : α → β → Prop} : ∀ {xs : List α} {ys : List β}, All2 R xs ys → ∀ x ∈ xs, ∃ y, R x y
  | [], _, _, x, h => by cases h
  | a :: xs, [], h, _, _ => h.elim
  | a :: xs, b :: ys, h, x, hx => by
    rcases List.mem_cons.1 hx with rfl | hx
    · exact ⟨b, h.1⟩
    · exact All2.mem_l h.2 x hx
theorem wf_rep {P : Caller} {F : List Fx} : ∀ {τ : Ty} {x : τ.T} {ds : List D}, RepL P τ F x ds → Wf τ x
  | .i k, x, ds, h => h.2
  | .b, x, ds, h => trivial
  | .s, x, ds, h => h.2.2
  | .l m t, x, ds, h => by
    obtain ⟨_, es, h1, _⟩ := h
    intro y hy
    obtain ⟨e, he⟩ := h1.mem_l y hy
    exact wf_rep (τ := t) he
  | .p a r, x, ds, h => by
    obtain ⟨_, d, q, _, h1, h2⟩ := h
    exact ⟨wf_rep h1, wf_rep h2⟩
  | .g r, x, ds, h => by
    obtain ⟨_, cs, _, h1⟩ := h
    exact wf_rep (τ := r) h1
  | .t a r, x, ds, h => by
    obtain ⟨_, d, q, _, h1, h2⟩ := h
    exact ⟨wf_rep h1, wf_rep h2⟩
  | .n, x, ds, h => trivial
  | .o _ _, x, ds, h => trivial
  | .fn _ _, x, ds, h => trivial
/-- A typed function without pointers, as a call. -/
theorem ef_b {P : Caller} {f : Nat} {a : AK} {ak : List AK} {F : (Sg.mk (a :: ak) .b).aT.T → Option (Sg.mk (a :: ak) .b).oT.T} (ho : TOK P f (.par ⟨a :: ak, .b⟩ F)) (hv : ∀ b ∈ a :: ak, ∃ τ, b = .v τ) (ht : (Sg.mk (a :: ak) .b).aT.tupk = true)
    {x : (Sg.mk (a :: ak) .b).aT.T} {ds : List D} (hl : ds.length = (a :: ak).length) (hr : RepL P (Sg.mk (a :: ak) .b).aT [] x ds) {y : (Sg.mk (a :: ak) .b).oT.T} (hy : F x = some y) : ∃ b : Bool, P f ds [] = some (D.v (.bool b), []) ∧ HEq y b := by
  have hw := tupW_ok (c := cz P) ht hr
  have harg := argl_v (c' := cz P) hv (by rw [← hl, hw.length]) hw
  obtain ⟨d, Y', r1, r2, r3⟩ := ho [] 0 [] (fun _ => []) [] (cz_ok P) (fun i r ys h => by simp at h) x ds harg y hy
  have hrun : P f ds [] = some (d, []) := by
    have := r3 [] ⟨rfl, Sat.nil [], (fun r h => by cases h), (fun i r h => by simp at h)⟩ (fun i r ys h => by simp at h)
    rw [this]
    cases Y' <;> rfl
  have key : ∀ {xk : List Ty} {z : (oTy .b xk).T}, xk = [] → Rep4 (c0 P) (outW .b xk z).1 d → ∃ b : Bool, d = D.v (.bool b) ∧ HEq z b := by
    intro xk z hx hrep
    subst hx
    obtain rfl := b_d hrep.2
    exact ⟨z, rfl, HEq.rfl⟩
  obtain ⟨b, rfl, hb⟩ := key (xs_v hv) r1
  exact ⟨b, hrun, hb⟩
end Go.Proofs.Ytmbhpchkhilheaa.Ev.U
namespace Go.Proofs.Ytmbhpchkhilheaa.Ev
open Go Go.ChangeShapes Go.WideShapes Go.ChangeAt Go.RowKit
theorem own : ownKnob Try.prog.godebug = none := by kernel_rfl
theorem laidOut : laidOutB Try.prog = true := by kernel_rfl
theorem rtb {g : G} {w : World} {x : Value} {b : Bool} (h : RT g w retL x (.v (.bool b))) : x = .bool b := h
def vT : Value := .agg #[.int .i64 0, .int .u32 0, .int .i64 0, .slice none 0 0, .slice none 0 0, .int .u32 0, .int .i64 0, .int .i64 0, .int .i64 0]
def vS : Value := .agg #[.int .i64 0, .int .i64 0, .int .u32 0, .int .u32 0, .int .u32 0, .int .i64 0, .int .i64 0, .int .i64 0, .int .i64 0, .int .i64 0, .bool false, .slice none 0 0, .slice none 0 0]
namespace U
theorem wf_T {a : Taking} (h : Wf YTaking a) : 0 ≤ a.2.1 ∧ (0 ≤ a.2.2.2.2.2.1 ∧ a.2.2.2.2.2.1 ≤ 4294967295) := by
  have h1 : inK .u32 a.2.1 = true := h.2.1
  have h2 : inK .u32 a.2.2.2.2.2.1 = true := h.2.2.2.2.2.1
  have h1 := of_decide_eq_true h1
  have h2 := of_decide_eq_true h2
  exact ⟨h1.1, h2⟩
theorem wf_S {x : Segment} (h : Wf YSegment x) : 0 ≤ x.2.2.1 := by
  have h1 : inK .u32 x.2.2.1 = true := h.2.2.1
  exact (of_decide_eq_true h1).1
end U
end Go.Proofs.Ytmbhpchkhilheaa.Ev
namespace Go.Proofs.Ytmbhpchkhilheaa.Ev.U
open Go
theorem ef5 {x0 : (YSegment : Ty).T} {x1 : (YTaking : Ty).T} {x2 : (YClaim : Ty).T} {d0 d1 d2 : D} (r0 : RepL (EF pg) (YSegment) [] x0 [d0]) (r1 : RepL (EF pg) (YTaking) [] x1 [d1]) (r2 : RepL (EF pg) (YClaim) [] x2 [d2]) : EF pg 5 [d0, d1, d2] [] = some (.v (.bool true), []) := by
  obtain ⟨r, h1, h2⟩ := ef_b (show TOK (EF pg) 5 (.par ⟨[.v (YSegment), .v (YTaking), .v (YClaim)], .b⟩ (fun x => g5 x.1 x.2.1 x.2.2)) from o5) (by simp) rfl (x := (x0, x1, x2)) (ds := [d0, d1, d2]) rfl ⟨⟨rfl, rfl⟩, _, _, rfl, r0, ⟨⟨rfl, rfl⟩, _, _, rfl, r1, r2⟩⟩ (w5 x0 x1 x2 (wf_T (wf_rep r1)).1 (wf_S (wf_rep r0)))
  obtain rfl := eq_of_heq h2
  exact h1
end Go.Proofs.Ytmbhpchkhilheaa.Ev.U
namespace Go.Proofs.Ytmbhpchkhilheaa
open Go Go.ChangeShapes Go.WideShapes Go.ChangeAt Go.RowKit Go.Proofs.Ytmbhpchkhilheaa.Ev
set_option maxRecDepth 100000 in
theorem lifted5 (os : Os) (started : os.Started) (H : Type) (enc : TypeId × Value → H) :
    ReturnsInHanded {} Try.checked os 5 .any (Rows.receiverBeginsSpec.pre6 enc Try.prog Try.f5 Rows.receiverBeginsRow.domain false) (Rows.receiverBeginsSpec.post enc Try.prog Try.f5 false true false false) := by
  refine returnsInHanded_of_change_sized (C := Try.checked) own started (by kernel_rfl) Try.func5
    (ChangeSpec.witness6 (enc := enc) (C := Try.checked) false ⟨#[], #[vS, vT, .agg #[.int .i64 0, .int .i64 0]], []⟩ 8 (by kernel_rfl) (by kernel_rfl) (by kernel_rfl) (by kernel_rfl)) ?_
  intro W base args ds gs before hval0 hW hcnd hsz0 _
  have hval : ∀ (j : Nat) t v, Try.f5.params[j]? = some t → args[j]? = some v → Value.okWide Try.prog W .any base t v := hval0
  have hW' := hW
  obtain ⟨p, q, hA0, hV, rfl, hfz, hnd⟩ := hW
  have hA : DataW.TrodAll enc Try.prog W 0 (fun _ => true) true Try.f5.params.toList args.toList ds p := hA0
  rw [Try.params5] at hA hval
  obtain ⟨v0, vs0, d0, ds0, p0, q0, hargs, rfl, rfl, h0, r0⟩ := trodAll_cons hA
  obtain ⟨v1, vs1, d1, ds1, p1, q1, rfl, rfl, rfl, h1, r1⟩ := trodAll_cons r0
  obtain ⟨v2, vs2, d2, ds2, p2, q2, rfl, rfl, rfl, h2, r2⟩ := trodAll_cons r1
  obtain ⟨rfl, rfl, rfl⟩ := trodAll_nil r2
  obtain rfl : args = #[v0, v1, v2] := by cases args; simp_all
  obtain ⟨rfl, rfl⟩ := trodVars_none hV
  have lt0 : ∀ x ∈ p0, x.block < W.heap.size := by obtain ⟨m, hm⟩ := h0; exact DataW.trod_lt m _ _ _ hm
  have lt1 : ∀ x ∈ p1, x.block < W.heap.size := by obtain ⟨m, hm⟩ := h1; exact DataW.trod_lt m _ _ _ hm
  have lt2 : ∀ x ∈ p2, x.block < W.heap.size := by obtain ⟨m, hm⟩ := h2; exact DataW.trod_lt m _ _ _ hm
  obtain ⟨c0, g0, k0⟩ := open_arg (k := 8) (fun _ => rfl) (by kernel_rfl) (hval 0 30 v0 rfl rfl) h0
  obtain ⟨c1, g1, k1⟩ := open_arg (k := 8) (fun _ => rfl) (by kernel_rfl) (hval 1 26 v1 rfl rfl) h1
  obtain ⟨c2, g2, k2⟩ := open_arg (k := 8) (fun _ => rfl) (by kernel_rfl) (hval 2 49 v2 rfl rfl) h2
  obtain ⟨x0, e0⟩ := U.arg_u (P := EF U.pg) 8 (U.YSegment) (by kernel_rfl) g0
  obtain ⟨x1, e1⟩ := U.arg_u (P := EF U.pg) 8 (U.YTaking) (by kernel_rfl) g1
  obtain ⟨x2, e2⟩ := U.arg_u (P := EF U.pg) 8 (U.YClaim) (by kernel_rfl) g2
  clear hA0 hval0 hsz0
  refine (run0 U.pg_ok (f := 5) (by decide) (U.ef5 e0 e1 e2) (W := W) (vs := #[v0, v1, v2]) rfl (fun i d hi => ?_)).mono fun e W' ⟨x, g', he, hr, bel⟩ => ?_
  · match i with
    | 0 => simp at hi; subst hi; exact ⟨v0, rfl, k0⟩
    | 1 => simp at hi; subst hi; exact ⟨v1, rfl, k1⟩
    | 2 => simp at hi; subst hi; exact ⟨v2, rfl, k2⟩
    | i + 3 => simp at hi
  · obtain rfl := rtb hr
    subst he
    exact ⟨_, rfl, _, _, _, [], _, [], hW', trodAll_mk1 (shut_bool Try.underlying4 _), trodAll_cons_mk (Below.trod laidOut (by kernel_rfl) (of_decide_eq_true (by kernel_rfl)) h0 bel lt0) (trodAll_cons_mk (Below.trod laidOut (by kernel_rfl) (of_decide_eq_true (by kernel_rfl)) h1 bel lt1) (trodAll_cons_mk (Below.trod laidOut (by kernel_rfl) (of_decide_eq_true (by kernel_rfl)) h2 bel lt2) trodAll_mk0)), rfl, bel.frame _, fun h => by cases h⟩
/-- The law ReceiverBegins holds for every input. -/
theorem receiverBegins_holds : Rows.ReceiverBeginsSaid :=
  OpenClaim.holds_of_wide 5 Try.f5 rfl rfl rfl rfl rfl rfl rfl ⟨rfl, rfl, rfl, rfl, rfl⟩ rfl rfl rfl rfl rfl (by kernel_rfl) Try.func5 (by kernel_rfl)
    (of_decide_eq_true (by kernel_rfl)) (by unfold Func.isWrapper; first | (rw [if_pos (by decide +kernel)]; kernel_rfl) | (rw [if_neg (by decide +kernel)]; exact ⟨rfl, rfl⟩))
    (fun os started H enc _ => lifted5 os started H enc)
#print axioms receiverBegins_holds
end Go.Proofs.Ytmbhpchkhilheaa
