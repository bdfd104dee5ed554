/- The functions as plain ones. Conditions: none. -/
import Derived.Test.YtiglckehhfbliaaFt14
set_option linter.all false
namespace Go.Proofs.Ytiglckehhfbliaa.Ev.U
open Go
noncomputable def tf67 : TF := .gen YClaim gpR gapH
theorem o67 : TOK (EF pg) 67 tf67 := tok_list (gok_gaps p67)
noncomputable def g39 (a0 : Sending) : Option Sending := some a0
noncomputable def tf39 : TF := .par ⟨[.v YSending], .cl 67 gpR⟩ (fun x => g39 x)
theorem o39 : TOK (EF pg) 39 tf39 := tok_clo p39 (by decide) rfl rfl rfl
/-- heliograph/heliographref14.Copy -/
noncomputable def g19 (a0 : Sending) : Option (Int × Int × (List Int) × Int × Int × Int × (List Claim) × Int × Int × Int × Int × Int × Int × Int × Int × Int × Int × Bool × (List Int) × (List Claim) × Int × Int × (List Int) × Int) :=
(apd 1 [] a0.2.2.1).bind fun y1 =>
(apd 16 [] a0.2.2.2.2.2.2.1).bind fun y2 =>
(apd 4 [] a0.2.2.2.2.2.2.2.2.2.2.2.2.2.2.2.2.2.2.2.2.2.2.1).bind fun y3 =>
(apd 1 [] a0.2.2.2.2.2.2.2.2.2.2.2.2.2.2.2.2.2.2.1).bind fun y4 =>
(apd 16 [] a0.2.2.2.2.2.2.2.2.2.2.2.2.2.2.2.2.2.2.2.1).bind fun y5 =>
some (a0.1, a0.2.1, y1, a0.2.2.2.1, a0.2.2.2.2.1, a0.2.2.2.2.2.1, y2, a0.2.2.2.2.2.2.2.1, a0.2.2.2.2.2.2.2.2.1, a0.2.2.2.2.2.2.2.2.2.1, a0.2.2.2.2.2.2.2.2.2.2.1, a0.2.2.2.2.2.2.2.2.2.2.2.1, a0.2.2.2.2.2.2.2.2.2.2.2.2.1, a0.2.2.2.2.2.2.2.2.2.2.2.2.2.1, a0.2.2.2.2.2.2.2.2.2.2.2.2.2.2.1, a0.2.2.2.2.2.2.2.2.2.2.2.2.2.2.2.1, a0.2.2.2.2.2.2.2.2.2.2.2.2.2.2.2.2.1, a0.2.2.2.2.2.2.2.2.2.2.2.2.2.2.2.2.2.1, y4, y5, a0.2.2.2.2.2.2.2.2.2.2.2.2.2.2.2.2.2.2.2.2.1, a0.2.2.2.2.2.2.2.2.2.2.2.2.2.2.2.2.2.2.2.2.2.1, y3, a0.2.2.2.2.2.2.2.2.2.2.2.2.2.2.2.2.2.2.2.2.2.2.2)
noncomputable def tf19 : TF := .par ⟨[.v YSending], (.g (.p (.i .i64) (.p (.i .u32) (.p (.l .app (.i .u8)) (.p (.i .i64) (.p (.i .i64) (.p (.i .i64) (.p (.l .app YClaim) (.p (.i .i64) (.p (.i .i64) (.p (.i .u32) (.p (.i .u32) (.p (.i .u32) (.p (.i .i64) (.p (.i .i64) (.p (.i .i64) (.p (.i .i64) (.p (.i .i64) (.p .b (.p (.l .app (.i .u8)) (.p (.l .app YClaim) (.p (.i .i64) (.p (.i .i64) (.p (.l .app (.i .u32)) (.i .i64)))))))))))))))))))))))))⟩ (fun x => g19 x)
theorem e19 : evFn (tabU []) ⟨F19.res, F19.keep, tf19.sg⟩ T19 = fun x => g19 x := by kernel_rfl
theorem o19 : TOK (EF pg) 19 tf19 := tok_of p19 rfl (tabU_nil) ⟨rfl, rfl, by decide⟩ rfl (rndOk_of rfl) trivial fun x y h => (congrFun e19 x).trans h
/-- heliograph/heliographlaw14.short -/
noncomputable def g17 (a0 : Sending) : Option Sending :=
let x1 := (a0.2.2.1.length : Int)
(cut a0.2.2.1 0 (if (600 : Int) < x1 then (600 : Int) else x1)).bind fun y3 =>
let x4 := (a0.2.2.2.2.2.2.1.length : Int)
(cut a0.2.2.2.2.2.2.1 0 (if (300 : Int) < x4 then (300 : Int) else x4)).bind fun y6 =>
let x7 := (a0.2.2.2.2.2.2.2.2.2.2.2.2.2.2.2.2.2.2.2.2.2.2.1.length : Int)
(cut a0.2.2.2.2.2.2.2.2.2.2.2.2.2.2.2.2.2.2.2.2.2.2.1 0 (if (40 : Int) < x7 then (40 : Int) else x7)).bind fun y9 =>
let x10 := (a0.2.2.2.2.2.2.2.2.2.2.2.2.2.2.2.2.2.2.1.length : Int)
(cut a0.2.2.2.2.2.2.2.2.2.2.2.2.2.2.2.2.2.2.1 0 (if (200 : Int) < x10 then (200 : Int) else x10)).bind fun y12 =>
let x13 := (a0.2.2.2.2.2.2.2.2.2.2.2.2.2.2.2.2.2.2.2.1.length : Int)
(cut a0.2.2.2.2.2.2.2.2.2.2.2.2.2.2.2.2.2.2.2.1 0 (if (30 : Int) < x13 then (30 : Int) else x13)).bind fun y15 =>
(g19 (a0.1, a0.2.1, y3, a0.2.2.2.1, a0.2.2.2.2.1, a0.2.2.2.2.2.1, y6, a0.2.2.2.2.2.2.2.1, a0.2.2.2.2.2.2.2.2.1, a0.2.2.2.2.2.2.2.2.2.1, a0.2.2.2.2.2.2.2.2.2.2.1, a0.2.2.2.2.2.2.2.2.2.2.2.1, a0.2.2.2.2.2.2.2.2.2.2.2.2.1, a0.2.2.2.2.2.2.2.2.2.2.2.2.2.1, a0.2.2.2.2.2.2.2.2.2.2.2.2.2.2.1, a0.2.2.2.2.2.2.2.2.2.2.2.2.2.2.2.1, a0.2.2.2.2.2.2.2.2.2.2.2.2.2.2.2.2.1, a0.2.2.2.2.2.2.2.2.2.2.2.2.2.2.2.2.2.1, y12, y15, a0.2.2.2.2.2.2.2.2.2.2.2.2.2.2.2.2.2.2.2.2.1, a0.2.2.2.2.2.2.2.2.2.2.2.2.2.2.2.2.2.2.2.2.2.1, y9, a0.2.2.2.2.2.2.2.2.2.2.2.2.2.2.2.2.2.2.2.2.2.2.2)).bind fun y16 =>
some y16
noncomputable def tf17 : TF := .par ⟨[.v YSending], YSending⟩ (fun x => g17 x)
theorem e17 : evFn (tabU [(19, tf19)]) ⟨F17.res, F17.keep, tf17.sg⟩ T17 = fun x => g17 x := by kernel_rfl
theorem o17 : TOK (EF pg) 17 tf17 := tok_of p17 rfl (tabU_cons o19 (tabU_nil)) ⟨rfl, rfl, by decide⟩ rfl (rndOk_of rfl) trivial fun x y h => (congrFun e17 x).trans h
/-- heliograph/heliographref10.Same -/
noncomputable def g22x0 (s : Int × Int × Int × Int × Int × Int × Int × Int × Int × Int × Int × Int × Bool × (List Int) × (List Claim) × Int × Int × Int × Int × Int × Int × Int × Int × Int × Int × Bool × (List Int) × List Claim) : Option ((Int × Int × Int × Int × Int × Int × Int × Int × Int × Int × Int × Int × Bool × (List Int) × (List Claim) × Int × Int × Int × Int × Int × Int × Int × Int × Int × Int × Bool × (List Int) × List Claim) ⊕ ((Int × Int × Int × Int × Int × Int × Int × Int × Int × Int × Bool × (List Int) × (List Claim) × Int × Int × Int × Int × Int × Int × Int × Int × Int × Int × Bool × (List Int) × List Claim) ⊕ Bool)) :=
if (decide (s.2.1 < s.1)) then
((idx s.2.2.2.2.2.2.2.2.2.2.2.2.2.2.1 s.2.1).bind fun y6 =>
(idx s.2.2.2.2.2.2.2.2.2.2.2.2.2.2.2.2.2.2.2.2.2.2.2.2.2.2.2 s.2.1).bind fun y7 =>
if (!((y6.1 == y7.1) && ((y6.2 == y7.2) && (true)))) then
(some (Sum.inr (Sum.inr (false))))
else
(
some (Sum.inl (s.1, (IntKind.i64.wrap (s.2.1 + (1 : Int))), s.2.2.1, s.2.2.2.1, s.2.2.2.2.1, s.2.2.2.2.2.1, s.2.2.2.2.2.2.1, s.2.2.2.2.2.2.2.1, s.2.2.2.2.2.2.2.2.1, s.2.2.2.2.2.2.2.2.2.1, s.2.2.2.2.2.2.2.2.2.2.1, s.2.2.2.2.2.2.2.2.2.2.2.1, s.2.2.2.2.2.2.2.2.2.2.2.2.1, s.2.2.2.2.2.2.2.2.2.2.2.2.2.1, s.2.2.2.2.2.2.2.2.2.2.2.2.2.2.1, s.2.2.2.2.2.2.2.2.2.2.2.2.2.2.2.1, s.2.2.2.2.2.2.2.2.2.2.2.2.2.2.2.2.1, s.2.2.2.2.2.2.2.2.2.2.2.2.2.2.2.2.2.1, s.2.2.2.2.2.2.2.2.2.2.2.2.2.2.2.2.2.2.1, s.2.2.2.2.2.2.2.2.2.2.2.2.2.2.2.2.2.2.2.1, s.2.2.2.2.2.2.2.2.2.2.2.2.2.2.2.2.2.2.2.2.1, s.2.2.2.2.2.2.2.2.2.2.2.2.2.2.2.2.2.2.2.2.2.1, s.2.2.2.2.2.2.2.2.2.2.2.2.2.2.2.2.2.2.2.2.2.2.1, s.2.2.2.2.2.2.2.2.2.2.2.2.2.2.2.2.2.2.2.2.2.2.2.1, s.2.2.2.2.2.2.2.2.2.2.2.2.2.2.2.2.2.2.2.2.2.2.2.2.1, s.2.2.2.2.2.2.2.2.2.2.2.2.2.2.2.2.2.2.2.2.2.2.2.2.2.1, s.2.2.2.2.2.2.2.2.2.2.2.2.2.2.2.2.2.2.2.2.2.2.2.2.2.2.1, s.2.2.2.2.2.2.2.2.2.2.2.2.2.2.2.2.2.2.2.2.2.2.2.2.2.2.2))))
else
(some (Sum.inr (Sum.inl (s.2.2.1, s.2.2.2.1, s.2.2.2.2.1, s.2.2.2.2.2.1, s.2.2.2.2.2.2.1, s.2.2.2.2.2.2.2.1, s.2.2.2.2.2.2.2.2.1, s.2.2.2.2.2.2.2.2.2.1, s.2.2.2.2.2.2.2.2.2.2.1, s.2.2.2.2.2.2.2.2.2.2.2.1, s.2.2.2.2.2.2.2.2.2.2.2.2.1, s.2.2.2.2.2.2.2.2.2.2.2.2.2.1, s.2.2.2.2.2.2.2.2.2.2.2.2.2.2.1, s.2.2.2.2.2.2.2.2.2.2.2.2.2.2.2.1, s.2.2.2.2.2.2.2.2.2.2.2.2.2.2.2.2.1, s.2.2.2.2.2.2.2.2.2.2.2.2.2.2.2.2.2.1, s.2.2.2.2.2.2.2.2.2.2.2.2.2.2.2.2.2.2.1, s.2.2.2.2.2.2.2.2.2.2.2.2.2.2.2.2.2.2.2.1, s.2.2.2.2.2.2.2.2.2.2.2.2.2.2.2.2.2.2.2.2.1, s.2.2.2.2.2.2.2.2.2.2.2.2.2.2.2.2.2.2.2.2.2.1, s.2.2.2.2.2.2.2.2.2.2.2.2.2.2.2.2.2.2.2.2.2.2.1, s.2.2.2.2.2.2.2.2.2.2.2.2.2.2.2.2.2.2.2.2.2.2.2.1, s.2.2.2.2.2.2.2.2.2.2.2.2.2.2.2.2.2.2.2.2.2.2.2.2.1, s.2.2.2.2.2.2.2.2.2.2.2.2.2.2.2.2.2.2.2.2.2.2.2.2.2.1, s.2.2.2.2.2.2.2.2.2.2.2.2.2.2.2.2.2.2.2.2.2.2.2.2.2.2.1, s.2.2.2.2.2.2.2.2.2.2.2.2.2.2.2.2.2.2.2.2.2.2.2.2.2.2.2))))
noncomputable def g22 (a0 : Segment) (a1 : Segment) : Option Bool :=
if ((a0.2.2.2.2.2.2.2.2.2.2.2.2.length : Int) != (a1.2.2.2.2.2.2.2.2.2.2.2.2.length : Int)) then
(some false)
else
(
(lpU g22x0 ((a0.2.2.2.2.2.2.2.2.2.2.2.2.length : Int), (0 : Int), a0.1, a0.2.1, a0.2.2.1, a0.2.2.2.1, a0.2.2.2.2.1, a0.2.2.2.2.2.1, a0.2.2.2.2.2.2.1, a0.2.2.2.2.2.2.2.1, a0.2.2.2.2.2.2.2.2.1, a0.2.2.2.2.2.2.2.2.2.1, a0.2.2.2.2.2.2.2.2.2.2.1, a0.2.2.2.2.2.2.2.2.2.2.2.1, a0.2.2.2.2.2.2.2.2.2.2.2.2, a1.1, a1.2.1, a1.2.2.1, a1.2.2.2.1, a1.2.2.2.2.1, a1.2.2.2.2.2.1, a1.2.2.2.2.2.2.1, a1.2.2.2.2.2.2.2.1, a1.2.2.2.2.2.2.2.2.1, a1.2.2.2.2.2.2.2.2.2.1, a1.2.2.2.2.2.2.2.2.2.2.1, a1.2.2.2.2.2.2.2.2.2.2.2.1, a1.2.2.2.2.2.2.2.2.2.2.2.2)).bind fun z10 =>
match z10 with
| Sum.inl z11 => (let x13 := z11.1 == z11.2.2.2.2.2.2.2.2.2.2.2.2.2.1
some (if (if (if (if (if (if (if (if (if (if (if x13 then (z11.2.1 == z11.2.2.2.2.2.2.2.2.2.2.2.2.2.2.1) else false) then (z11.2.2.1 == z11.2.2.2.2.2.2.2.2.2.2.2.2.2.2.2.1) else false) then (z11.2.2.2.1 == z11.2.2.2.2.2.2.2.2.2.2.2.2.2.2.2.2.1) else false) then (z11.2.2.2.2.1 == z11.2.2.2.2.2.2.2.2.2.2.2.2.2.2.2.2.2.1) else false) then (z11.2.2.2.2.2.1 == z11.2.2.2.2.2.2.2.2.2.2.2.2.2.2.2.2.2.2.1) else false) then (z11.2.2.2.2.2.2.1 == z11.2.2.2.2.2.2.2.2.2.2.2.2.2.2.2.2.2.2.2.1) else false) then (z11.2.2.2.2.2.2.2.1 == z11.2.2.2.2.2.2.2.2.2.2.2.2.2.2.2.2.2.2.2.2.1) else false) then (z11.2.2.2.2.2.2.2.2.1 == z11.2.2.2.2.2.2.2.2.2.2.2.2.2.2.2.2.2.2.2.2.2.1) else false) then (z11.2.2.2.2.2.2.2.2.2.1 == z11.2.2.2.2.2.2.2.2.2.2.2.2.2.2.2.2.2.2.2.2.2.2.1) else false) then ((z11.2.2.2.2.2.2.2.2.2.2.1 == z11.2.2.2.2.2.2.2.2.2.2.2.2.2.2.2.2.2.2.2.2.2.2.2.1) != false) else false) then (decide (z11.2.2.2.2.2.2.2.2.2.2.2.1 = z11.2.2.2.2.2.2.2.2.2.2.2.2.2.2.2.2.2.2.2.2.2.2.2.2.1)) else false))
| Sum.inr z12 => (some z12))
noncomputable def tf22 : TF := .par ⟨[.v YSegment, .v YSegment], .b⟩ (fun x => g22 x.1 x.2)
theorem e22 : evFn (tabU []) ⟨F22.res, F22.keep, tf22.sg⟩ T22 = fun x => g22 x.1 x.2 := by kernel_rfl
theorem o22 : TOK (EF pg) 22 tf22 := tok_of p22 rfl (tabU_nil) ⟨rfl, rfl, by decide⟩ rfl (rndOk_of rfl) trivial fun x y h => (congrFun e22 x).trans h
/-- heliograph/heliographref14.Same -/
noncomputable def g13x0 (s : Int × Int × Int × Int × (List Int) × Int × Int × Int × (List Claim) × Int × Int × Int × Int × Int × Int × Int × Int × Int × Int × Bool × (List Int) × (List Claim) × Int × Int × (List Int) × Int × Int × Int × (List Int) × Int × Int × Int × (List Claim) × Int × Int × Int × Int × Int × Int × Int × Int × Int × Int × Bool × (List Int) × (List Claim) × Int × Int × (List Int) × Int) : Option ((Int × Int × Int × Int × (List Int) × Int × Int × Int × (List Claim) × Int × Int × Int × Int × Int × Int × Int × Int × Int × Int × Bool × (List Int) × (List Claim) × Int × Int × (List Int) × Int × Int × Int × (List Int) × Int × Int × Int × (List Claim) × Int × Int × Int × Int × Int × Int × Int × Int × Int × Int × Bool × (List Int) × (List Claim) × Int × Int × (List Int) × Int) ⊕ ((Int × Int × (List Int) × Int × Int × Int × (List Claim) × Int × Int × Int × Int × Int × Int × Int × Int × Int × Int × Bool × (List Int) × (List Claim) × Int × Int × (List Int) × Int × Int × Int × (List Int) × Int × Int × Int × (List Claim) × Int × Int × Int × Int × Int × Int × Int × Int × Int × Int × Bool × (List Int) × (List Claim) × Int × Int × (List Int) × Int) ⊕ Bool)) :=
if (decide (s.2.1 < s.1)) then
((idx s.2.2.2.2.2.2.2.2.1 s.2.1).bind fun y31 =>
(idx s.2.2.2.2.2.2.2.2.2.2.2.2.2.2.2.2.2.2.2.2.2.2.2.2.2.2.2.2.2.2.2.2.1 s.2.1).bind fun y32 =>
if (!((y31.1 == y32.1) && ((y31.2 == y32.2) && (true)))) then
(some (Sum.inr (Sum.inr (false))))
else
(
some (Sum.inl (s.1, (IntKind.i64.wrap (s.2.1 + (1 : Int))), s.2.2.1, s.2.2.2.1, s.2.2.2.2.1, s.2.2.2.2.2.1, s.2.2.2.2.2.2.1, s.2.2.2.2.2.2.2.1, s.2.2.2.2.2.2.2.2.1, s.2.2.2.2.2.2.2.2.2.1, s.2.2.2.2.2.2.2.2.2.2.1, s.2.2.2.2.2.2.2.2.2.2.2.1, s.2.2.2.2.2.2.2.2.2.2.2.2.1, s.2.2.2.2.2.2.2.2.2.2.2.2.2.1, s.2.2.2.2.2.2.2.2.2.2.2.2.2.2.1, s.2.2.2.2.2.2.2.2.2.2.2.2.2.2.2.1, s.2.2.2.2.2.2.2.2.2.2.2.2.2.2.2.2.1, s.2.2.2.2.2.2.2.2.2.2.2.2.2.2.2.2.2.1, s.2.2.2.2.2.2.2.2.2.2.2.2.2.2.2.2.2.2.1, s.2.2.2.2.2.2.2.2.2.2.2.2.2.2.2.2.2.2.2.1, s.2.2.2.2.2.2.2.2.2.2.2.2.2.2.2.2.2.2.2.2.1, s.2.2.2.2.2.2.2.2.2.2.2.2.2.2.2.2.2.2.2.2.2.1, s.2.2.2.2.2.2.2.2.2.2.2.2.2.2.2.2.2.2.2.2.2.2.1, s.2.2.2.2.2.2.2.2.2.2.2.2.2.2.2.2.2.2.2.2.2.2.2.1, s.2.2.2.2.2.2.2.2.2.2.2.2.2.2.2.2.2.2.2.2.2.2.2.2.1, s.2.2.2.2.2.2.2.2.2.2.2.2.2.2.2.2.2.2.2.2.2.2.2.2.2.1, s.2.2.2.2.2.2.2.2.2.2.2.2.2.2.2.2.2.2.2.2.2.2.2.2.2.2.1, s.2.2.2.2.2.2.2.2.2.2.2.2.2.2.2.2.2.2.2.2.2.2.2.2.2.2.2.1, s.2.2.2.2.2.2.2.2.2.2.2.2.2.2.2.2.2.2.2.2.2.2.2.2.2.2.2.2.1, s.2.2.2.2.2.2.2.2.2.2.2.2.2.2.2.2.2.2.2.2.2.2.2.2.2.2.2.2.2.1, s.2.2.2.2.2.2.2.2.2.2.2.2.2.2.2.2.2.2.2.2.2.2.2.2.2.2.2.2.2.2.1, s.2.2.2.2.2.2.2.2.2.2.2.2.2.2.2.2.2.2.2.2.2.2.2.2.2.2.2.2.2.2.2.1, s.2.2.2.2.2.2.2.2.2.2.2.2.2.2.2.2.2.2.2.2.2.2.2.2.2.2.2.2.2.2.2.2.1, s.2.2.2.2.2.2.2.2.2.2.2.2.2.2.2.2.2.2.2.2.2.2.2.2.2.2.2.2.2.2.2.2.2.1, s.2.2.2.2.2.2.2.2.2.2.2.2.2.2.2.2.2.2.2.2.2.2.2.2.2.2.2.2.2.2.2.2.2.2.1, s.2.2.2.2.2.2.2.2.2.2.2.2.2.2.2.2.2.2.2.2.2.2.2.2.2.2.2.2.2.2.2.2.2.2.2.1, s.2.2.2.2.2.2.2.2.2.2.2.2.2.2.2.2.2.2.2.2.2.2.2.2.2.2.2.2.2.2.2.2.2.2.2.2.1, s.2.2.2.2.2.2.2.2.2.2.2.2.2.2.2.2.2.2.2.2.2.2.2.2.2.2.2.2.2.2.2.2.2.2.2.2.2.1, s.2.2.2.2.2.2.2.2.2.2.2.2.2.2.2.2.2.2.2.2.2.2.2.2.2.2.2.2.2.2.2.2.2.2.2.2.2.2.1, s.2.2.2.2.2.2.2.2.2.2.2.2.2.2.2.2.2.2.2.2.2.2.2.2.2.2.2.2.2.2.2.2.2.2.2.2.2.2.2.1, s.2.2.2.2.2.2.2.2.2.2.2.2.2.2.2.2.2.2.2.2.2.2.2.2.2.2.2.2.2.2.2.2.2.2.2.2.2.2.2.2.1, s.2.2.2.2.2.2.2.2.2.2.2.2.2.2.2.2.2.2.2.2.2.2.2.2.2.2.2.2.2.2.2.2.2.2.2.2.2.2.2.2.2.1, s.2.2.2.2.2.2.2.2.2.2.2.2.2.2.2.2.2.2.2.2.2.2.2.2.2.2.2.2.2.2.2.2.2.2.2.2.2.2.2.2.2.2.1, s.2.2.2.2.2.2.2.2.2.2.2.2.2.2.2.2.2.2.2.2.2.2.2.2.2.2.2.2.2.2.2.2.2.2.2.2.2.2.2.2.2.2.2.1, s.2.2.2.2.2.2.2.2.2.2.2.2.2.2.2.2.2.2.2.2.2.2.2.2.2.2.2.2.2.2.2.2.2.2.2.2.2.2.2.2.2.2.2.2.1, s.2.2.2.2.2.2.2.2.2.2.2.2.2.2.2.2.2.2.2.2.2.2.2.2.2.2.2.2.2.2.2.2.2.2.2.2.2.2.2.2.2.2.2.2.2.1, s.2.2.2.2.2.2.2.2.2.2.2.2.2.2.2.2.2.2.2.2.2.2.2.2.2.2.2.2.2.2.2.2.2.2.2.2.2.2.2.2.2.2.2.2.2.2.1, s.2.2.2.2.2.2.2.2.2.2.2.2.2.2.2.2.2.2.2.2.2.2.2.2.2.2.2.2.2.2.2.2.2.2.2.2.2.2.2.2.2.2.2.2.2.2.2.1, s.2.2.2.2.2.2.2.2.2.2.2.2.2.2.2.2.2.2.2.2.2.2.2.2.2.2.2.2.2.2.2.2.2.2.2.2.2.2.2.2.2.2.2.2.2.2.2.2.1, s.2.2.2.2.2.2.2.2.2.2.2.2.2.2.2.2.2.2.2.2.2.2.2.2.2.2.2.2.2.2.2.2.2.2.2.2.2.2.2.2.2.2.2.2.2.2.2.2.2))))
else
(some (Sum.inr (Sum.inl (s.2.2.1, s.2.2.2.1, s.2.2.2.2.1, s.2.2.2.2.2.1, s.2.2.2.2.2.2.1, s.2.2.2.2.2.2.2.1, s.2.2.2.2.2.2.2.2.1, s.2.2.2.2.2.2.2.2.2.1, s.2.2.2.2.2.2.2.2.2.2.1, s.2.2.2.2.2.2.2.2.2.2.2.1, s.2.2.2.2.2.2.2.2.2.2.2.2.1, s.2.2.2.2.2.2.2.2.2.2.2.2.2.1, s.2.2.2.2.2.2.2.2.2.2.2.2.2.2.1, s.2.2.2.2.2.2.2.2.2.2.2.2.2.2.2.1, s.2.2.2.2.2.2.2.2.2.2.2.2.2.2.2.2.1, s.2.2.2.2.2.2.2.2.2.2.2.2.2.2.2.2.2.1, s.2.2.2.2.2.2.2.2.2.2.2.2.2.2.2.2.2.2.1, s.2.2.2.2.2.2.2.2.2.2.2.2.2.2.2.2.2.2.2.1, s.2.2.2.2.2.2.2.2.2.2.2.2.2.2.2.2.2.2.2.2.1, s.2.2.2.2.2.2.2.2.2.2.2.2.2.2.2.2.2.2.2.2.2.1, s.2.2.2.2.2.2.2.2.2.2.2.2.2.2.2.2.2.2.2.2.2.2.1, s.2.2.2.2.2.2.2.2.2.2.2.2.2.2.2.2.2.2.2.2.2.2.2.1, s.2.2.2.2.2.2.2.2.2.2.2.2.2.2.2.2.2.2.2.2.2.2.2.2.1, s.2.2.2.2.2.2.2.2.2.2.2.2.2.2.2.2.2.2.2.2.2.2.2.2.2.1, s.2.2.2.2.2.2.2.2.2.2.2.2.2.2.2.2.2.2.2.2.2.2.2.2.2.2.1, s.2.2.2.2.2.2.2.2.2.2.2.2.2.2.2.2.2.2.2.2.2.2.2.2.2.2.2.1, s.2.2.2.2.2.2.2.2.2.2.2.2.2.2.2.2.2.2.2.2.2.2.2.2.2.2.2.2.1, s.2.2.2.2.2.2.2.2.2.2.2.2.2.2.2.2.2.2.2.2.2.2.2.2.2.2.2.2.2.1, s.2.2.2.2.2.2.2.2.2.2.2.2.2.2.2.2.2.2.2.2.2.2.2.2.2.2.2.2.2.2.1, s.2.2.2.2.2.2.2.2.2.2.2.2.2.2.2.2.2.2.2.2.2.2.2.2.2.2.2.2.2.2.2.1, s.2.2.2.2.2.2.2.2.2.2.2.2.2.2.2.2.2.2.2.2.2.2.2.2.2.2.2.2.2.2.2.2.1, s.2.2.2.2.2.2.2.2.2.2.2.2.2.2.2.2.2.2.2.2.2.2.2.2.2.2.2.2.2.2.2.2.2.1, s.2.2.2.2.2.2.2.2.2.2.2.2.2.2.2.2.2.2.2.2.2.2.2.2.2.2.2.2.2.2.2.2.2.2.1, s.2.2.2.2.2.2.2.2.2.2.2.2.2.2.2.2.2.2.2.2.2.2.2.2.2.2.2.2.2.2.2.2.2.2.2.1, s.2.2.2.2.2.2.2.2.2.2.2.2.2.2.2.2.2.2.2.2.2.2.2.2.2.2.2.2.2.2.2.2.2.2.2.2.1, s.2.2.2.2.2.2.2.2.2.2.2.2.2.2.2.2.2.2.2.2.2.2.2.2.2.2.2.2.2.2.2.2.2.2.2.2.2.1, s.2.2.2.2.2.2.2.2.2.2.2.2.2.2.2.2.2.2.2.2.2.2.2.2.2.2.2.2.2.2.2.2.2.2.2.2.2.2.1, s.2.2.2.2.2.2.2.2.2.2.2.2.2.2.2.2.2.2.2.2.2.2.2.2.2.2.2.2.2.2.2.2.2.2.2.2.2.2.2.1, s.2.2.2.2.2.2.2.2.2.2.2.2.2.2.2.2.2.2.2.2.2.2.2.2.2.2.2.2.2.2.2.2.2.2.2.2.2.2.2.2.1, s.2.2.2.2.2.2.2.2.2.2.2.2.2.2.2.2.2.2.2.2.2.2.2.2.2.2.2.2.2.2.2.2.2.2.2.2.2.2.2.2.2.1, s.2.2.2.2.2.2.2.2.2.2.2.2.2.2.2.2.2.2.2.2.2.2.2.2.2.2.2.2.2.2.2.2.2.2.2.2.2.2.2.2.2.2.1, s.2.2.2.2.2.2.2.2.2.2.2.2.2.2.2.2.2.2.2.2.2.2.2.2.2.2.2.2.2.2.2.2.2.2.2.2.2.2.2.2.2.2.2.1, s.2.2.2.2.2.2.2.2.2.2.2.2.2.2.2.2.2.2.2.2.2.2.2.2.2.2.2.2.2.2.2.2.2.2.2.2.2.2.2.2.2.2.2.2.1, s.2.2.2.2.2.2.2.2.2.2.2.2.2.2.2.2.2.2.2.2.2.2.2.2.2.2.2.2.2.2.2.2.2.2.2.2.2.2.2.2.2.2.2.2.2.1, s.2.2.2.2.2.2.2.2.2.2.2.2.2.2.2.2.2.2.2.2.2.2.2.2.2.2.2.2.2.2.2.2.2.2.2.2.2.2.2.2.2.2.2.2.2.2.1, s.2.2.2.2.2.2.2.2.2.2.2.2.2.2.2.2.2.2.2.2.2.2.2.2.2.2.2.2.2.2.2.2.2.2.2.2.2.2.2.2.2.2.2.2.2.2.2.1, s.2.2.2.2.2.2.2.2.2.2.2.2.2.2.2.2.2.2.2.2.2.2.2.2.2.2.2.2.2.2.2.2.2.2.2.2.2.2.2.2.2.2.2.2.2.2.2.2.1, s.2.2.2.2.2.2.2.2.2.2.2.2.2.2.2.2.2.2.2.2.2.2.2.2.2.2.2.2.2.2.2.2.2.2.2.2.2.2.2.2.2.2.2.2.2.2.2.2.2))))
noncomputable def g13x1 (s : Int × Int × Int × Int × (List Int) × Int × Int × Int × (List Claim) × Int × Int × Int × Int × Int × Int × Int × Int × Int × Int × Bool × (List Int) × (List Claim) × Int × Int × (List Int) × Int × Int × Int × (List Int) × Int × Int × Int × (List Claim) × Int × Int × Int × Int × Int × Int × Int × Int × Int × Int × Bool × (List Int) × (List Claim) × Int × Int × (List Int) × Int) : Option ((Int × Int × Int × Int × (List Int) × Int × Int × Int × (List Claim) × Int × Int × Int × Int × Int × Int × Int × Int × Int × Int × Bool × (List Int) × (List Claim) × Int × Int × (List Int) × Int × Int × Int × (List Int) × Int × Int × Int × (List Claim) × Int × Int × Int × Int × Int × Int × Int × Int × Int × Int × Bool × (List Int) × (List Claim) × Int × Int × (List Int) × Int) ⊕ (Unit ⊕ Bool)) :=
if (decide (s.2.1 < s.1)) then
((idx s.2.2.2.2.2.2.2.2.2.2.2.2.2.2.2.2.2.2.2.2.2.2.2.2.1 s.2.1).bind fun y40 =>
(idx s.2.2.2.2.2.2.2.2.2.2.2.2.2.2.2.2.2.2.2.2.2.2.2.2.2.2.2.2.2.2.2.2.2.2.2.2.2.2.2.2.2.2.2.2.2.2.2.2.1 s.2.1).bind fun y41 =>
if (y40 != y41) then
(some (Sum.inr (Sum.inr (false))))
else
(
some (Sum.inl (s.1, (IntKind.i64.wrap (s.2.1 + (1 : Int))), s.2.2.1, s.2.2.2.1, s.2.2.2.2.1, s.2.2.2.2.2.1, s.2.2.2.2.2.2.1, s.2.2.2.2.2.2.2.1, s.2.2.2.2.2.2.2.2.1, s.2.2.2.2.2.2.2.2.2.1, s.2.2.2.2.2.2.2.2.2.2.1, s.2.2.2.2.2.2.2.2.2.2.2.1, s.2.2.2.2.2.2.2.2.2.2.2.2.1, s.2.2.2.2.2.2.2.2.2.2.2.2.2.1, s.2.2.2.2.2.2.2.2.2.2.2.2.2.2.1, s.2.2.2.2.2.2.2.2.2.2.2.2.2.2.2.1, s.2.2.2.2.2.2.2.2.2.2.2.2.2.2.2.2.1, s.2.2.2.2.2.2.2.2.2.2.2.2.2.2.2.2.2.1, s.2.2.2.2.2.2.2.2.2.2.2.2.2.2.2.2.2.2.1, s.2.2.2.2.2.2.2.2.2.2.2.2.2.2.2.2.2.2.2.1, s.2.2.2.2.2.2.2.2.2.2.2.2.2.2.2.2.2.2.2.2.1, s.2.2.2.2.2.2.2.2.2.2.2.2.2.2.2.2.2.2.2.2.2.1, s.2.2.2.2.2.2.2.2.2.2.2.2.2.2.2.2.2.2.2.2.2.2.1, s.2.2.2.2.2.2.2.2.2.2.2.2.2.2.2.2.2.2.2.2.2.2.2.1, s.2.2.2.2.2.2.2.2.2.2.2.2.2.2.2.2.2.2.2.2.2.2.2.2.1, s.2.2.2.2.2.2.2.2.2.2.2.2.2.2.2.2.2.2.2.2.2.2.2.2.2.1, s.2.2.2.2.2.2.2.2.2.2.2.2.2.2.2.2.2.2.2.2.2.2.2.2.2.2.1, s.2.2.2.2.2.2.2.2.2.2.2.2.2.2.2.2.2.2.2.2.2.2.2.2.2.2.2.1, s.2.2.2.2.2.2.2.2.2.2.2.2.2.2.2.2.2.2.2.2.2.2.2.2.2.2.2.2.1, s.2.2.2.2.2.2.2.2.2.2.2.2.2.2.2.2.2.2.2.2.2.2.2.2.2.2.2.2.2.1, s.2.2.2.2.2.2.2.2.2.2.2.2.2.2.2.2.2.2.2.2.2.2.2.2.2.2.2.2.2.2.1, s.2.2.2.2.2.2.2.2.2.2.2.2.2.2.2.2.2.2.2.2.2.2.2.2.2.2.2.2.2.2.2.1, s.2.2.2.2.2.2.2.2.2.2.2.2.2.2.2.2.2.2.2.2.2.2.2.2.2.2.2.2.2.2.2.2.1, s.2.2.2.2.2.2.2.2.2.2.2.2.2.2.2.2.2.2.2.2.2.2.2.2.2.2.2.2.2.2.2.2.2.1, s.2.2.2.2.2.2.2.2.2.2.2.2.2.2.2.2.2.2.2.2.2.2.2.2.2.2.2.2.2.2.2.2.2.2.1, s.2.2.2.2.2.2.2.2.2.2.2.2.2.2.2.2.2.2.2.2.2.2.2.2.2.2.2.2.2.2.2.2.2.2.2.1, s.2.2.2.2.2.2.2.2.2.2.2.2.2.2.2.2.2.2.2.2.2.2.2.2.2.2.2.2.2.2.2.2.2.2.2.2.1, s.2.2.2.2.2.2.2.2.2.2.2.2.2.2.2.2.2.2.2.2.2.2.2.2.2.2.2.2.2.2.2.2.2.2.2.2.2.1, s.2.2.2.2.2.2.2.2.2.2.2.2.2.2.2.2.2.2.2.2.2.2.2.2.2.2.2.2.2.2.2.2.2.2.2.2.2.2.1, s.2.2.2.2.2.2.2.2.2.2.2.2.2.2.2.2.2.2.2.2.2.2.2.2.2.2.2.2.2.2.2.2.2.2.2.2.2.2.2.1, s.2.2.2.2.2.2.2.2.2.2.2.2.2.2.2.2.2.2.2.2.2.2.2.2.2.2.2.2.2.2.2.2.2.2.2.2.2.2.2.2.1, s.2.2.2.2.2.2.2.2.2.2.2.2.2.2.2.2.2.2.2.2.2.2.2.2.2.2.2.2.2.2.2.2.2.2.2.2.2.2.2.2.2.1, s.2.2.2.2.2.2.2.2.2.2.2.2.2.2.2.2.2.2.2.2.2.2.2.2.2.2.2.2.2.2.2.2.2.2.2.2.2.2.2.2.2.2.1, s.2.2.2.2.2.2.2.2.2.2.2.2.2.2.2.2.2.2.2.2.2.2.2.2.2.2.2.2.2.2.2.2.2.2.2.2.2.2.2.2.2.2.2.1, s.2.2.2.2.2.2.2.2.2.2.2.2.2.2.2.2.2.2.2.2.2.2.2.2.2.2.2.2.2.2.2.2.2.2.2.2.2.2.2.2.2.2.2.2.1, s.2.2.2.2.2.2.2.2.2.2.2.2.2.2.2.2.2.2.2.2.2.2.2.2.2.2.2.2.2.2.2.2.2.2.2.2.2.2.2.2.2.2.2.2.2.1, s.2.2.2.2.2.2.2.2.2.2.2.2.2.2.2.2.2.2.2.2.2.2.2.2.2.2.2.2.2.2.2.2.2.2.2.2.2.2.2.2.2.2.2.2.2.2.1, s.2.2.2.2.2.2.2.2.2.2.2.2.2.2.2.2.2.2.2.2.2.2.2.2.2.2.2.2.2.2.2.2.2.2.2.2.2.2.2.2.2.2.2.2.2.2.2.1, s.2.2.2.2.2.2.2.2.2.2.2.2.2.2.2.2.2.2.2.2.2.2.2.2.2.2.2.2.2.2.2.2.2.2.2.2.2.2.2.2.2.2.2.2.2.2.2.2.1, s.2.2.2.2.2.2.2.2.2.2.2.2.2.2.2.2.2.2.2.2.2.2.2.2.2.2.2.2.2.2.2.2.2.2.2.2.2.2.2.2.2.2.2.2.2.2.2.2.2))))
else
(some (Sum.inr (Sum.inl ())))
noncomputable def g13 (a0 : Sending) (a1 : Sending) : Option Bool :=
let x17 := if (if (if (if (if (if (if (if (a0.1 != a1.1) then true else (a0.2.1 != a1.2.1)) then true else (a0.2.2.2.1 != a1.2.2.2.1)) then true else (a0.2.2.2.2.1 != a1.2.2.2.2.1)) then true else (!decide (a0.2.2.1 = a1.2.2.1))) then true else (a0.2.2.2.2.2.1 != a1.2.2.2.2.2.1)) then true else (a0.2.2.2.2.2.2.2.2.2.2.2.2.2.2.2.2.2.2.2.2.1 != a1.2.2.2.2.2.2.2.2.2.2.2.2.2.2.2.2.2.2.2.2.1)) then true else (a0.2.2.2.2.2.2.2.2.2.2.2.2.2.2.2.2.2.2.2.2.2.1 != a1.2.2.2.2.2.2.2.2.2.2.2.2.2.2.2.2.2.2.2.2.2.1)) then true else (a0.2.2.2.2.2.2.2.2.2.2.2.2.2.2.2.2.2.2.2.2.2.2.2 != a1.2.2.2.2.2.2.2.2.2.2.2.2.2.2.2.2.2.2.2.2.2.2.2)
(if (!x17) then g22 (a0.2.2.2.2.2.2.2.1, a0.2.2.2.2.2.2.2.2.1, a0.2.2.2.2.2.2.2.2.2.1, a0.2.2.2.2.2.2.2.2.2.2.1, a0.2.2.2.2.2.2.2.2.2.2.2.1, a0.2.2.2.2.2.2.2.2.2.2.2.2.1, a0.2.2.2.2.2.2.2.2.2.2.2.2.2.1, a0.2.2.2.2.2.2.2.2.2.2.2.2.2.2.1, a0.2.2.2.2.2.2.2.2.2.2.2.2.2.2.2.1, a0.2.2.2.2.2.2.2.2.2.2.2.2.2.2.2.2.1, a0.2.2.2.2.2.2.2.2.2.2.2.2.2.2.2.2.2.1, a0.2.2.2.2.2.2.2.2.2.2.2.2.2.2.2.2.2.2.1, a0.2.2.2.2.2.2.2.2.2.2.2.2.2.2.2.2.2.2.2.1) (a1.2.2.2.2.2.2.2.1, a1.2.2.2.2.2.2.2.2.1, a1.2.2.2.2.2.2.2.2.2.1, a1.2.2.2.2.2.2.2.2.2.2.1, a1.2.2.2.2.2.2.2.2.2.2.2.1, a1.2.2.2.2.2.2.2.2.2.2.2.2.1, a1.2.2.2.2.2.2.2.2.2.2.2.2.2.1, a1.2.2.2.2.2.2.2.2.2.2.2.2.2.2.1, a1.2.2.2.2.2.2.2.2.2.2.2.2.2.2.2.1, a1.2.2.2.2.2.2.2.2.2.2.2.2.2.2.2.2.1, a1.2.2.2.2.2.2.2.2.2.2.2.2.2.2.2.2.2.1, a1.2.2.2.2.2.2.2.2.2.2.2.2.2.2.2.2.2.2.1, a1.2.2.2.2.2.2.2.2.2.2.2.2.2.2.2.2.2.2.2.1) else some false).bind fun y18 =>
if (if (if (if x17 then true else (!y18)) then true else ((a0.2.2.2.2.2.2.1.length : Int) != (a1.2.2.2.2.2.2.1.length : Int))) then true else ((a0.2.2.2.2.2.2.2.2.2.2.2.2.2.2.2.2.2.2.2.2.2.2.1.length : Int) != (a1.2.2.2.2.2.2.2.2.2.2.2.2.2.2.2.2.2.2.2.2.2.2.1.length : Int))) then
(some false)
else
(
(lpU g13x0 ((a0.2.2.2.2.2.2.1.length : Int), (0 : Int), a0.1, a0.2.1, a0.2.2.1, a0.2.2.2.1, a0.2.2.2.2.1, a0.2.2.2.2.2.1, a0.2.2.2.2.2.2.1, a0.2.2.2.2.2.2.2.1, a0.2.2.2.2.2.2.2.2.1, a0.2.2.2.2.2.2.2.2.2.1, a0.2.2.2.2.2.2.2.2.2.2.1, a0.2.2.2.2.2.2.2.2.2.2.2.1, a0.2.2.2.2.2.2.2.2.2.2.2.2.1, a0.2.2.2.2.2.2.2.2.2.2.2.2.2.1, a0.2.2.2.2.2.2.2.2.2.2.2.2.2.2.1, a0.2.2.2.2.2.2.2.2.2.2.2.2.2.2.2.1, a0.2.2.2.2.2.2.2.2.2.2.2.2.2.2.2.2.1, a0.2.2.2.2.2.2.2.2.2.2.2.2.2.2.2.2.2.1, a0.2.2.2.2.2.2.2.2.2.2.2.2.2.2.2.2.2.2.1, a0.2.2.2.2.2.2.2.2.2.2.2.2.2.2.2.2.2.2.2.1, a0.2.2.2.2.2.2.2.2.2.2.2.2.2.2.2.2.2.2.2.2.1, a0.2.2.2.2.2.2.2.2.2.2.2.2.2.2.2.2.2.2.2.2.2.1, a0.2.2.2.2.2.2.2.2.2.2.2.2.2.2.2.2.2.2.2.2.2.2.1, a0.2.2.2.2.2.2.2.2.2.2.2.2.2.2.2.2.2.2.2.2.2.2.2, a1.1, a1.2.1, a1.2.2.1, a1.2.2.2.1, a1.2.2.2.2.1, a1.2.2.2.2.2.1, a1.2.2.2.2.2.2.1, a1.2.2.2.2.2.2.2.1, a1.2.2.2.2.2.2.2.2.1, a1.2.2.2.2.2.2.2.2.2.1, a1.2.2.2.2.2.2.2.2.2.2.1, a1.2.2.2.2.2.2.2.2.2.2.2.1, a1.2.2.2.2.2.2.2.2.2.2.2.2.1, a1.2.2.2.2.2.2.2.2.2.2.2.2.2.1, a1.2.2.2.2.2.2.2.2.2.2.2.2.2.2.1, a1.2.2.2.2.2.2.2.2.2.2.2.2.2.2.2.1, a1.2.2.2.2.2.2.2.2.2.2.2.2.2.2.2.2.1, a1.2.2.2.2.2.2.2.2.2.2.2.2.2.2.2.2.2.1, a1.2.2.2.2.2.2.2.2.2.2.2.2.2.2.2.2.2.2.1, a1.2.2.2.2.2.2.2.2.2.2.2.2.2.2.2.2.2.2.2.1, a1.2.2.2.2.2.2.2.2.2.2.2.2.2.2.2.2.2.2.2.2.1, a1.2.2.2.2.2.2.2.2.2.2.2.2.2.2.2.2.2.2.2.2.2.1, a1.2.2.2.2.2.2.2.2.2.2.2.2.2.2.2.2.2.2.2.2.2.2.1, a1.2.2.2.2.2.2.2.2.2.2.2.2.2.2.2.2.2.2.2.2.2.2.2)).bind fun z35 =>
match z35 with
| Sum.inl z36 => (let x38 := (z36.2.2.2.2.2.2.2.2.2.2.2.2.2.2.2.2.2.2.2.2.2.2.1.length : Int)
(lpU g13x1 (x38, (0 : Int), z36.1, z36.2.1, z36.2.2.1, z36.2.2.2.1, z36.2.2.2.2.1, z36.2.2.2.2.2.1, z36.2.2.2.2.2.2.1, z36.2.2.2.2.2.2.2.1, z36.2.2.2.2.2.2.2.2.1, z36.2.2.2.2.2.2.2.2.2.1, z36.2.2.2.2.2.2.2.2.2.2.1, z36.2.2.2.2.2.2.2.2.2.2.2.1, z36.2.2.2.2.2.2.2.2.2.2.2.2.1, z36.2.2.2.2.2.2.2.2.2.2.2.2.2.1, z36.2.2.2.2.2.2.2.2.2.2.2.2.2.2.1, z36.2.2.2.2.2.2.2.2.2.2.2.2.2.2.2.1, z36.2.2.2.2.2.2.2.2.2.2.2.2.2.2.2.2.1, z36.2.2.2.2.2.2.2.2.2.2.2.2.2.2.2.2.2.1, z36.2.2.2.2.2.2.2.2.2.2.2.2.2.2.2.2.2.2.1, z36.2.2.2.2.2.2.2.2.2.2.2.2.2.2.2.2.2.2.2.1, z36.2.2.2.2.2.2.2.2.2.2.2.2.2.2.2.2.2.2.2.2.1, z36.2.2.2.2.2.2.2.2.2.2.2.2.2.2.2.2.2.2.2.2.2.1, z36.2.2.2.2.2.2.2.2.2.2.2.2.2.2.2.2.2.2.2.2.2.2.1, z36.2.2.2.2.2.2.2.2.2.2.2.2.2.2.2.2.2.2.2.2.2.2.2.1, z36.2.2.2.2.2.2.2.2.2.2.2.2.2.2.2.2.2.2.2.2.2.2.2.2.1, z36.2.2.2.2.2.2.2.2.2.2.2.2.2.2.2.2.2.2.2.2.2.2.2.2.2.1, z36.2.2.2.2.2.2.2.2.2.2.2.2.2.2.2.2.2.2.2.2.2.2.2.2.2.2.1, z36.2.2.2.2.2.2.2.2.2.2.2.2.2.2.2.2.2.2.2.2.2.2.2.2.2.2.2.1, z36.2.2.2.2.2.2.2.2.2.2.2.2.2.2.2.2.2.2.2.2.2.2.2.2.2.2.2.2.1, z36.2.2.2.2.2.2.2.2.2.2.2.2.2.2.2.2.2.2.2.2.2.2.2.2.2.2.2.2.2.1, z36.2.2.2.2.2.2.2.2.2.2.2.2.2.2.2.2.2.2.2.2.2.2.2.2.2.2.2.2.2.2.1, z36.2.2.2.2.2.2.2.2.2.2.2.2.2.2.2.2.2.2.2.2.2.2.2.2.2.2.2.2.2.2.2.1, z36.2.2.2.2.2.2.2.2.2.2.2.2.2.2.2.2.2.2.2.2.2.2.2.2.2.2.2.2.2.2.2.2.1, z36.2.2.2.2.2.2.2.2.2.2.2.2.2.2.2.2.2.2.2.2.2.2.2.2.2.2.2.2.2.2.2.2.2.1, z36.2.2.2.2.2.2.2.2.2.2.2.2.2.2.2.2.2.2.2.2.2.2.2.2.2.2.2.2.2.2.2.2.2.2.1, z36.2.2.2.2.2.2.2.2.2.2.2.2.2.2.2.2.2.2.2.2.2.2.2.2.2.2.2.2.2.2.2.2.2.2.2.1, z36.2.2.2.2.2.2.2.2.2.2.2.2.2.2.2.2.2.2.2.2.2.2.2.2.2.2.2.2.2.2.2.2.2.2.2.2.1, z36.2.2.2.2.2.2.2.2.2.2.2.2.2.2.2.2.2.2.2.2.2.2.2.2.2.2.2.2.2.2.2.2.2.2.2.2.2.1, z36.2.2.2.2.2.2.2.2.2.2.2.2.2.2.2.2.2.2.2.2.2.2.2.2.2.2.2.2.2.2.2.2.2.2.2.2.2.2.1, z36.2.2.2.2.2.2.2.2.2.2.2.2.2.2.2.2.2.2.2.2.2.2.2.2.2.2.2.2.2.2.2.2.2.2.2.2.2.2.2.1, z36.2.2.2.2.2.2.2.2.2.2.2.2.2.2.2.2.2.2.2.2.2.2.2.2.2.2.2.2.2.2.2.2.2.2.2.2.2.2.2.2.1, z36.2.2.2.2.2.2.2.2.2.2.2.2.2.2.2.2.2.2.2.2.2.2.2.2.2.2.2.2.2.2.2.2.2.2.2.2.2.2.2.2.2.1, z36.2.2.2.2.2.2.2.2.2.2.2.2.2.2.2.2.2.2.2.2.2.2.2.2.2.2.2.2.2.2.2.2.2.2.2.2.2.2.2.2.2.2.1, z36.2.2.2.2.2.2.2.2.2.2.2.2.2.2.2.2.2.2.2.2.2.2.2.2.2.2.2.2.2.2.2.2.2.2.2.2.2.2.2.2.2.2.2.1, z36.2.2.2.2.2.2.2.2.2.2.2.2.2.2.2.2.2.2.2.2.2.2.2.2.2.2.2.2.2.2.2.2.2.2.2.2.2.2.2.2.2.2.2.2.1, z36.2.2.2.2.2.2.2.2.2.2.2.2.2.2.2.2.2.2.2.2.2.2.2.2.2.2.2.2.2.2.2.2.2.2.2.2.2.2.2.2.2.2.2.2.2.1, z36.2.2.2.2.2.2.2.2.2.2.2.2.2.2.2.2.2.2.2.2.2.2.2.2.2.2.2.2.2.2.2.2.2.2.2.2.2.2.2.2.2.2.2.2.2.2.1, z36.2.2.2.2.2.2.2.2.2.2.2.2.2.2.2.2.2.2.2.2.2.2.2.2.2.2.2.2.2.2.2.2.2.2.2.2.2.2.2.2.2.2.2.2.2.2.2)).bind fun z44 =>
match z44 with
| Sum.inl z45 => (some true)
| Sum.inr z46 => (some z46))
| Sum.inr z37 => (some z37))
noncomputable def tf13 : TF := .par ⟨[.v YSending, .v YSending], .b⟩ (fun x => g13 x.1 x.2)
theorem e13 : evFn (tabU [(22, tf22)]) ⟨F13.res, F13.keep, tf13.sg⟩ T13 = fun x => g13 x.1 x.2 := by kernel_rfl
theorem o13 : TOK (EF pg) 13 tf13 := tok_of p13 rfl (tabU_cons o22 (tabU_nil)) ⟨rfl, rfl, by decide⟩ rfl (rndOk_of rfl) trivial fun x y h => (congrFun e13 x).trans h
/-- heliograph/sender.in -/
noncomputable def h42 (a0 : Int) (a1 : Int) (a2 : Int) : Bool :=
(if (decide (a0 ≥ a1)) then (decide (a0 ≤ a2)) else false)
noncomputable def tf42 : TF := .tot ⟨[.v (.i .i64), .v (.i .i64), .v (.i .i64)], .b⟩ (fun x => h42 x.1 x.2.1 x.2.2)
theorem e42 : evFn (tabU []) ⟨F42.res, F42.keep, tf42.sg⟩ T42 = fun x => some (h42 x.1 x.2.1 x.2.2) := by kernel_rfl
theorem o42 : TOK (EF pg) 42 tf42 := tok_of p42 rfl (tabU_nil) ⟨rfl, rfl, by decide⟩ rfl (rndOk_of rfl) trivial fun x y h => (congrFun e42 x).trans h
/-- heliograph/sender.begins -/
noncomputable def h35 (a0 : Start) : Bool :=
(if (if (if (if (h42 a0.1 (1 : Int) (6 : Int)) then (decide (a0.2.1 > (0 : Int))) else false) then (h42 (a0.2.2.1.length : Int) (1 : Int) (512 : Int)) else false) then (h42 a0.2.2.2.1 (1 : Int) (4096 : Int)) else false) then (h42 a0.2.2.2.2 (1 : Int) (16 : Int)) else false)
noncomputable def tf35 : TF := .tot ⟨[.v YStart], .b⟩ (fun x => h35 x)
theorem e35 : evFn (tabU [(42, tf42)]) ⟨F35.res, F35.keep, tf35.sg⟩ T35 = fun x => some (h35 x) := by kernel_rfl
theorem o35 : TOK (EF pg) 35 tf35 := tok_of p35 rfl (tabU_cons o42 (tabU_nil)) ⟨rfl, rfl, by decide⟩ rfl (rndOk_of rfl) trivial fun x y h => (congrFun e35 x).trans h
/-- heliograph/sender.moment -/
noncomputable def h36 (a0 : Int) : Bool :=
(h42 a0 (0 : Int) (1048576 : Int))
noncomputable def tf36 : TF := .tot ⟨[.v (.i .i64)], .b⟩ (fun x => h36 x)
theorem e36 : evFn (tabU [(42, tf42)]) ⟨F36.res, F36.keep, tf36.sg⟩ T36 = fun x => some (h36 x) := by kernel_rfl
theorem o36 : TOK (EF pg) 36 tf36 := tok_of p36 rfl (tabU_cons o42 (tabU_nil)) ⟨rfl, rfl, by decide⟩ rfl (rndOk_of rfl) trivial fun x y h => (congrFun e36 x).trans h
/-- heliograph/sender.ranked -/
noncomputable def g43x0 (s : Int × Int × (List Claim) × Int × Int) : Option ((Int × Int × (List Claim) × Int × Int) ⊕ (Unit ⊕ Bool)) :=
if (decide (s.2.2.2.2 < s.2.2.2.1)) then
((idx s.2.2.1 s.2.2.2.2).bind fun y3 =>
if (if (if (if (decide (y3.2 < (1 : Int))) then true else (decide (y3.1 ≤ s.2.1))) then true else (decide (y3.1 ≥ s.1))) then true else (decide (y3.2 > (IntKind.i64.wrap (s.1 - y3.1))))) then
(some (Sum.inr (Sum.inr (false))))
else
(
some (Sum.inl (s.1, (IntKind.i64.wrap (y3.1 + y3.2)), s.2.2.1, s.2.2.2.1, (IntKind.i64.wrap (s.2.2.2.2 + (1 : Int)))))))
else
(some (Sum.inr (Sum.inl ())))
noncomputable def g43 (a0 : List Claim) (a1 : Int) : Option Bool :=
(lpU g43x0 (a1, (-1 : Int), a0, (a0.length : Int), (0 : Int))).bind fun z14 =>
match z14 with
| Sum.inl z15 => (some true)
| Sum.inr z16 => (some z16)
noncomputable def tf43 : TF := .par ⟨[.v (.l .ro YClaim), .v (.i .i64)], .b⟩ (fun x => g43 x.1 x.2)
theorem e43 : evFn (tabU []) ⟨F43.res, F43.keep, tf43.sg⟩ T43 = fun x => g43 x.1 x.2 := by kernel_rfl
theorem o43 : TOK (EF pg) 43 tf43 := tok_of p43 rfl (tabU_nil) ⟨rfl, rfl, by decide⟩ rfl (rndOk_of rfl) trivial fun x y h => (congrFun e43 x).trans h
/-- slices.Equal[[]byte,byte] -/
noncomputable def g45x0 (s : (List Int) × (List Int) × Int × Int) : Option (((List Int) × (List Int) × Int × Int) ⊕ (Unit ⊕ Bool)) :=
if (decide (s.2.2.2 < s.2.2.1)) then
((idx s.1 s.2.2.2).bind fun y6 =>
(idx s.2.1 s.2.2.2).bind fun y7 =>
if (y6 != y7) then
(some (Sum.inr (Sum.inr (false))))
else
(
some (Sum.inl (s.1, s.2.1, s.2.2.1, (IntKind.i64.wrap (s.2.2.2 + (1 : Int)))))))
else
(some (Sum.inr (Sum.inl ())))
noncomputable def g45 (a0 : List Int) (a1 : List Int) : Option Bool :=
if ((a0.length : Int) != (a1.length : Int)) then
(some false)
else
(
(lpU g45x0 (a0, a1, (a0.length : Int), (0 : Int))).bind fun z10 =>
match z10 with
| Sum.inl z11 => (some true)
| Sum.inr z12 => (some z12))
noncomputable def tf45 : TF := .par ⟨[.v (.l .ro (.i .u8)), .v (.l .ro (.i .u8))], .b⟩ (fun x => g45 x.1 x.2)
theorem e45 : evFn (tabU []) ⟨F45.res, F45.keep, tf45.sg⟩ T45 = fun x => g45 x.1 x.2 := by kernel_rfl
theorem o45 : TOK (EF pg) 45 tf45 := tok_of p45 rfl (tabU_nil) ⟨rfl, rfl, by decide⟩ rfl (rndOk_of rfl) trivial fun x y h => (congrFun e45 x).trans h
/-- heliograph/sender.Same$1 -/
noncomputable def h47 (a0 : Sending) : Rest :=
(a0.1, a0.2.2.2.1, a0.2.2.2.2.1, a0.2.2.2.2.2.1, a0.2.2.2.2.2.2.2.2.2.2.2.2.2.2.2.2.2.2.2.2.1, a0.2.2.2.2.2.2.2.2.2.2.2.2.2.2.2.2.2.2.2.2.2.1, a0.2.2.2.2.2.2.2.2.2.2.2.2.2.2.2.2.2.2.2.2.2.2.2, a0.2.1)
noncomputable def tf47 : TF := .tot ⟨[.v YSending], YRest⟩ (fun x => h47 x)
theorem e47 : evFn (tabU []) ⟨F47.res, F47.keep, tf47.sg⟩ T47 = fun x => some (h47 x) := by kernel_rfl
theorem o47 : TOK (EF pg) 47 tf47 := tok_of p47 rfl (tabU_nil) ⟨rfl, rfl, by decide⟩ rfl (rndOk_of rfl) trivial fun x y h => (congrFun e47 x).trans h
/-- slices.Equal[[]heliograph/api.Claim,heliograph/api.Claim] -/
noncomputable def g48x0 (s : (List Claim) × (List Claim) × Int × Int) : Option (((List Claim) × (List Claim) × Int × Int) ⊕ (Unit ⊕ Bool)) :=
if (decide (s.2.2.2 < s.2.2.1)) then
((idx s.1 s.2.2.2).bind fun y6 =>
(idx s.2.1 s.2.2.2).bind fun y7 =>
if (!((y6.1 == y7.1) && ((y6.2 == y7.2) && (true)))) then
(some (Sum.inr (Sum.inr (false))))
else
(
some (Sum.inl (s.1, s.2.1, s.2.2.1, (IntKind.i64.wrap (s.2.2.2 + (1 : Int)))))))
else
(some (Sum.inr (Sum.inl ())))
noncomputable def g48 (a0 : List Claim) (a1 : List Claim) : Option Bool :=
if ((a0.length : Int) != (a1.length : Int)) then
(some false)
else
(
(lpU g48x0 (a0, a1, (a0.length : Int), (0 : Int))).bind fun z10 =>
match z10 with
| Sum.inl z11 => (some true)
| Sum.inr z12 => (some z12))
noncomputable def tf48 : TF := .par ⟨[.v (.l .ro YClaim), .v (.l .ro YClaim)], .b⟩ (fun x => g48 x.1 x.2)
theorem e48 : evFn (tabU []) ⟨F48.res, F48.keep, tf48.sg⟩ T48 = fun x => g48 x.1 x.2 := by kernel_rfl
theorem o48 : TOK (EF pg) 48 tf48 := tok_of p48 rfl (tabU_nil) ⟨rfl, rfl, by decide⟩ rfl (rndOk_of rfl) trivial fun x y h => (congrFun e48 x).trans h
/-- slices.Equal[[]uint32,uint32] -/
noncomputable def g49x0 (s : (List Int) × (List Int) × Int × Int) : Option (((List Int) × (List Int) × Int × Int) ⊕ (Unit ⊕ Bool)) :=
if (decide (s.2.2.2 < s.2.2.1)) then
((idx s.1 s.2.2.2).bind fun y6 =>
(idx s.2.1 s.2.2.2).bind fun y7 =>
if (y6 != y7) then
(some (Sum.inr (Sum.inr (false))))
else
(
some (Sum.inl (s.1, s.2.1, s.2.2.1, (IntKind.i64.wrap (s.2.2.2 + (1 : Int)))))))
else
(some (Sum.inr (Sum.inl ())))
noncomputable def g49 (a0 : List Int) (a1 : List Int) : Option Bool :=
if ((a0.length : Int) != (a1.length : Int)) then
(some false)
else
(
(lpU g49x0 (a0, a1, (a0.length : Int), (0 : Int))).bind fun z10 =>
match z10 with
| Sum.inl z11 => (some true)
| Sum.inr z12 => (some z12))
noncomputable def tf49 : TF := .par ⟨[.v (.l .ro (.i .u32)), .v (.l .ro (.i .u32))], .b⟩ (fun x => g49 x.1 x.2)
theorem e49 : evFn (tabU []) ⟨F49.res, F49.keep, tf49.sg⟩ T49 = fun x => g49 x.1 x.2 := by kernel_rfl
theorem o49 : TOK (EF pg) 49 tf49 := tok_of p49 rfl (tabU_nil) ⟨rfl, rfl, by decide⟩ rfl (rndOk_of rfl) trivial fun x y h => (congrFun e49 x).trans h
/-- heliograph/segment.Forward -/
noncomputable def g52 (a0 : Segment) : Option Bool :=
let x1 := a0.1 == (1 : Int)
if x1 then
(if x1 then
(some true)
else
(some false))
else
(let x2 := a0.1 == (3 : Int)
if x2 then
(if x2 then
(some true)
else
(some false))
else
(let x3 := a0.1 == (4 : Int)
if x3 then
(if x3 then
(some true)
else
(some false))
else
(
if (a0.1 == (7 : Int)) then
(some true)
else
(some false))))
noncomputable def tf52 : TF := .par ⟨[.v YSegment], .b⟩ (fun x => g52 x)
theorem e52 : evFn (tabU []) ⟨F52.res, F52.keep, tf52.sg⟩ T52 = fun x => g52 x := by kernel_rfl
theorem o52 : TOK (EF pg) 52 tf52 := tok_of p52 rfl (tabU_nil) ⟨rfl, rfl, by decide⟩ rfl (rndOk_of rfl) trivial fun x y h => (congrFun e52 x).trans h
/-- heliograph/sender.plain -/
noncomputable def h54 (a0 : Sending) (a1 : Int) : Segment :=
(a1, a0.1, a0.2.1, (0 : Int), (0 : Int), (0 : Int), (0 : Int), (0 : Int), (0 : Int), (0 : Int), false, [], [])
noncomputable def tf54 : TF := .tot ⟨[.v YSending, .v (.i .i64)], YSegment⟩ (fun x => h54 x.1 x.2)
theorem e54 : evFn (tabU []) ⟨F54.res, F54.keep, tf54.sg⟩ T54 = fun x => some (h54 x.1 x.2) := by kernel_rfl
theorem o54 : TOK (EF pg) 54 tf54 := tok_of p54 rfl (tabU_nil) ⟨rfl, rfl, by decide⟩ rfl (rndOk_of rfl) trivial fun x y h => (congrFun e54 x).trans h
/-- slices.Clone[[]byte,byte] -/
noncomputable def g63 (a0 : List Int) : Option (List Int) :=
amb (List.isEmpty a0) false fun y1 =>
if y1 then
(some [])
else
((apd 1 [] a0).bind fun y2 =>
some y2)
noncomputable def tf63 : TF := .par ⟨[.v (.l .ro (.i .u8))], (.l .ro (.i .u8))⟩ (fun x => g63 x)
theorem e63 : evFn (tabU []) ⟨F63.res, F63.keep, tf63.sg⟩ T63 = fun x => g63 x := by kernel_rfl
theorem o63 : TOK (EF pg) 63 tf63 := tok_of p63 rfl (tabU_nil) ⟨rfl, rfl, by decide⟩ rfl (rndOk_of rfl) trivial fun x y h => (congrFun e63 x).trans h
/-- slices.Clone[[]heliograph/api.Claim,heliograph/api.Claim] -/
noncomputable def g65 (a0 : List Claim) : Option (List Claim) :=
amb (List.isEmpty a0) false fun y1 =>
if y1 then
(some [])
else
((apd 16 [] a0).bind fun y2 =>
some y2)
noncomputable def tf65 : TF := .par ⟨[.v (.l .ro YClaim)], (.l .ro YClaim)⟩ (fun x => g65 x)
theorem e65 : evFn (tabU []) ⟨F65.res, F65.keep, tf65.sg⟩ T65 = fun x => g65 x := by kernel_rfl
theorem o65 : TOK (EF pg) 65 tf65 := tok_of p65 rfl (tabU_nil) ⟨rfl, rfl, by decide⟩ rfl (rndOk_of rfl) trivial fun x y h => (congrFun e65 x).trans h
/-- slices.Clone[[]uint32,uint32] -/
noncomputable def g66 (a0 : List Int) : Option (List Int) :=
amb (List.isEmpty a0) false fun y1 =>
if y1 then
(some [])
else
((apd 4 [] a0).bind fun y2 =>
some y2)
noncomputable def tf66 : TF := .par ⟨[.v (.l .ro (.i .u32))], (.l .ro (.i .u32))⟩ (fun x => g66 x)
theorem e66 : evFn (tabU []) ⟨F66.res, F66.keep, tf66.sg⟩ T66 = fun x => g66 x := by kernel_rfl
theorem o66 : TOK (EF pg) 66 tf66 := tok_of p66 rfl (tabU_nil) ⟨rfl, rfl, by decide⟩ rfl (rndOk_of rfl) trivial fun x y h => (congrFun e66 x).trans h
/-- heliograph/sender.cloned -/
noncomputable def g38 (a0 : Sending) : Option Sending :=
(g63 a0.2.2.1).bind fun y1 =>
(g65 a0.2.2.2.2.2.2.1).bind fun y2 =>
(g66 a0.2.2.2.2.2.2.2.2.2.2.2.2.2.2.2.2.2.2.2.2.2.2.1).bind fun y3 =>
(g63 a0.2.2.2.2.2.2.2.2.2.2.2.2.2.2.2.2.2.2.1).bind fun y4 =>
some (a0.1, a0.2.1, y1, a0.2.2.2.1, a0.2.2.2.2.1, a0.2.2.2.2.2.1, y2, a0.2.2.2.2.2.2.2.1, a0.2.2.2.2.2.2.2.2.1, a0.2.2.2.2.2.2.2.2.2.1, a0.2.2.2.2.2.2.2.2.2.2.1, a0.2.2.2.2.2.2.2.2.2.2.2.1, a0.2.2.2.2.2.2.2.2.2.2.2.2.1, a0.2.2.2.2.2.2.2.2.2.2.2.2.2.1, a0.2.2.2.2.2.2.2.2.2.2.2.2.2.2.1, a0.2.2.2.2.2.2.2.2.2.2.2.2.2.2.2.1, a0.2.2.2.2.2.2.2.2.2.2.2.2.2.2.2.2.1, a0.2.2.2.2.2.2.2.2.2.2.2.2.2.2.2.2.2.1, y4, a0.2.2.2.2.2.2.2.2.2.2.2.2.2.2.2.2.2.2.2.1, a0.2.2.2.2.2.2.2.2.2.2.2.2.2.2.2.2.2.2.2.2.1, a0.2.2.2.2.2.2.2.2.2.2.2.2.2.2.2.2.2.2.2.2.2.1, y3, a0.2.2.2.2.2.2.2.2.2.2.2.2.2.2.2.2.2.2.2.2.2.2.2)
noncomputable def tf38 : TF := .par ⟨[.v YSending], YSending⟩ (fun x => g38 x)
theorem e38 : evFn (tabU [(63, tf63), (65, tf65), (66, tf66)]) ⟨F38.res, F38.keep, tf38.sg⟩ T38 = fun x => g38 x := by kernel_rfl
theorem o38 : TOK (EF pg) 38 tf38 := tok_of p38 rfl (tabU_cons o63 (tabU_cons o65 (tabU_cons o66 (tabU_nil)))) ⟨rfl, rfl, by decide⟩ rfl (rndOk_of rfl) trivial fun x y h => (congrFun e38 x).trans h
/-- heliograph/segment.in -/
noncomputable def h68 (a0 : Int) (a1 : Int) (a2 : Int) : Bool :=
(if (decide (a0 ≥ a1)) then (decide (a0 ≤ a2)) else false)
noncomputable def tf68 : TF := .tot ⟨[.v (.i .i64), .v (.i .i64), .v (.i .i64)], .b⟩ (fun x => h68 x.1 x.2.1 x.2.2)
theorem e68 : evFn (tabU []) ⟨F68.res, F68.keep, tf68.sg⟩ T68 = fun x => some (h68 x.1 x.2.1 x.2.2) := by kernel_rfl
theorem o68 : TOK (EF pg) 68 tf68 := tok_of p68 rfl (tabU_nil) ⟨rfl, rfl, by decide⟩ rfl (rndOk_of rfl) trivial fun x y h => (congrFun e68 x).trans h
/-- heliograph/segment.claimed -/
noncomputable def g69x0 (s : (List Claim) × Int × Int × (List Claim) × Int × Int) : Option (((List Claim) × Int × Int × (List Claim) × Int × Int) ⊕ ((List Claim) ⊕ Bool)) :=
if (decide (s.2.2.2.2.2 < s.2.2.2.2.1)) then
((idx s.2.2.2.1 s.2.2.2.2.2).bind fun y4 =>
if (if (if (if (decide (y4.2 < (1 : Int))) then true else (decide (y4.1 ≤ s.2.2.1))) then true else (decide (y4.1 ≥ s.2.1))) then true else (decide (y4.2 > (IntKind.i64.wrap (s.2.1 - y4.1))))) then
(some (Sum.inr (Sum.inr (false))))
else
(
some (Sum.inl (s.1, s.2.1, (IntKind.i64.wrap (y4.1 + y4.2)), s.2.2.2.1, s.2.2.2.2.1, (IntKind.i64.wrap (s.2.2.2.2.2 + (1 : Int)))))))
else
(some (Sum.inr (Sum.inl s.1)))
noncomputable def g69 (a0 : List Claim) (a1 : Int) (a2 : Int) : Option Bool :=
(lpU g69x0 (a0, a2, (IntKind.i64.wrap (a1 - (1 : Int))), a0, (a0.length : Int), (0 : Int))).bind fun z15 =>
match z15 with
| Sum.inl z16 => (let x18 := (z16.length : Int)
some (decide (x18 ≤ (20 : Int))))
| Sum.inr z17 => (some z17)
noncomputable def tf69 : TF := .par ⟨[.v (.l .ro YClaim), .v (.i .i64), .v (.i .i64)], .b⟩ (fun x => g69 x.1 x.2.1 x.2.2)
theorem e69 : evFn (tabU []) ⟨F69.res, F69.keep, tf69.sg⟩ T69 = fun x => g69 x.1 x.2.1 x.2.2 := by kernel_rfl
theorem o69 : TOK (EF pg) 69 tf69 := tok_of p69 rfl (tabU_nil) ⟨rfl, rfl, by decide⟩ rfl (rndOk_of rfl) trivial fun x y h => (congrFun e69 x).trans h
/-- slices.Index[[]uint32,uint32] -/
noncomputable def g70x0 (s : (List Int) × Int × Int × Int) : Option (((List Int) × Int × Int × Int) ⊕ (Unit ⊕ Int)) :=
if (decide (s.2.2.2 < s.2.2.1)) then
((idx s.1 s.2.2.2).bind fun y3 =>
if (s.2.1 == y3) then
(some (Sum.inr (Sum.inr (s.2.2.2))))
else
(
some (Sum.inl (s.1, s.2.1, s.2.2.1, (IntKind.i64.wrap (s.2.2.2 + (1 : Int)))))))
else
(some (Sum.inr (Sum.inl ())))
noncomputable def g70 (a0 : List Int) (a1 : Int) : Option Int :=
(lpU g70x0 (a0, a1, (a0.length : Int), (0 : Int))).bind fun z6 =>
match z6 with
| Sum.inl z7 => (some (-1 : Int))
| Sum.inr z8 => (some z8)
noncomputable def tf70 : TF := .par ⟨[.v (.l .ro (.i .u32)), .v (.i .u32)], (.i .i64)⟩ (fun x => g70 x.1 x.2)
theorem e70 : evFn (tabU []) ⟨F70.res, F70.keep, tf70.sg⟩ T70 = fun x => g70 x.1 x.2 := by kernel_rfl
theorem o70 : TOK (EF pg) 70 tf70 := tok_of p70 rfl (tabU_nil) ⟨rfl, rfl, by decide⟩ rfl (rndOk_of rfl) trivial fun x y h => (congrFun e70 x).trans h
/-- slices.Contains[[]uint32,uint32] -/
noncomputable def g46 (a0 : List Int) (a1 : Int) : Option Bool :=
(g70 a0 a1).bind fun y1 =>
some (decide (y1 ≥ (0 : Int)))
noncomputable def tf46 : TF := .par ⟨[.v (.l .ro (.i .u32)), .v (.i .u32)], .b⟩ (fun x => g46 x.1 x.2)
theorem e46 : evFn (tabU [(70, tf70)]) ⟨F46.res, F46.keep, tf46.sg⟩ T46 = fun x => g46 x.1 x.2 := by kernel_rfl
theorem o46 : TOK (EF pg) 46 tf46 := tok_of p46 rfl (tabU_cons o70 (tabU_nil)) ⟨rfl, rfl, by decide⟩ rfl (rndOk_of rfl) trivial fun x y h => (congrFun e46 x).trans h
/-- heliograph/segment.Same$1 -/
noncomputable def h71 (a0 : Segment) : Rest_ :=
(a0.1, a0.2.1, a0.2.2.2.2.2.1, a0.2.2.2.2.2.2.1, a0.2.2.2.2.2.2.2.1, a0.2.2.2.2.2.2.2.2.1, a0.2.2.2.2.2.2.2.2.2.1, a0.2.2.1, a0.2.2.2.1, a0.2.2.2.2.1, a0.2.2.2.2.2.2.2.2.2.2.1)
noncomputable def tf71 : TF := .tot ⟨[.v YSegment], YRest_⟩ (fun x => h71 x)
theorem e71 : evFn (tabU []) ⟨F71.res, F71.keep, tf71.sg⟩ T71 = fun x => some (h71 x) := by kernel_rfl
theorem o71 : TOK (EF pg) 71 tf71 := tok_of p71 rfl (tabU_nil) ⟨rfl, rfl, by decide⟩ rfl (rndOk_of rfl) trivial fun x y h => (congrFun e71 x).trans h
/-- heliograph/segment.Same -/
noncomputable def g50 (a0 : Segment) (a1 : Segment) : Option Bool :=
let x1 := h71 a0
let x2 := h71 a1
let x3 := (x1.1 == x2.1) && ((x1.2.1 == x2.2.1) && ((x1.2.2.1 == x2.2.2.1) && ((x1.2.2.2.1 == x2.2.2.2.1) && ((x1.2.2.2.2.1 == x2.2.2.2.2.1) && ((x1.2.2.2.2.2.1 == x2.2.2.2.2.2.1) && ((x1.2.2.2.2.2.2.1 == x2.2.2.2.2.2.2.1) && ((x1.2.2.2.2.2.2.2.1 == x2.2.2.2.2.2.2.2.1) && ((x1.2.2.2.2.2.2.2.2.1 == x2.2.2.2.2.2.2.2.2.1) && ((x1.2.2.2.2.2.2.2.2.2.1 == x2.2.2.2.2.2.2.2.2.2.1) && ((x1.2.2.2.2.2.2.2.2.2.2 == x2.2.2.2.2.2.2.2.2.2.2) && (true)))))))))))
(if x3 then g45 a0.2.2.2.2.2.2.2.2.2.2.2.1 a1.2.2.2.2.2.2.2.2.2.2.2.1 else some false).bind fun y4 =>
let x5 := if x3 then y4 else false
(if x5 then g48 a0.2.2.2.2.2.2.2.2.2.2.2.2 a1.2.2.2.2.2.2.2.2.2.2.2.2 else some false).bind fun y6 =>
some (if x5 then y6 else false)
noncomputable def tf50 : TF := .par ⟨[.v YSegment, .v YSegment], .b⟩ (fun x => g50 x.1 x.2)
theorem e50 : evFn (tabU [(45, tf45), (48, tf48), (71, tf71)]) ⟨F50.res, F50.keep, tf50.sg⟩ T50 = fun x => g50 x.1 x.2 := by kernel_rfl
theorem o50 : TOK (EF pg) 50 tf50 := tok_of p50 rfl (tabU_cons o45 (tabU_cons o48 (tabU_cons o71 (tabU_nil)))) ⟨rfl, rfl, by decide⟩ rfl (rndOk_of rfl) trivial fun x y h => (congrFun e50 x).trans h
/-- heliograph/sender.Same -/
noncomputable def g18 (a0 : Sending) (a1 : Sending) : Option Bool :=
let x1 := h47 a0
let x2 := h47 a1
let x3 := (x1.1 == x2.1) && ((x1.2.1 == x2.2.1) && ((x1.2.2.1 == x2.2.2.1) && ((x1.2.2.2.1 == x2.2.2.2.1) && ((x1.2.2.2.2.1 == x2.2.2.2.2.1) && ((x1.2.2.2.2.2.1 == x2.2.2.2.2.2.1) && ((x1.2.2.2.2.2.2.1 == x2.2.2.2.2.2.2.1) && ((x1.2.2.2.2.2.2.2 == x2.2.2.2.2.2.2.2) && (true))))))))
(if x3 then g45 a0.2.2.1 a1.2.2.1 else some false).bind fun y4 =>
let x5 := if x3 then y4 else false
(if x5 then g48 a0.2.2.2.2.2.2.1 a1.2.2.2.2.2.2.1 else some false).bind fun y6 =>
let x7 := if x5 then y6 else false
(if x7 then g49 a0.2.2.2.2.2.2.2.2.2.2.2.2.2.2.2.2.2.2.2.2.2.2.1 a1.2.2.2.2.2.2.2.2.2.2.2.2.2.2.2.2.2.2.2.2.2.2.1 else some false).bind fun y8 =>
let x9 := if x7 then y8 else false
(if x9 then g50 (a0.2.2.2.2.2.2.2.1, a0.2.2.2.2.2.2.2.2.1, a0.2.2.2.2.2.2.2.2.2.1, a0.2.2.2.2.2.2.2.2.2.2.1, a0.2.2.2.2.2.2.2.2.2.2.2.1, a0.2.2.2.2.2.2.2.2.2.2.2.2.1, a0.2.2.2.2.2.2.2.2.2.2.2.2.2.1, a0.2.2.2.2.2.2.2.2.2.2.2.2.2.2.1, a0.2.2.2.2.2.2.2.2.2.2.2.2.2.2.2.1, a0.2.2.2.2.2.2.2.2.2.2.2.2.2.2.2.2.1, a0.2.2.2.2.2.2.2.2.2.2.2.2.2.2.2.2.2.1, a0.2.2.2.2.2.2.2.2.2.2.2.2.2.2.2.2.2.2.1, a0.2.2.2.2.2.2.2.2.2.2.2.2.2.2.2.2.2.2.2.1) (a1.2.2.2.2.2.2.2.1, a1.2.2.2.2.2.2.2.2.1, a1.2.2.2.2.2.2.2.2.2.1, a1.2.2.2.2.2.2.2.2.2.2.1, a1.2.2.2.2.2.2.2.2.2.2.2.1, a1.2.2.2.2.2.2.2.2.2.2.2.2.1, a1.2.2.2.2.2.2.2.2.2.2.2.2.2.1, a1.2.2.2.2.2.2.2.2.2.2.2.2.2.2.1, a1.2.2.2.2.2.2.2.2.2.2.2.2.2.2.2.1, a1.2.2.2.2.2.2.2.2.2.2.2.2.2.2.2.2.1, a1.2.2.2.2.2.2.2.2.2.2.2.2.2.2.2.2.2.1, a1.2.2.2.2.2.2.2.2.2.2.2.2.2.2.2.2.2.2.1, a1.2.2.2.2.2.2.2.2.2.2.2.2.2.2.2.2.2.2.2.1) else some false).bind fun y10 =>
some (if x9 then y10 else false)
noncomputable def tf18 : TF := .par ⟨[.v YSending, .v YSending], .b⟩ (fun x => g18 x.1 x.2)
theorem e18 : evFn (tabU [(45, tf45), (47, tf47), (48, tf48), (49, tf49), (50, tf50)]) ⟨F18.res, F18.keep, tf18.sg⟩ T18 = fun x => g18 x.1 x.2 := by kernel_rfl
theorem o18 : TOK (EF pg) 18 tf18 := tok_of p18 rfl (tabU_cons o45 (tabU_cons o47 (tabU_cons o48 (tabU_cons o49 (tabU_cons o50 (tabU_nil)))))) ⟨rfl, rfl, by decide⟩ rfl (rndOk_of rfl) trivial fun x y h => (congrFun e18 x).trans h
/-- heliograph/heliographlaw14.SenderSame -/
noncomputable def g4 (a0 : Sending) (a1 : Sending) : Option Bool :=
if (!true) then
(some false)
else
((g17 a0).bind fun y2 =>
(g17 a1).bind fun y3 =>
(g18 y2 y3).bind fun y4 =>
(g13 y2 y3).bind fun y5 =>
let x6 := (y4 == y5) != false
(if x6 then g19 y2 else some ((0 : Int), ((0 : Int), ([], ((0 : Int), ((0 : Int), ((0 : Int), ([], ((0 : Int), ((0 : Int), ((0 : Int), ((0 : Int), ((0 : Int), ((0 : Int), ((0 : Int), ((0 : Int), ((0 : Int), ((0 : Int), (false, ([], ([], ((0 : Int), ((0 : Int), ([], (0 : Int))))))))))))))))))))))))).bind fun y7 =>
(if x6 then g18 y2 y7 else some false).bind fun y8 =>
some (if x6 then y8 else false))
noncomputable def tf4 : TF := .par ⟨[.v YSending, .v YSending], .b⟩ (fun x => g4 x.1 x.2)
theorem e4 : evFn (tabU [(13, tf13), (17, tf17), (18, tf18), (19, tf19)]) ⟨F4.res, F4.keep, tf4.sg⟩ T4 = fun x => g4 x.1 x.2 := by kernel_rfl
theorem o4 : TOK1 (EF pg) (run1 E4 (EF pg)) tf4 := tok_run rfl (tabU_cons o13 (tabU_cons o17 (tabU_cons o18 (tabU_cons o19 (tabU_nil))))) ⟨rfl, rfl, by decide⟩ rfl (rndOk_of rfl) fun x y h => (congrFun e4 x).trans h
theorem v4 (ds : List D) : EF pg 4 ds [] = run1 E4 (EF pg) ds [] := (EF_run1 p4 rfl ds []).trans (wk_run1 (F := F4) (F' := E4) wakes_ok rfl rfl ds)
/-- heliograph/segment.Check -/
noncomputable def g44 (a0 : Segment) : Option Int :=
let x3 := if (h68 a0.2.1 (1 : Int) (6 : Int)) then (decide (a0.2.2.1 > (0 : Int))) else false
(
if (a0.1 == (1 : Int)) then
(let x5 := (a0.2.2.2.2.2.2.2.2.2.2.2.1.length : Int)
some (((if (if (if (if x3 then (h68 a0.2.2.2.2.2.2.1 (1 : Int) (512 : Int)) else false) then (h68 x5 (1 : Int) (100 : Int)) else false) then (h68 a0.2.2.2.2.2.1 (0 : Int) (IntKind.i64.wrap (a0.2.2.2.2.2.2.1 - x5))) else false) then ((a0.2.2.2.2.2.2.2.2.2.2.1 == (decide (a0.2.2.2.1 > (0 : Int)))) != false) else false), a0.1, a0.2.1, a0.2.2.1, a0.2.2.2.1, a0.2.2.2.2.1, a0.2.2.2.2.2.1, a0.2.2.2.2.2.2.1, a0.2.2.2.2.2.2.2.1, a0.2.2.2.2.2.2.2.2.1, a0.2.2.2.2.2.2.2.2.2.1, a0.2.2.2.2.2.2.2.2.2.2.1, a0.2.2.2.2.2.2.2.2.2.2.2.1, a0.2.2.2.2.2.2.2.2.2.2.2.2, a0.1, a0.2.1, a0.2.2.1, a0.2.2.2.1, (0 : Int), a0.2.2.2.2.2.1, a0.2.2.2.2.2.2.1, (0 : Int), (0 : Int), (0 : Int), a0.2.2.2.2.2.2.2.2.2.2.1, a0.2.2.2.2.2.2.2.2.2.2.2.1, [])))
else
(
if (a0.1 == (2 : Int)) then
(
let x25 := if (if (if (if x3 then (decide (a0.2.2.2.1 > (0 : Int))) else false) then (decide (a0.2.2.2.2.1 > (0 : Int))) else false) then (h68 a0.2.2.2.2.2.2.2.2.1 (1 : Int) (512 : Int)) else false) then (h68 a0.2.2.2.2.2.2.2.1 (0 : Int) (IntKind.i64.wrap (a0.2.2.2.2.2.2.2.2.1 - (1 : Int)))) else false
(if x25 then g69 a0.2.2.2.2.2.2.2.2.2.2.2.2 a0.2.2.2.2.2.2.2.1 a0.2.2.2.2.2.2.2.2.1 else some false).bind fun y26 =>
some (((if x25 then y26 else false), a0.1, a0.2.1, a0.2.2.1, a0.2.2.2.1, a0.2.2.2.2.1, a0.2.2.2.2.2.1, a0.2.2.2.2.2.2.1, a0.2.2.2.2.2.2.2.1, a0.2.2.2.2.2.2.2.2.1, a0.2.2.2.2.2.2.2.2.2.1, a0.2.2.2.2.2.2.2.2.2.2.1, a0.2.2.2.2.2.2.2.2.2.2.2.1, a0.2.2.2.2.2.2.2.2.2.2.2.2, a0.1, a0.2.1, a0.2.2.1, a0.2.2.2.1, a0.2.2.2.2.1, (0 : Int), (0 : Int), a0.2.2.2.2.2.2.2.1, a0.2.2.2.2.2.2.2.2.1, (0 : Int), false, [], a0.2.2.2.2.2.2.2.2.2.2.2.2)))
else
(
if (a0.1 == (3 : Int)) then
(
some (((if x3 then (decide (a0.2.2.2.1 > (0 : Int))) else false), a0.1, a0.2.1, a0.2.2.1, a0.2.2.2.1, a0.2.2.2.2.1, a0.2.2.2.2.2.1, a0.2.2.2.2.2.2.1, a0.2.2.2.2.2.2.2.1, a0.2.2.2.2.2.2.2.2.1, a0.2.2.2.2.2.2.2.2.2.1, a0.2.2.2.2.2.2.2.2.2.2.1, a0.2.2.2.2.2.2.2.2.2.2.2.1, a0.2.2.2.2.2.2.2.2.2.2.2.2, a0.1, a0.2.1, a0.2.2.1, a0.2.2.2.1, (0 : Int), (0 : Int), (0 : Int), (0 : Int), (0 : Int), (0 : Int), false, [], [])))
else
((let x31 := a0.1 == (4 : Int)
if x31 then
(some ((x3, a0.1, x31, a0.1, a0.2.1, a0.2.2.1, a0.2.2.2.1, a0.2.2.2.2.1, a0.2.2.2.2.2.1, a0.2.2.2.2.2.2.1, a0.2.2.2.2.2.2.2.1, a0.2.2.2.2.2.2.2.2.1, a0.2.2.2.2.2.2.2.2.2.1, a0.2.2.2.2.2.2.2.2.2.2.1, a0.2.2.2.2.2.2.2.2.2.2.2.1, a0.2.2.2.2.2.2.2.2.2.2.2.2, a0.1, a0.2.1, a0.2.2.1, (0 : Int), (0 : Int), (0 : Int), (0 : Int), (0 : Int), (0 : Int), (0 : Int), false)))
else
(
some ((x3, a0.1, (a0.1 == (6 : Int)), a0.1, a0.2.1, a0.2.2.1, a0.2.2.2.1, a0.2.2.2.2.1, a0.2.2.2.2.2.1, a0.2.2.2.2.2.2.1, a0.2.2.2.2.2.2.2.1, a0.2.2.2.2.2.2.2.2.1, a0.2.2.2.2.2.2.2.2.2.1, a0.2.2.2.2.2.2.2.2.2.2.1, a0.2.2.2.2.2.2.2.2.2.2.2.1, a0.2.2.2.2.2.2.2.2.2.2.2.2, a0.1, a0.2.1, a0.2.2.1, (0 : Int), (0 : Int), (0 : Int), (0 : Int), (0 : Int), (0 : Int), (0 : Int), false)))).bind fun z33 =>
if z33.2.2.1 then
(
some (((if z33.1 then (h68 z33.2.2.2.2.2.2.2.2.2.2.2.2.1 (0 : Int) (255 : Int)) else false), z33.2.2.2.1, z33.2.2.2.2.1, z33.2.2.2.2.2.1, z33.2.2.2.2.2.2.1, z33.2.2.2.2.2.2.2.1, z33.2.2.2.2.2.2.2.2.1, z33.2.2.2.2.2.2.2.2.2.1, z33.2.2.2.2.2.2.2.2.2.2.1, z33.2.2.2.2.2.2.2.2.2.2.2.1, z33.2.2.2.2.2.2.2.2.2.2.2.2.1, z33.2.2.2.2.2.2.2.2.2.2.2.2.2.1, z33.2.2.2.2.2.2.2.2.2.2.2.2.2.2.1, z33.2.2.2.2.2.2.2.2.2.2.2.2.2.2.2.1, z33.2.2.2.2.2.2.2.2.2.2.2.2.2.2.2.2.1, z33.2.2.2.2.2.2.2.2.2.2.2.2.2.2.2.2.2.1, z33.2.2.2.2.2.2.2.2.2.2.2.2.2.2.2.2.2.2.1, z33.2.2.2.2.2.2.2.2.2.2.2.2.2.2.2.2.2.2.2.1, z33.2.2.2.2.2.2.2.2.2.2.2.2.2.2.2.2.2.2.2.2.1, z33.2.2.2.2.2.2.2.2.2.2.2.2.2.2.2.2.2.2.2.2.2.1, z33.2.2.2.2.2.2.2.2.2.2.2.2.2.2.2.2.2.2.2.2.2.2.1, z33.2.2.2.2.2.2.2.2.2.2.2.2.2.2.2.2.2.2.2.2.2.2.2.1, z33.2.2.2.2.2.2.2.2.2.2.2.2.2.2.2.2.2.2.2.2.2.2.2.2.1, z33.2.2.2.2.2.2.2.2.2.2.2.2.1, z33.2.2.2.2.2.2.2.2.2.2.2.2.2.2.2.2.2.2.2.2.2.2.2.2.2.2, [], [])))
else
(let x36 := z33.2.1 == (5 : Int)
if x36 then
(if x36 then
(some ((z33.1, z33.2.2.2.1, z33.2.2.2.2.1, z33.2.2.2.2.2.1, z33.2.2.2.2.2.2.1, z33.2.2.2.2.2.2.2.1, z33.2.2.2.2.2.2.2.2.1, z33.2.2.2.2.2.2.2.2.2.1, z33.2.2.2.2.2.2.2.2.2.2.1, z33.2.2.2.2.2.2.2.2.2.2.2.1, z33.2.2.2.2.2.2.2.2.2.2.2.2.1, z33.2.2.2.2.2.2.2.2.2.2.2.2.2.1, z33.2.2.2.2.2.2.2.2.2.2.2.2.2.2.1, z33.2.2.2.2.2.2.2.2.2.2.2.2.2.2.2.1, z33.2.2.2.2.2.2.2.2.2.2.2.2.2.2.2.2.1, z33.2.2.2.2.2.2.2.2.2.2.2.2.2.2.2.2.2.1, z33.2.2.2.2.2.2.2.2.2.2.2.2.2.2.2.2.2.2.1, z33.2.2.2.2.2.2.2.2.2.2.2.2.2.2.2.2.2.2.2.1, z33.2.2.2.2.2.2.2.2.2.2.2.2.2.2.2.2.2.2.2.2.1, z33.2.2.2.2.2.2.2.2.2.2.2.2.2.2.2.2.2.2.2.2.2.1, z33.2.2.2.2.2.2.2.2.2.2.2.2.2.2.2.2.2.2.2.2.2.2.1, z33.2.2.2.2.2.2.2.2.2.2.2.2.2.2.2.2.2.2.2.2.2.2.2.1, z33.2.2.2.2.2.2.2.2.2.2.2.2.2.2.2.2.2.2.2.2.2.2.2.2.1, z33.2.2.2.2.2.2.2.2.2.2.2.2.2.2.2.2.2.2.2.2.2.2.2.2.2.1, z33.2.2.2.2.2.2.2.2.2.2.2.2.2.2.2.2.2.2.2.2.2.2.2.2.2.2, [], [])))
else
(some ((false, z33.2.2.2.1, z33.2.2.2.2.1, z33.2.2.2.2.2.1, z33.2.2.2.2.2.2.1, z33.2.2.2.2.2.2.2.1, z33.2.2.2.2.2.2.2.2.1, z33.2.2.2.2.2.2.2.2.2.1, z33.2.2.2.2.2.2.2.2.2.2.1, z33.2.2.2.2.2.2.2.2.2.2.2.1, z33.2.2.2.2.2.2.2.2.2.2.2.2.1, z33.2.2.2.2.2.2.2.2.2.2.2.2.2.1, z33.2.2.2.2.2.2.2.2.2.2.2.2.2.2.1, z33.2.2.2.2.2.2.2.2.2.2.2.2.2.2.2.1, z33.2.2.2.2.2.2.2.2.2.2.2.2.2.2.2.2.1, z33.2.2.2.2.2.2.2.2.2.2.2.2.2.2.2.2.2.1, z33.2.2.2.2.2.2.2.2.2.2.2.2.2.2.2.2.2.2.1, z33.2.2.2.2.2.2.2.2.2.2.2.2.2.2.2.2.2.2.2.1, z33.2.2.2.2.2.2.2.2.2.2.2.2.2.2.2.2.2.2.2.2.1, z33.2.2.2.2.2.2.2.2.2.2.2.2.2.2.2.2.2.2.2.2.2.1, z33.2.2.2.2.2.2.2.2.2.2.2.2.2.2.2.2.2.2.2.2.2.2.1, z33.2.2.2.2.2.2.2.2.2.2.2.2.2.2.2.2.2.2.2.2.2.2.2.1, z33.2.2.2.2.2.2.2.2.2.2.2.2.2.2.2.2.2.2.2.2.2.2.2.2.1, z33.2.2.2.2.2.2.2.2.2.2.2.2.2.2.2.2.2.2.2.2.2.2.2.2.2.1, z33.2.2.2.2.2.2.2.2.2.2.2.2.2.2.2.2.2.2.2.2.2.2.2.2.2.2, [], []))))
else
(
if (z33.2.1 == (7 : Int)) then
(some ((z33.1, z33.2.2.2.1, z33.2.2.2.2.1, z33.2.2.2.2.2.1, z33.2.2.2.2.2.2.1, z33.2.2.2.2.2.2.2.1, z33.2.2.2.2.2.2.2.2.1, z33.2.2.2.2.2.2.2.2.2.1, z33.2.2.2.2.2.2.2.2.2.2.1, z33.2.2.2.2.2.2.2.2.2.2.2.1, z33.2.2.2.2.2.2.2.2.2.2.2.2.1, z33.2.2.2.2.2.2.2.2.2.2.2.2.2.1, z33.2.2.2.2.2.2.2.2.2.2.2.2.2.2.1, z33.2.2.2.2.2.2.2.2.2.2.2.2.2.2.2.1, z33.2.2.2.2.2.2.2.2.2.2.2.2.2.2.2.2.1, z33.2.2.2.2.2.2.2.2.2.2.2.2.2.2.2.2.2.1, z33.2.2.2.2.2.2.2.2.2.2.2.2.2.2.2.2.2.2.1, z33.2.2.2.2.2.2.2.2.2.2.2.2.2.2.2.2.2.2.2.1, z33.2.2.2.2.2.2.2.2.2.2.2.2.2.2.2.2.2.2.2.2.1, z33.2.2.2.2.2.2.2.2.2.2.2.2.2.2.2.2.2.2.2.2.2.1, z33.2.2.2.2.2.2.2.2.2.2.2.2.2.2.2.2.2.2.2.2.2.2.1, z33.2.2.2.2.2.2.2.2.2.2.2.2.2.2.2.2.2.2.2.2.2.2.2.1, z33.2.2.2.2.2.2.2.2.2.2.2.2.2.2.2.2.2.2.2.2.2.2.2.2.1, z33.2.2.2.2.2.2.2.2.2.2.2.2.2.2.2.2.2.2.2.2.2.2.2.2.2.1, z33.2.2.2.2.2.2.2.2.2.2.2.2.2.2.2.2.2.2.2.2.2.2.2.2.2.2, [], [])))
else
(some ((false, z33.2.2.2.1, z33.2.2.2.2.1, z33.2.2.2.2.2.1, z33.2.2.2.2.2.2.1, z33.2.2.2.2.2.2.2.1, z33.2.2.2.2.2.2.2.2.1, z33.2.2.2.2.2.2.2.2.2.1, z33.2.2.2.2.2.2.2.2.2.2.1, z33.2.2.2.2.2.2.2.2.2.2.2.1, z33.2.2.2.2.2.2.2.2.2.2.2.2.1, z33.2.2.2.2.2.2.2.2.2.2.2.2.2.1, z33.2.2.2.2.2.2.2.2.2.2.2.2.2.2.1, z33.2.2.2.2.2.2.2.2.2.2.2.2.2.2.2.1, z33.2.2.2.2.2.2.2.2.2.2.2.2.2.2.2.2.1, z33.2.2.2.2.2.2.2.2.2.2.2.2.2.2.2.2.2.1, z33.2.2.2.2.2.2.2.2.2.2.2.2.2.2.2.2.2.2.1, z33.2.2.2.2.2.2.2.2.2.2.2.2.2.2.2.2.2.2.2.1, z33.2.2.2.2.2.2.2.2.2.2.2.2.2.2.2.2.2.2.2.2.1, z33.2.2.2.2.2.2.2.2.2.2.2.2.2.2.2.2.2.2.2.2.2.1, z33.2.2.2.2.2.2.2.2.2.2.2.2.2.2.2.2.2.2.2.2.2.2.1, z33.2.2.2.2.2.2.2.2.2.2.2.2.2.2.2.2.2.2.2.2.2.2.2.1, z33.2.2.2.2.2.2.2.2.2.2.2.2.2.2.2.2.2.2.2.2.2.2.2.2.1, z33.2.2.2.2.2.2.2.2.2.2.2.2.2.2.2.2.2.2.2.2.2.2.2.2.2.1, z33.2.2.2.2.2.2.2.2.2.2.2.2.2.2.2.2.2.2.2.2.2.2.2.2.2.2, [], []))))))))).bind fun z38 =>
let x39 := !z38.1
(if (!x39) then g50 (z38.2.1, z38.2.2.1, z38.2.2.2.1, z38.2.2.2.2.1, z38.2.2.2.2.2.1, z38.2.2.2.2.2.2.1, z38.2.2.2.2.2.2.2.1, z38.2.2.2.2.2.2.2.2.1, z38.2.2.2.2.2.2.2.2.2.1, z38.2.2.2.2.2.2.2.2.2.2.1, z38.2.2.2.2.2.2.2.2.2.2.2.1, z38.2.2.2.2.2.2.2.2.2.2.2.2.1, z38.2.2.2.2.2.2.2.2.2.2.2.2.2.1) z38.2.2.2.2.2.2.2.2.2.2.2.2.2.2 else some false).bind fun y40 =>
if (if x39 then true else (!y40)) then
(some (200 : Int))
else
(some (0 : Int))
noncomputable def tf44 : TF := .par ⟨[.v YSegment], (.i .i64)⟩ (fun x => g44 x)
theorem e44 : evFn (tabU [(50, tf50), (68, tf68), (69, tf69)]) ⟨F44.res, F44.keep, tf44.sg⟩ T44 = fun x => g44 x := by kernel_rfl
theorem o44 : TOK (EF pg) 44 tf44 := tok_of p44 rfl (tabU_cons o50 (tabU_cons o68 (tabU_cons o69 (tabU_nil)))) ⟨rfl, rfl, by decide⟩ rfl (rndOk_of rfl) trivial fun x y h => (congrFun e44 x).trans h
/-- heliograph/sender.Check -/
noncomputable def g15 (a0 : Sending) : Option Int :=
let x1 := (a0.2.2.1.length : Int)
(
let x3 := !(h35 (a0.1, a0.2.1, a0.2.2.1, a0.2.2.2.1, a0.2.2.2.2.1))
if x3 then
(some ((x1, x3, a0.1, a0.2.1, a0.2.2.1, a0.2.2.2.1, a0.2.2.2.2.1, a0.2.2.2.2.2.1, a0.2.2.2.2.2.2.1, a0.2.2.2.2.2.2.2.1, a0.2.2.2.2.2.2.2.2.1, a0.2.2.2.2.2.2.2.2.2.1, a0.2.2.2.2.2.2.2.2.2.2.1, a0.2.2.2.2.2.2.2.2.2.2.2.1, a0.2.2.2.2.2.2.2.2.2.2.2.2.1, a0.2.2.2.2.2.2.2.2.2.2.2.2.2.1, a0.2.2.2.2.2.2.2.2.2.2.2.2.2.2.1, a0.2.2.2.2.2.2.2.2.2.2.2.2.2.2.2.1, a0.2.2.2.2.2.2.2.2.2.2.2.2.2.2.2.2.1, a0.2.2.2.2.2.2.2.2.2.2.2.2.2.2.2.2.2.1, a0.2.2.2.2.2.2.2.2.2.2.2.2.2.2.2.2.2.2.1, a0.2.2.2.2.2.2.2.2.2.2.2.2.2.2.2.2.2.2.2.1, a0.2.2.2.2.2.2.2.2.2.2.2.2.2.2.2.2.2.2.2.2.1, a0.2.2.2.2.2.2.2.2.2.2.2.2.2.2.2.2.2.2.2.2.2.1, a0.2.2.2.2.2.2.2.2.2.2.2.2.2.2.2.2.2.2.2.2.2.2.1, a0.2.2.2.2.2.2.2.2.2.2.2.2.2.2.2.2.2.2.2.2.2.2.2, a0.2.2.2.2.2.2.2.1, a0.2.2.2.2.2.2.2.2.1, a0.2.2.2.2.2.2.2.2.2.1, a0.2.2.2.2.2.2.2.2.2.2.1, a0.2.2.2.2.2.2.2.2.2.2.2.1, a0.2.2.2.2.2.2.2.2.2.2.2.2.1, a0.2.2.2.2.2.2.2.2.2.2.2.2.2.1, a0.2.2.2.2.2.2.2.2.2.2.2.2.2.2.1, a0.2.2.2.2.2.2.2.2.2.2.2.2.2.2.2.1, a0.2.2.2.2.2.2.2.2.2.2.2.2.2.2.2.2.1, a0.2.2.2.2.2.2.2.2.2.2.2.2.2.2.2.2.2.1, a0.2.2.2.2.2.2.2.2.2.2.2.2.2.2.2.2.2.2.1, a0.2.2.2.2.2.2.2.2.2.2.2.2.2.2.2.2.2.2.2.1)))
else
(
let x5 := !(h42 a0.2.2.2.2.2.1 (1 : Int) (4 : Int))
if x5 then
(some ((x1, x5, a0.1, a0.2.1, a0.2.2.1, a0.2.2.2.1, a0.2.2.2.2.1, a0.2.2.2.2.2.1, a0.2.2.2.2.2.2.1, a0.2.2.2.2.2.2.2.1, a0.2.2.2.2.2.2.2.2.1, a0.2.2.2.2.2.2.2.2.2.1, a0.2.2.2.2.2.2.2.2.2.2.1, a0.2.2.2.2.2.2.2.2.2.2.2.1, a0.2.2.2.2.2.2.2.2.2.2.2.2.1, a0.2.2.2.2.2.2.2.2.2.2.2.2.2.1, a0.2.2.2.2.2.2.2.2.2.2.2.2.2.2.1, a0.2.2.2.2.2.2.2.2.2.2.2.2.2.2.2.1, a0.2.2.2.2.2.2.2.2.2.2.2.2.2.2.2.2.1, a0.2.2.2.2.2.2.2.2.2.2.2.2.2.2.2.2.2.1, a0.2.2.2.2.2.2.2.2.2.2.2.2.2.2.2.2.2.2.1, a0.2.2.2.2.2.2.2.2.2.2.2.2.2.2.2.2.2.2.2.1, a0.2.2.2.2.2.2.2.2.2.2.2.2.2.2.2.2.2.2.2.2.1, a0.2.2.2.2.2.2.2.2.2.2.2.2.2.2.2.2.2.2.2.2.2.1, a0.2.2.2.2.2.2.2.2.2.2.2.2.2.2.2.2.2.2.2.2.2.2.1, a0.2.2.2.2.2.2.2.2.2.2.2.2.2.2.2.2.2.2.2.2.2.2.2, a0.2.2.2.2.2.2.2.1, a0.2.2.2.2.2.2.2.2.1, a0.2.2.2.2.2.2.2.2.2.1, a0.2.2.2.2.2.2.2.2.2.2.1, a0.2.2.2.2.2.2.2.2.2.2.2.1, a0.2.2.2.2.2.2.2.2.2.2.2.2.1, a0.2.2.2.2.2.2.2.2.2.2.2.2.2.1, a0.2.2.2.2.2.2.2.2.2.2.2.2.2.2.1, a0.2.2.2.2.2.2.2.2.2.2.2.2.2.2.2.1, a0.2.2.2.2.2.2.2.2.2.2.2.2.2.2.2.2.1, a0.2.2.2.2.2.2.2.2.2.2.2.2.2.2.2.2.2.1, a0.2.2.2.2.2.2.2.2.2.2.2.2.2.2.2.2.2.2.1, a0.2.2.2.2.2.2.2.2.2.2.2.2.2.2.2.2.2.2.2.1)))
else
((g43 a0.2.2.2.2.2.2.1 x1).bind fun y6 =>
some ((x1, (!y6), a0.1, a0.2.1, a0.2.2.1, a0.2.2.2.1, a0.2.2.2.2.1, a0.2.2.2.2.2.1, a0.2.2.2.2.2.2.1, a0.2.2.2.2.2.2.2.1, a0.2.2.2.2.2.2.2.2.1, a0.2.2.2.2.2.2.2.2.2.1, a0.2.2.2.2.2.2.2.2.2.2.1, a0.2.2.2.2.2.2.2.2.2.2.2.1, a0.2.2.2.2.2.2.2.2.2.2.2.2.1, a0.2.2.2.2.2.2.2.2.2.2.2.2.2.1, a0.2.2.2.2.2.2.2.2.2.2.2.2.2.2.1, a0.2.2.2.2.2.2.2.2.2.2.2.2.2.2.2.1, a0.2.2.2.2.2.2.2.2.2.2.2.2.2.2.2.2.1, a0.2.2.2.2.2.2.2.2.2.2.2.2.2.2.2.2.2.1, a0.2.2.2.2.2.2.2.2.2.2.2.2.2.2.2.2.2.2.1, a0.2.2.2.2.2.2.2.2.2.2.2.2.2.2.2.2.2.2.2.1, a0.2.2.2.2.2.2.2.2.2.2.2.2.2.2.2.2.2.2.2.2.1, a0.2.2.2.2.2.2.2.2.2.2.2.2.2.2.2.2.2.2.2.2.2.1, a0.2.2.2.2.2.2.2.2.2.2.2.2.2.2.2.2.2.2.2.2.2.2.1, a0.2.2.2.2.2.2.2.2.2.2.2.2.2.2.2.2.2.2.2.2.2.2.2, a0.2.2.2.2.2.2.2.1, a0.2.2.2.2.2.2.2.2.1, a0.2.2.2.2.2.2.2.2.2.1, a0.2.2.2.2.2.2.2.2.2.2.1, a0.2.2.2.2.2.2.2.2.2.2.2.1, a0.2.2.2.2.2.2.2.2.2.2.2.2.1, a0.2.2.2.2.2.2.2.2.2.2.2.2.2.1, a0.2.2.2.2.2.2.2.2.2.2.2.2.2.2.1, a0.2.2.2.2.2.2.2.2.2.2.2.2.2.2.2.1, a0.2.2.2.2.2.2.2.2.2.2.2.2.2.2.2.2.1, a0.2.2.2.2.2.2.2.2.2.2.2.2.2.2.2.2.2.1, a0.2.2.2.2.2.2.2.2.2.2.2.2.2.2.2.2.2.2.1, a0.2.2.2.2.2.2.2.2.2.2.2.2.2.2.2.2.2.2.2.1))))).bind fun z8 =>
if z8.2.1 then
(some (240 : Int))
else
(((g44 z8.2.2.2.2.2.2.2.2.2.2.2.2.2.2.2.2.2.2.2.2.2.2.2.2.2.2).bind fun y9 =>
let x10 := y9 != (0 : Int)
if x10 then
(some ((x10, z8.2.2.1, z8.2.2.2.1, z8.2.2.2.2.1, z8.2.2.2.2.2.1, z8.2.2.2.2.2.2.1, z8.2.2.2.2.2.2.2.1, z8.2.2.2.2.2.2.2.2.1, z8.2.2.2.2.2.2.2.2.2.1, z8.2.2.2.2.2.2.2.2.2.2.1, z8.2.2.2.2.2.2.2.2.2.2.2.1, z8.2.2.2.2.2.2.2.2.2.2.2.2.1, z8.2.2.2.2.2.2.2.2.2.2.2.2.2.1, z8.2.2.2.2.2.2.2.2.2.2.2.2.2.2.1, z8.2.2.2.2.2.2.2.2.2.2.2.2.2.2.2.1, z8.2.2.2.2.2.2.2.2.2.2.2.2.2.2.2.2.1, z8.2.2.2.2.2.2.2.2.2.2.2.2.2.2.2.2.2.1, z8.2.2.2.2.2.2.2.2.2.2.2.2.2.2.2.2.2.2.1, z8.2.2.2.2.2.2.2.2.2.2.2.2.2.2.2.2.2.2.2.1, z8.2.2.2.2.2.2.2.2.2.2.2.2.2.2.2.2.2.2.2.2.1, z8.2.2.2.2.2.2.2.2.2.2.2.2.2.2.2.2.2.2.2.2.2.1, z8.2.2.2.2.2.2.2.2.2.2.2.2.2.2.2.2.2.2.2.2.2.2.1, z8.2.2.2.2.2.2.2.2.2.2.2.2.2.2.2.2.2.2.2.2.2.2.2.1, z8.2.2.2.2.2.2.2.2.2.2.2.2.2.2.2.2.2.2.2.2.2.2.2.2.1, z8.2.2.2.2.2.2.2.2.2.2.2.2.2.2.2.2.2.2.2.2.2.2.2.2.2.1, z8.2.2.2.2.2.2.2.2.2.2.2.2.2.2.2.2.2.2.2.2.2.2.2.2.2.2.1, z8.2.2.2.2.2.2.2.2.2.2.2.2.2.2.2.2.2.2.2.2.2.2.2.2.2.2.2.1, z8.2.2.2.2.2.2.2.2.2.2.2.2.2.2.2.2.2.2.2.2.2.2.2.2.2.2.2.2.1, z8.2.2.2.2.2.2.2.2.2.2.2.2.2.2.2.2.2.2.2.2.2.2.2.2.2.2.2.2.2.1, z8.2.2.2.2.2.2.2.2.2.2.2.2.2.2.2.2.2.2.2.2.2.2.2.2.2.2.2.2.2.2.1, z8.2.2.2.2.2.2.2.2.2.2.2.2.2.2.2.2.2.2.2.2.2.2.2.2.2.2.2.2.2.2.2.1, z8.2.2.2.2.2.2.2.2.2.2.2.2.2.2.2.2.2.2.2.2.2.2.2.2.2.2.2.2.2.2.2.2.1, z8.2.2.2.2.2.2.2.2.2.2.2.2.2.2.2.2.2.2.2.2.2.2.2.2.2.2.2.2.2.2.2.2.2.1, z8.2.2.2.2.2.2.2.2.2.2.2.2.2.2.2.2.2.2.2.2.2.2.2.2.2.2.2.2.2.2.2.2.2.2.1, z8.2.2.2.2.2.2.2.2.2.2.2.2.2.2.2.2.2.2.2.2.2.2.2.2.2.2.2.2.2.2.2.2.2.2.2.1, z8.2.2.2.2.2.2.2.2.2.2.2.2.2.2.2.2.2.2.2.2.2.2.2.2.2.2.2.2.2.2.2.2.2.2.2.2.1, z8.2.2.2.2.2.2.2.2.2.2.2.2.2.2.2.2.2.2.2.2.2.2.2.2.2.2.2.2.2.2.2.2.2.2.2.2.2.1, z8.2.2.2.2.2.2.2.2.2.2.2.2.2.2.2.2.2.2.2.2.2.2.2.2.2.2.2.2.2.2.2.2.2.2.2.2.2.2)))
else
(let x11 := z8.2.2.2.2.2.2.2.2.2.2.2.2.2.2.2.2.2.2.2.2.2.2.2.2.2.2.1 != (1 : Int)
if x11 then
(some ((x11, z8.2.2.1, z8.2.2.2.1, z8.2.2.2.2.1, z8.2.2.2.2.2.1, z8.2.2.2.2.2.2.1, z8.2.2.2.2.2.2.2.1, z8.2.2.2.2.2.2.2.2.1, z8.2.2.2.2.2.2.2.2.2.1, z8.2.2.2.2.2.2.2.2.2.2.1, z8.2.2.2.2.2.2.2.2.2.2.2.1, z8.2.2.2.2.2.2.2.2.2.2.2.2.1, z8.2.2.2.2.2.2.2.2.2.2.2.2.2.1, z8.2.2.2.2.2.2.2.2.2.2.2.2.2.2.1, z8.2.2.2.2.2.2.2.2.2.2.2.2.2.2.2.1, z8.2.2.2.2.2.2.2.2.2.2.2.2.2.2.2.2.1, z8.2.2.2.2.2.2.2.2.2.2.2.2.2.2.2.2.2.1, z8.2.2.2.2.2.2.2.2.2.2.2.2.2.2.2.2.2.2.1, z8.2.2.2.2.2.2.2.2.2.2.2.2.2.2.2.2.2.2.2.1, z8.2.2.2.2.2.2.2.2.2.2.2.2.2.2.2.2.2.2.2.2.1, z8.2.2.2.2.2.2.2.2.2.2.2.2.2.2.2.2.2.2.2.2.2.1, z8.2.2.2.2.2.2.2.2.2.2.2.2.2.2.2.2.2.2.2.2.2.2.1, z8.2.2.2.2.2.2.2.2.2.2.2.2.2.2.2.2.2.2.2.2.2.2.2.1, z8.2.2.2.2.2.2.2.2.2.2.2.2.2.2.2.2.2.2.2.2.2.2.2.2.1, z8.2.2.2.2.2.2.2.2.2.2.2.2.2.2.2.2.2.2.2.2.2.2.2.2.2.1, z8.2.2.2.2.2.2.2.2.2.2.2.2.2.2.2.2.2.2.2.2.2.2.2.2.2.2.1, z8.2.2.2.2.2.2.2.2.2.2.2.2.2.2.2.2.2.2.2.2.2.2.2.2.2.2.2.1, z8.2.2.2.2.2.2.2.2.2.2.2.2.2.2.2.2.2.2.2.2.2.2.2.2.2.2.2.2.1, z8.2.2.2.2.2.2.2.2.2.2.2.2.2.2.2.2.2.2.2.2.2.2.2.2.2.2.2.2.2.1, z8.2.2.2.2.2.2.2.2.2.2.2.2.2.2.2.2.2.2.2.2.2.2.2.2.2.2.2.2.2.2.1, z8.2.2.2.2.2.2.2.2.2.2.2.2.2.2.2.2.2.2.2.2.2.2.2.2.2.2.2.2.2.2.2.1, z8.2.2.2.2.2.2.2.2.2.2.2.2.2.2.2.2.2.2.2.2.2.2.2.2.2.2.2.2.2.2.2.2.1, z8.2.2.2.2.2.2.2.2.2.2.2.2.2.2.2.2.2.2.2.2.2.2.2.2.2.2.2.2.2.2.2.2.2.1, z8.2.2.2.2.2.2.2.2.2.2.2.2.2.2.2.2.2.2.2.2.2.2.2.2.2.2.2.2.2.2.2.2.2.2.1, z8.2.2.2.2.2.2.2.2.2.2.2.2.2.2.2.2.2.2.2.2.2.2.2.2.2.2.2.2.2.2.2.2.2.2.2.1, z8.2.2.2.2.2.2.2.2.2.2.2.2.2.2.2.2.2.2.2.2.2.2.2.2.2.2.2.2.2.2.2.2.2.2.2.2.1, z8.2.2.2.2.2.2.2.2.2.2.2.2.2.2.2.2.2.2.2.2.2.2.2.2.2.2.2.2.2.2.2.2.2.2.2.2.2.1, z8.2.2.2.2.2.2.2.2.2.2.2.2.2.2.2.2.2.2.2.2.2.2.2.2.2.2.2.2.2.2.2.2.2.2.2.2.2.2)))
else
(let x12 := !z8.2.2.2.2.2.2.2.2.2.2.2.2.2.2.2.2.2.2.2.2.2.2.2.2.2.2.2.2.2.2.2.2.2.2.2.2.1
if x12 then
(some ((x12, z8.2.2.1, z8.2.2.2.1, z8.2.2.2.2.1, z8.2.2.2.2.2.1, z8.2.2.2.2.2.2.1, z8.2.2.2.2.2.2.2.1, z8.2.2.2.2.2.2.2.2.1, z8.2.2.2.2.2.2.2.2.2.1, z8.2.2.2.2.2.2.2.2.2.2.1, z8.2.2.2.2.2.2.2.2.2.2.2.1, z8.2.2.2.2.2.2.2.2.2.2.2.2.1, z8.2.2.2.2.2.2.2.2.2.2.2.2.2.1, z8.2.2.2.2.2.2.2.2.2.2.2.2.2.2.1, z8.2.2.2.2.2.2.2.2.2.2.2.2.2.2.2.1, z8.2.2.2.2.2.2.2.2.2.2.2.2.2.2.2.2.1, z8.2.2.2.2.2.2.2.2.2.2.2.2.2.2.2.2.2.1, z8.2.2.2.2.2.2.2.2.2.2.2.2.2.2.2.2.2.2.1, z8.2.2.2.2.2.2.2.2.2.2.2.2.2.2.2.2.2.2.2.1, z8.2.2.2.2.2.2.2.2.2.2.2.2.2.2.2.2.2.2.2.2.1, z8.2.2.2.2.2.2.2.2.2.2.2.2.2.2.2.2.2.2.2.2.2.1, z8.2.2.2.2.2.2.2.2.2.2.2.2.2.2.2.2.2.2.2.2.2.2.1, z8.2.2.2.2.2.2.2.2.2.2.2.2.2.2.2.2.2.2.2.2.2.2.2.1, z8.2.2.2.2.2.2.2.2.2.2.2.2.2.2.2.2.2.2.2.2.2.2.2.2.1, z8.2.2.2.2.2.2.2.2.2.2.2.2.2.2.2.2.2.2.2.2.2.2.2.2.2.1, z8.2.2.2.2.2.2.2.2.2.2.2.2.2.2.2.2.2.2.2.2.2.2.2.2.2.2.1, z8.2.2.2.2.2.2.2.2.2.2.2.2.2.2.2.2.2.2.2.2.2.2.2.2.2.2.2.1, z8.2.2.2.2.2.2.2.2.2.2.2.2.2.2.2.2.2.2.2.2.2.2.2.2.2.2.2.2.1, z8.2.2.2.2.2.2.2.2.2.2.2.2.2.2.2.2.2.2.2.2.2.2.2.2.2.2.2.2.2.1, z8.2.2.2.2.2.2.2.2.2.2.2.2.2.2.2.2.2.2.2.2.2.2.2.2.2.2.2.2.2.2.1, z8.2.2.2.2.2.2.2.2.2.2.2.2.2.2.2.2.2.2.2.2.2.2.2.2.2.2.2.2.2.2.2.1, z8.2.2.2.2.2.2.2.2.2.2.2.2.2.2.2.2.2.2.2.2.2.2.2.2.2.2.2.2.2.2.2.2.1, z8.2.2.2.2.2.2.2.2.2.2.2.2.2.2.2.2.2.2.2.2.2.2.2.2.2.2.2.2.2.2.2.2.2.1, z8.2.2.2.2.2.2.2.2.2.2.2.2.2.2.2.2.2.2.2.2.2.2.2.2.2.2.2.2.2.2.2.2.2.2.1, z8.2.2.2.2.2.2.2.2.2.2.2.2.2.2.2.2.2.2.2.2.2.2.2.2.2.2.2.2.2.2.2.2.2.2.2.1, z8.2.2.2.2.2.2.2.2.2.2.2.2.2.2.2.2.2.2.2.2.2.2.2.2.2.2.2.2.2.2.2.2.2.2.2.2.1, z8.2.2.2.2.2.2.2.2.2.2.2.2.2.2.2.2.2.2.2.2.2.2.2.2.2.2.2.2.2.2.2.2.2.2.2.2.2.1, z8.2.2.2.2.2.2.2.2.2.2.2.2.2.2.2.2.2.2.2.2.2.2.2.2.2.2.2.2.2.2.2.2.2.2.2.2.2.2)))
else
(let x13 := z8.2.2.2.2.2.2.2.2.2.2.2.2.2.2.2.2.2.2.2.2.2.2.2.2.2.2.2.1 != z8.2.2.1
if x13 then
(some ((x13, z8.2.2.1, z8.2.2.2.1, z8.2.2.2.2.1, z8.2.2.2.2.2.1, z8.2.2.2.2.2.2.1, z8.2.2.2.2.2.2.2.1, z8.2.2.2.2.2.2.2.2.1, z8.2.2.2.2.2.2.2.2.2.1, z8.2.2.2.2.2.2.2.2.2.2.1, z8.2.2.2.2.2.2.2.2.2.2.2.1, z8.2.2.2.2.2.2.2.2.2.2.2.2.1, z8.2.2.2.2.2.2.2.2.2.2.2.2.2.1, z8.2.2.2.2.2.2.2.2.2.2.2.2.2.2.1, z8.2.2.2.2.2.2.2.2.2.2.2.2.2.2.2.1, z8.2.2.2.2.2.2.2.2.2.2.2.2.2.2.2.2.1, z8.2.2.2.2.2.2.2.2.2.2.2.2.2.2.2.2.2.1, z8.2.2.2.2.2.2.2.2.2.2.2.2.2.2.2.2.2.2.1, z8.2.2.2.2.2.2.2.2.2.2.2.2.2.2.2.2.2.2.2.1, z8.2.2.2.2.2.2.2.2.2.2.2.2.2.2.2.2.2.2.2.2.1, z8.2.2.2.2.2.2.2.2.2.2.2.2.2.2.2.2.2.2.2.2.2.1, z8.2.2.2.2.2.2.2.2.2.2.2.2.2.2.2.2.2.2.2.2.2.2.1, z8.2.2.2.2.2.2.2.2.2.2.2.2.2.2.2.2.2.2.2.2.2.2.2.1, z8.2.2.2.2.2.2.2.2.2.2.2.2.2.2.2.2.2.2.2.2.2.2.2.2.1, z8.2.2.2.2.2.2.2.2.2.2.2.2.2.2.2.2.2.2.2.2.2.2.2.2.2.1, z8.2.2.2.2.2.2.2.2.2.2.2.2.2.2.2.2.2.2.2.2.2.2.2.2.2.2.1, z8.2.2.2.2.2.2.2.2.2.2.2.2.2.2.2.2.2.2.2.2.2.2.2.2.2.2.2.1, z8.2.2.2.2.2.2.2.2.2.2.2.2.2.2.2.2.2.2.2.2.2.2.2.2.2.2.2.2.1, z8.2.2.2.2.2.2.2.2.2.2.2.2.2.2.2.2.2.2.2.2.2.2.2.2.2.2.2.2.2.1, z8.2.2.2.2.2.2.2.2.2.2.2.2.2.2.2.2.2.2.2.2.2.2.2.2.2.2.2.2.2.2.1, z8.2.2.2.2.2.2.2.2.2.2.2.2.2.2.2.2.2.2.2.2.2.2.2.2.2.2.2.2.2.2.2.1, z8.2.2.2.2.2.2.2.2.2.2.2.2.2.2.2.2.2.2.2.2.2.2.2.2.2.2.2.2.2.2.2.2.1, z8.2.2.2.2.2.2.2.2.2.2.2.2.2.2.2.2.2.2.2.2.2.2.2.2.2.2.2.2.2.2.2.2.2.1, z8.2.2.2.2.2.2.2.2.2.2.2.2.2.2.2.2.2.2.2.2.2.2.2.2.2.2.2.2.2.2.2.2.2.2.1, z8.2.2.2.2.2.2.2.2.2.2.2.2.2.2.2.2.2.2.2.2.2.2.2.2.2.2.2.2.2.2.2.2.2.2.2.1, z8.2.2.2.2.2.2.2.2.2.2.2.2.2.2.2.2.2.2.2.2.2.2.2.2.2.2.2.2.2.2.2.2.2.2.2.2.1, z8.2.2.2.2.2.2.2.2.2.2.2.2.2.2.2.2.2.2.2.2.2.2.2.2.2.2.2.2.2.2.2.2.2.2.2.2.2.1, z8.2.2.2.2.2.2.2.2.2.2.2.2.2.2.2.2.2.2.2.2.2.2.2.2.2.2.2.2.2.2.2.2.2.2.2.2.2.2)))
else
(let x14 := z8.2.2.2.2.2.2.2.2.2.2.2.2.2.2.2.2.2.2.2.2.2.2.2.2.2.2.2.2.1 != z8.2.2.2.1
if x14 then
(some ((x14, z8.2.2.1, z8.2.2.2.1, z8.2.2.2.2.1, z8.2.2.2.2.2.1, z8.2.2.2.2.2.2.1, z8.2.2.2.2.2.2.2.1, z8.2.2.2.2.2.2.2.2.1, z8.2.2.2.2.2.2.2.2.2.1, z8.2.2.2.2.2.2.2.2.2.2.1, z8.2.2.2.2.2.2.2.2.2.2.2.1, z8.2.2.2.2.2.2.2.2.2.2.2.2.1, z8.2.2.2.2.2.2.2.2.2.2.2.2.2.1, z8.2.2.2.2.2.2.2.2.2.2.2.2.2.2.1, z8.2.2.2.2.2.2.2.2.2.2.2.2.2.2.2.1, z8.2.2.2.2.2.2.2.2.2.2.2.2.2.2.2.2.1, z8.2.2.2.2.2.2.2.2.2.2.2.2.2.2.2.2.2.1, z8.2.2.2.2.2.2.2.2.2.2.2.2.2.2.2.2.2.2.1, z8.2.2.2.2.2.2.2.2.2.2.2.2.2.2.2.2.2.2.2.1, z8.2.2.2.2.2.2.2.2.2.2.2.2.2.2.2.2.2.2.2.2.1, z8.2.2.2.2.2.2.2.2.2.2.2.2.2.2.2.2.2.2.2.2.2.1, z8.2.2.2.2.2.2.2.2.2.2.2.2.2.2.2.2.2.2.2.2.2.2.1, z8.2.2.2.2.2.2.2.2.2.2.2.2.2.2.2.2.2.2.2.2.2.2.2.1, z8.2.2.2.2.2.2.2.2.2.2.2.2.2.2.2.2.2.2.2.2.2.2.2.2.1, z8.2.2.2.2.2.2.2.2.2.2.2.2.2.2.2.2.2.2.2.2.2.2.2.2.2.1, z8.2.2.2.2.2.2.2.2.2.2.2.2.2.2.2.2.2.2.2.2.2.2.2.2.2.2.1, z8.2.2.2.2.2.2.2.2.2.2.2.2.2.2.2.2.2.2.2.2.2.2.2.2.2.2.2.1, z8.2.2.2.2.2.2.2.2.2.2.2.2.2.2.2.2.2.2.2.2.2.2.2.2.2.2.2.2.1, z8.2.2.2.2.2.2.2.2.2.2.2.2.2.2.2.2.2.2.2.2.2.2.2.2.2.2.2.2.2.1, z8.2.2.2.2.2.2.2.2.2.2.2.2.2.2.2.2.2.2.2.2.2.2.2.2.2.2.2.2.2.2.1, z8.2.2.2.2.2.2.2.2.2.2.2.2.2.2.2.2.2.2.2.2.2.2.2.2.2.2.2.2.2.2.2.1, z8.2.2.2.2.2.2.2.2.2.2.2.2.2.2.2.2.2.2.2.2.2.2.2.2.2.2.2.2.2.2.2.2.1, z8.2.2.2.2.2.2.2.2.2.2.2.2.2.2.2.2.2.2.2.2.2.2.2.2.2.2.2.2.2.2.2.2.2.1, z8.2.2.2.2.2.2.2.2.2.2.2.2.2.2.2.2.2.2.2.2.2.2.2.2.2.2.2.2.2.2.2.2.2.2.1, z8.2.2.2.2.2.2.2.2.2.2.2.2.2.2.2.2.2.2.2.2.2.2.2.2.2.2.2.2.2.2.2.2.2.2.2.1, z8.2.2.2.2.2.2.2.2.2.2.2.2.2.2.2.2.2.2.2.2.2.2.2.2.2.2.2.2.2.2.2.2.2.2.2.2.1, z8.2.2.2.2.2.2.2.2.2.2.2.2.2.2.2.2.2.2.2.2.2.2.2.2.2.2.2.2.2.2.2.2.2.2.2.2.2.1, z8.2.2.2.2.2.2.2.2.2.2.2.2.2.2.2.2.2.2.2.2.2.2.2.2.2.2.2.2.2.2.2.2.2.2.2.2.2.2)))
else
(
some (((z8.2.2.2.2.2.2.2.2.2.2.2.2.2.2.2.2.2.2.2.2.2.2.2.2.2.2.2.2.2.2.2.2.1 != z8.1), z8.2.2.1, z8.2.2.2.1, z8.2.2.2.2.1, z8.2.2.2.2.2.1, z8.2.2.2.2.2.2.1, z8.2.2.2.2.2.2.2.1, z8.2.2.2.2.2.2.2.2.1, z8.2.2.2.2.2.2.2.2.2.1, z8.2.2.2.2.2.2.2.2.2.2.1, z8.2.2.2.2.2.2.2.2.2.2.2.1, z8.2.2.2.2.2.2.2.2.2.2.2.2.1, z8.2.2.2.2.2.2.2.2.2.2.2.2.2.1, z8.2.2.2.2.2.2.2.2.2.2.2.2.2.2.1, z8.2.2.2.2.2.2.2.2.2.2.2.2.2.2.2.1, z8.2.2.2.2.2.2.2.2.2.2.2.2.2.2.2.2.1, z8.2.2.2.2.2.2.2.2.2.2.2.2.2.2.2.2.2.1, z8.2.2.2.2.2.2.2.2.2.2.2.2.2.2.2.2.2.2.1, z8.2.2.2.2.2.2.2.2.2.2.2.2.2.2.2.2.2.2.2.1, z8.2.2.2.2.2.2.2.2.2.2.2.2.2.2.2.2.2.2.2.2.1, z8.2.2.2.2.2.2.2.2.2.2.2.2.2.2.2.2.2.2.2.2.2.1, z8.2.2.2.2.2.2.2.2.2.2.2.2.2.2.2.2.2.2.2.2.2.2.1, z8.2.2.2.2.2.2.2.2.2.2.2.2.2.2.2.2.2.2.2.2.2.2.2.1, z8.2.2.2.2.2.2.2.2.2.2.2.2.2.2.2.2.2.2.2.2.2.2.2.2.1, z8.2.2.2.2.2.2.2.2.2.2.2.2.2.2.2.2.2.2.2.2.2.2.2.2.2.1, z8.2.2.2.2.2.2.2.2.2.2.2.2.2.2.2.2.2.2.2.2.2.2.2.2.2.2.1, z8.2.2.2.2.2.2.2.2.2.2.2.2.2.2.2.2.2.2.2.2.2.2.2.2.2.2.2.1, z8.2.2.2.2.2.2.2.2.2.2.2.2.2.2.2.2.2.2.2.2.2.2.2.2.2.2.2.2.1, z8.2.2.2.2.2.2.2.2.2.2.2.2.2.2.2.2.2.2.2.2.2.2.2.2.2.2.2.2.2.1, z8.2.2.2.2.2.2.2.2.2.2.2.2.2.2.2.2.2.2.2.2.2.2.2.2.2.2.2.2.2.2.1, z8.2.2.2.2.2.2.2.2.2.2.2.2.2.2.2.2.2.2.2.2.2.2.2.2.2.2.2.2.2.2.2.1, z8.2.2.2.2.2.2.2.2.2.2.2.2.2.2.2.2.2.2.2.2.2.2.2.2.2.2.2.2.2.2.2.2.1, z8.2.2.2.2.2.2.2.2.2.2.2.2.2.2.2.2.2.2.2.2.2.2.2.2.2.2.2.2.2.2.2.2.2.1, z8.2.2.2.2.2.2.2.2.2.2.2.2.2.2.2.2.2.2.2.2.2.2.2.2.2.2.2.2.2.2.2.2.2.2.1, z8.2.2.2.2.2.2.2.2.2.2.2.2.2.2.2.2.2.2.2.2.2.2.2.2.2.2.2.2.2.2.2.2.2.2.2.1, z8.2.2.2.2.2.2.2.2.2.2.2.2.2.2.2.2.2.2.2.2.2.2.2.2.2.2.2.2.2.2.2.2.2.2.2.2.1, z8.2.2.2.2.2.2.2.2.2.2.2.2.2.2.2.2.2.2.2.2.2.2.2.2.2.2.2.2.2.2.2.2.2.2.2.2.2.1, z8.2.2.2.2.2.2.2.2.2.2.2.2.2.2.2.2.2.2.2.2.2.2.2.2.2.2.2.2.2.2.2.2.2.2.2.2.2.2)))))))).bind fun z16 =>
if z16.1 then
(some (240 : Int))
else
((cut z16.2.2.2.1 z16.2.2.2.2.2.2.2.2.2.2.2.2.2.2.2.2.2.2.2.2.2.2.2.2.2.2.2.2.2.2.1 (z16.2.2.2.1.length : Int)).bind fun y17 =>
(cut y17 0 (z16.2.2.2.2.2.2.2.2.2.2.2.2.2.2.2.2.2.2.2.2.2.2.2.2.2.2.2.2.2.2.2.2.2.2.2.2.1.length : Int)).bind fun y19 =>
(g45 z16.2.2.2.2.2.2.2.2.2.2.2.2.2.2.2.2.2.2.2.2.2.2.2.2.2.2.2.2.2.2.2.2.2.2.2.2.1 y19).bind fun y20 =>
if (!y20) then
(some (240 : Int))
else
(
let x23 := !(h42 z16.2.2.2.2.2.2.2.2.2.2.2.2.2.2.2.2.2.2.2.2.2.1 (0 : Int) (1114112 : Int))
if x23 then
(if x23 then
(some (240 : Int))
else
(some (0 : Int)))
else
(
let x25 := !(h42 z16.2.2.2.2.2.2.2.2.2.2.2.2.2.2.2.2.2.2.2.2.2.2.1 (0 : Int) z16.2.2.2.2.2.1)
if x25 then
(if x25 then
(some (240 : Int))
else
(some (0 : Int)))
else
(
let x27 := decide ((z16.2.2.2.2.2.2.2.2.2.2.2.2.2.2.2.2.2.2.2.2.2.2.2.1.length : Int) > (32 : Int))
if x27 then
(if x27 then
(some (240 : Int))
else
(some (0 : Int)))
else
((g46 z16.2.2.2.2.2.2.2.2.2.2.2.2.2.2.2.2.2.2.2.2.2.2.2.1 (0 : Int)).bind fun y28 =>
if y28 then
(if y28 then
(some (240 : Int))
else
(some (0 : Int)))
else
(
if (!(h42 z16.2.2.2.2.2.2.2.2.2.2.2.2.2.2.2.2.2.2.2.2.2.2.2.2.1 (0 : Int) (255 : Int))) then
(some (240 : Int))
else
(some (0 : Int)))))))))
noncomputable def tf15 : TF := .par ⟨[.v YSending], (.i .i64)⟩ (fun x => g15 x)
theorem e15 : evFn (tabU [(35, tf35), (42, tf42), (43, tf43), (44, tf44), (45, tf45), (46, tf46)]) ⟨F15.res, F15.keep, tf15.sg⟩ T15 = fun x => g15 x := by kernel_rfl
theorem o15 : TOK (EF pg) 15 tf15 := tok_of p15 rfl (tabU_cons o35 (tabU_cons o42 (tabU_cons o43 (tabU_cons o44 (tabU_cons o45 (tabU_cons o46 (tabU_nil))))))) ⟨rfl, rfl, by decide⟩ rfl (rndOk_of rfl) trivial fun x y h => (congrFun e15 x).trans h
/-- heliograph/sender.ready -/
noncomputable def g51 (a0 : Sending) (a1 : Int) : Option Int :=
(g15 a0).bind fun y1 =>
if (y1 != (0 : Int)) then
(some (240 : Int))
else
(
if (!(h36 a1)) then
(some (2 : Int))
else
(some (0 : Int)))
noncomputable def tf51 : TF := .par ⟨[.v YSending, .v (.i .i64)], (.i .i64)⟩ (fun x => g51 x.1 x.2)
theorem e51 : evFn (tabU [(15, tf15), (36, tf36)]) ⟨F51.res, F51.keep, tf51.sg⟩ T51 = fun x => g51 x.1 x.2 := by kernel_rfl
theorem o51 : TOK (EF pg) 51 tf51 := tok_of p51 rfl (tabU_cons o15 (tabU_cons o36 (tabU_nil))) ⟨rfl, rfl, by decide⟩ rfl (rndOk_of rfl) trivial fun x y h => (congrFun e51 x).trans h
/-- slices.AppendSeq[[]heliograph/api.Claim,heliograph/api.Claim] -/
noncomputable def g75_r0 (y : Claim) (s : List Claim) : Option ((List Claim) ⊕ Unit) :=
(apd 16 s ([y])).bind fun y1 =>
some (Sum.inl y1)
noncomputable def g75 (a0 : List Claim) (a1 : Sending) : Option (List Claim) :=
(gapH a1).bind fun w5 =>
(foldU g75_r0 w5 a0).bind fun z4 =>
match z4 with
| Sum.inl z2 => (some z2)
| Sum.inr z3 => (none)
noncomputable def tf75 : TF := .par ⟨[.v (.l .app YClaim), .v (.cl 67 gpR)], (.l .ro YClaim)⟩ (fun x => g75 x.1 x.2)
theorem e75 : evFn (tabU [(67, tf67)]) ⟨F75.res, F75.keep, tf75.sg⟩ T75 = fun x => g75 x.1 x.2 := by kernel_rfl
theorem o75 : TOK (EF pg) 75 tf75 := tok_of p75 rfl (tabU_cons o67 (tabU_nil)) ⟨rfl, rfl, by decide⟩ rfl (⟨rndOk_of rfl, ⟨⟨rndOk_of rfl, rnd_of p75x0 rfl rfl (rndOk_of rfl) (rndOk_of rfl)⟩, rndOk_of rfl⟩⟩) trivial fun x y h => (congrFun e75 x).trans h
/-- slices.Collect[heliograph/api.Claim] -/
noncomputable def g57 (a0 : Sending) : Option (List Claim) :=
(g75 [] a0).bind fun y1 =>
some y1
noncomputable def tf57 : TF := .par ⟨[.v (.cl 67 gpR)], (.l .ro YClaim)⟩ (fun x => g57 x)
theorem e57 : evFn (tabU [(75, tf75)]) ⟨F57.res, F57.keep, tf57.sg⟩ T57 = fun x => g57 x := by kernel_rfl
theorem o57 : TOK (EF pg) 57 tf57 := tok_of p57 rfl (tabU_cons o75 (tabU_nil)) ⟨rfl, rfl, by decide⟩ rfl (rndOk_of rfl) trivial fun x y h => (congrFun e57 x).trans h
/-- heliograph/sender.Gaps -/
noncomputable def g24 (a0 : Sending) : Option (List Claim) :=
(g15 a0).bind fun y1 =>
if (y1 != (0 : Int)) then
(some [])
else
((g39 a0).bind fun y3 =>
(g57 y3).bind fun y4 =>
some y4)
noncomputable def tf24 : TF := .par ⟨[.v YSending], (.l .ro YClaim)⟩ (fun x => g24 x)
theorem e24 : evFn (tabU [(15, tf15), (39, tf39), (57, tf57)]) ⟨F24.res, F24.keep, tf24.sg⟩ T24 = fun x => g24 x := by kernel_rfl
theorem o24 : TOK (EF pg) 24 tf24 := tok_of p24 rfl (tabU_cons o15 (tabU_cons o39 (tabU_cons o57 (tabU_nil)))) ⟨rfl, rfl, by decide⟩ rfl (rndOk_of rfl) trivial fun x y h => (congrFun e24 x).trans h
/-- heliograph/heliographlaw14.SenderGaps -/
noncomputable def g6x0 (s : (List Claim) × (List Int) × Int × (List Claim) × Int × Int × Int × Int) : Option (((List Claim) × (List Int) × Int × (List Claim) × Int × Int × Int × Int) ⊕ (((List Claim) × (List Int) × (List Claim) × Int × Int))) :=
if (decide (s.2.2.1 < (IntKind.i64.wrap (s.2.2.2.2.2.2.1 + s.2.2.2.2.2.2.2)))) then
((chkI s.2.2.1 (s.2.1.length : Int)).bind fun y17 =>
(idx s.2.1 s.2.2.1).bind fun y18 =>
(chkI s.2.2.1 (s.2.1.length : Int)).bind fun y20 =>
(idx s.2.1 s.2.2.1).bind fun y21 =>
(eqI (s.2.1.length : Int) (s.2.1.length : Int)).bind fun y23 =>
some (Sum.inl (s.1, (List.set s.2.1 (Int.toNat s.2.2.1) (IntKind.i64.wrap (y18 + (1 : Int)))), (IntKind.i64.wrap (s.2.2.1 + (1 : Int))), s.2.2.2.1, s.2.2.2.2.1, s.2.2.2.2.2.1, s.2.2.2.2.2.2.1, s.2.2.2.2.2.2.2)))
else
(some (Sum.inr (s.1, s.2.1, s.2.2.2.1, s.2.2.2.2.1, s.2.2.2.2.2.1)))
noncomputable def g6x1 (s : (List Claim) × (List Int) × (List Claim) × Int × Int) : Option (((List Claim) × (List Int) × (List Claim) × Int × Int) ⊕ (((List Claim) × List Int))) :=
if (decide (s.2.2.2.2 < s.2.2.2.1)) then
((idx s.2.2.1 s.2.2.2.2).bind fun y14 =>
(lpU g6x0 (s.1, s.2.1, y14.1, s.2.2.1, s.2.2.2.1, s.2.2.2.2, y14.1, y14.2)).bind fun z25 =>
some (Sum.inl (z25.1, z25.2.1, z25.2.2.1, z25.2.2.2.1, (IntKind.i64.wrap (z25.2.2.2.2 + (1 : Int))))))
else
(some (Sum.inr (s.1, s.2.1)))
noncomputable def g6x2 (s : (List Claim) × (List Int) × Int × Int) : Option (((List Claim) × (List Int) × Int × Int) ⊕ ((List Claim) ⊕ Bool)) :=
if (decide (s.2.2.2 < s.2.2.1)) then
((chkI s.2.2.2 (s.2.1.length : Int)).bind fun y30 =>
(idx s.2.1 s.2.2.2).bind fun y31 =>
(eqI (s.2.1.length : Int) (s.2.1.length : Int)).bind fun y33 =>
if (y31 != (1 : Int)) then
(some (Sum.inr (Sum.inr (false))))
else
(
some (Sum.inl (s.1, s.2.1, s.2.2.1, (IntKind.i64.wrap (s.2.2.2 + (1 : Int)))))))
else
(some (Sum.inr (Sum.inl s.1)))
noncomputable def g6x3 (s : (List Claim) × Int) : Option (((List Claim) × Int) ⊕ (Unit ⊕ Bool)) :=
if (decide (s.2 < (s.1.length : Int))) then
((idx s.1 s.2).bind fun y40 =>
(idx s.1 (IntKind.i64.wrap (s.2 - (1 : Int)))).bind fun y42 =>
(idx s.1 (IntKind.i64.wrap (s.2 - (1 : Int)))).bind fun y44 =>
if (decide (y40.1 ≤ (IntKind.i64.wrap (y42.1 + y44.2)))) then
(some (Sum.inr (Sum.inr (false))))
else
(
some (Sum.inl (s.1, (IntKind.i64.wrap (s.2 + (1 : Int)))))))
else
(some (Sum.inr (Sum.inl ())))
noncomputable def g6 (a0 : Sending) : Option Bool :=
if (!true) then
(some false)
else
((g17 a0).bind fun y2 =>
(g24 y2).bind fun y3 =>
(g15 y2).bind fun y4 =>
if (y4 != (0 : Int)) then
(
some ((y3.length : Int) == (0 : Int)))
else
(let x8 := (y2.2.2.1.length : Int)
(mkl 8 x8 x8 (0 : Int)).bind fun y9 =>
(apd 16 [] y2.2.2.2.2.2.2.1).bind fun y10 =>
(apd 16 y10 y3).bind fun y11 =>
(lpU g6x1 (y3, y9, y11, (y11.length : Int), (0 : Int))).bind fun z27 =>
(eqI (z27.2.length : Int) (z27.2.length : Int)).bind fun y28 =>
(lpU g6x2 (z27.1, z27.2, (z27.2.length : Int), (0 : Int))).bind fun z35 =>
match z35 with
| Sum.inl z36 => ((lpU g6x3 (z36, (1 : Int))).bind fun z48 =>
match z48 with
| Sum.inl z49 => (some true)
| Sum.inr z50 => (some z50))
| Sum.inr z37 => (some z37)))
noncomputable def tf6 : TF := .par ⟨[.v YSending], .b⟩ (fun x => g6 x)
theorem e6 : evFn (tabU [(15, tf15), (17, tf17), (24, tf24)]) ⟨F6.res, F6.keep, tf6.sg⟩ T6 = fun x => g6 x := by kernel_rfl
theorem o6 : TOK1 (EF pg) (run1 E6 (EF pg)) tf6 := tok_run rfl (tabU_cons o15 (tabU_cons o17 (tabU_cons o24 (tabU_nil)))) ⟨rfl, rfl, by decide⟩ rfl (rndOk_of rfl) fun x y h => (congrFun e6 x).trans h
theorem v6 (ds : List D) : EF pg 6 ds [] = run1 E6 (EF pg) ds [] := (EF_run1 p6 rfl ds []).trans (wk_run1 (F := F6) (F' := E6) wakes_ok rfl rfl ds)
/-- heliograph/sender.claim$1 -/
noncomputable def h77 (a0 : Claim) (a1 : Claim) : Int :=
(IntKind.i64.wrap (a0.1 - a1.1))
noncomputable def tf77 : TF := .tot ⟨[.v YClaim, .v YClaim], (.i .i64)⟩ (fun x => h77 x.1 x.2)
theorem e77 : evFn (tabU []) ⟨F77.res, F77.keep, tf77.sg⟩ T77 = fun x => some (h77 x.1 x.2) := by kernel_rfl
theorem o77 : TOK (EF pg) 77 tf77 := tok_of p77 rfl (tabU_nil) ⟨rfl, rfl, by decide⟩ rfl (rndOk_of rfl) trivial fun x y h => (congrFun e77 x).trans h
/-- (*slices.xorshift).Next -/
noncomputable def h92 (a0 : Int) : Int × Int :=
let x2 := xorI .u64 a0 (shlI .u64 a0 (13 : Int))
let x4 := xorI .u64 x2 (shrI .u64 x2 (7 : Int))
let x6 := xorI .u64 x4 (shlI .u64 x4 (17 : Int))
(x6, x6)
noncomputable def tf92 : TF := .tot ⟨[.x (.i .u64)], (.i .u64)⟩ (fun x => h92 x)
theorem e92 : evFn (tabU []) ⟨F92.res, F92.keep, tf92.sg⟩ T92 = fun x => some (h92 x) := by kernel_rfl
theorem o92 : TOK (EF pg) 92 tf92 := tok_of p92 rfl (tabU_nil) ⟨rfl, rfl, by decide⟩ rfl (rndOk_of rfl) trivial fun x y h => (congrFun e92 x).trans h
/-- slices.order2CmpFunc[heliograph/api.Claim] -/
noncomputable def g95 (a0 : List Claim) (a1 : Int) (a2 : Int) (a3 : Int) (a4 : (Claim × Claim) → Option Int) : Option ((Int × Int) × Int) :=
(idx a0 a2).bind fun y1 =>
(idx a0 a1).bind fun y2 =>
(a4 (y1, y2)).bind fun y3 =>
if (decide (y3 < (0 : Int))) then
(
some ((a2, a1), (IntKind.i64.wrap (a3 + (1 : Int)))))
else
(some ((a1, a2), a3))
noncomputable def tf95 : TF := .par ⟨[.v (.l .ro YClaim), .v (.i .i64), .v (.i .i64), .x (.i .i64), .v (.fn (.t YClaim YClaim) (.i .i64))], (.t (.i .i64) (.i .i64))⟩ (fun x => g95 x.1 x.2.1 x.2.2.1 x.2.2.2.1 x.2.2.2.2)
theorem e95 : evFn (tabU []) ⟨F95.res, F95.keep, tf95.sg⟩ T95 = fun x => g95 x.1 x.2.1 x.2.2.1 x.2.2.2.1 x.2.2.2.2 := by kernel_rfl
theorem o95 : TOK (EF pg) 95 tf95 := tok_of p95 rfl (tabU_nil) ⟨rfl, rfl, by decide⟩ rfl (rndOk_of rfl) trivial fun x y h => (congrFun e95 x).trans h
/-- slices.medianCmpFunc[heliograph/api.Claim] -/
noncomputable def g94 (a0 : List Claim) (a1 : Int) (a2 : Int) (a3 : Int) (a4 : Int) (a5 : (Claim × Claim) → Option Int) : Option (Int × Int) :=
(g95 a0 a1 a2 a4 a5).bind fun y1 =>
(g95 a0 y1.1.2 a3 y1.2 a5).bind fun y2 =>
(g95 a0 y1.1.1 y2.1.1 y2.2 a5).bind fun y3 =>
some (y3.1.2, y3.2)
noncomputable def tf94 : TF := .par ⟨[.v (.l .ro YClaim), .v (.i .i64), .v (.i .i64), .v (.i .i64), .x (.i .i64), .v (.fn (.t YClaim YClaim) (.i .i64))], (.i .i64)⟩ (fun x => g94 x.1 x.2.1 x.2.2.1 x.2.2.2.1 x.2.2.2.2.1 x.2.2.2.2.2)
theorem e94 : evFn (tabU [(95, tf95)]) ⟨F94.res, F94.keep, tf94.sg⟩ T94 = fun x => g94 x.1 x.2.1 x.2.2.1 x.2.2.2.1 x.2.2.2.2.1 x.2.2.2.2.2 := by kernel_rfl
theorem o94 : TOK (EF pg) 94 tf94 := tok_of p94 rfl (tabU_cons o95 (tabU_nil)) ⟨rfl, rfl, by decide⟩ rfl (rndOk_of rfl) trivial fun x y h => (congrFun e94 x).trans h
/-- slices.medianAdjacentCmpFunc[heliograph/api.Claim] -/
noncomputable def g93 (a0 : List Claim) (a1 : Int) (a2 : Int) (a3 : (Claim × Claim) → Option Int) : Option (Int × Int) :=
(g94 a0 (IntKind.i64.wrap (a1 - (1 : Int))) a1 (IntKind.i64.wrap (a1 + (1 : Int))) a2 a3).bind fun y3 =>
some (y3.1, y3.2)
noncomputable def tf93 : TF := .par ⟨[.v (.l .ro YClaim), .v (.i .i64), .x (.i .i64), .v (.fn (.t YClaim YClaim) (.i .i64))], (.i .i64)⟩ (fun x => g93 x.1 x.2.1 x.2.2.1 x.2.2.2)
theorem e93 : evFn (tabU [(94, tf94)]) ⟨F93.res, F93.keep, tf93.sg⟩ T93 = fun x => g93 x.1 x.2.1 x.2.2.1 x.2.2.2 := by kernel_rfl
theorem o93 : TOK (EF pg) 93 tf93 := tok_of p93 rfl (tabU_cons o94 (tabU_nil)) ⟨rfl, rfl, by decide⟩ rfl (rndOk_of rfl) trivial fun x y h => (congrFun e93 x).trans h
/-- slices.choosePivotCmpFunc[heliograph/api.Claim] -/
noncomputable def g83 (a0 : List Claim) (a1 : Int) (a2 : Int) (a3 : (Claim × Claim) → Option Int) : Option (Int × Int) :=
let x1 := IntKind.i64.wrap (a2 - a1)
let x4 := IntKind.i64.wrap (a1 + (IntKind.i64.wrap ((IntKind.i64.wrap (x1.tdiv (4 : Int))) * (1 : Int))))
let x7 := IntKind.i64.wrap (a1 + (IntKind.i64.wrap ((IntKind.i64.wrap (x1.tdiv (4 : Int))) * (2 : Int))))
let x10 := IntKind.i64.wrap (a1 + (IntKind.i64.wrap ((IntKind.i64.wrap (x1.tdiv (4 : Int))) * (3 : Int))))
(
if (decide (x1 ≥ (8 : Int))) then
(
if (decide (x1 ≥ (50 : Int))) then
((g93 a0 x4 (0 : Int) a3).bind fun y13 =>
(g93 a0 x7 y13.2 a3).bind fun y14 =>
(g93 a0 x10 y14.2 a3).bind fun y15 =>
(g94 a0 y13.1 y14.1 y15.1 y15.2 a3).bind fun y16 =>
some ((y16.1, y16.2)))
else
((g94 a0 x4 x7 x10 (0 : Int) a3).bind fun y17 =>
some ((y17.1, y17.2))))
else
(some ((x7, (0 : Int))))).bind fun z18 =>
if (z18.2 == (0 : Int)) then
(some (z18.1, (1 : Int)))
else
(
if (z18.2 == (12 : Int)) then
(some (z18.1, (2 : Int)))
else
(some (z18.1, (0 : Int))))
noncomputable def tf83 : TF := .par ⟨[.v (.l .ro YClaim), .v (.i .i64), .v (.i .i64), .v (.fn (.t YClaim YClaim) (.i .i64))], (.t (.i .i64) (.i .i64))⟩ (fun x => g83 x.1 x.2.1 x.2.2.1 x.2.2.2)
theorem e83 : evFn (tabU [(93, tf93), (94, tf94)]) ⟨F83.res, F83.keep, tf83.sg⟩ T83 = fun x => g83 x.1 x.2.1 x.2.2.1 x.2.2.2 := by kernel_rfl
theorem o83 : TOK (EF pg) 83 tf83 := tok_of p83 rfl (tabU_cons o93 (tabU_cons o94 (tabU_nil))) ⟨rfl, rfl, by decide⟩ rfl (rndOk_of rfl) trivial fun x y h => (congrFun e83 x).trans h
end Go.Proofs.Ytiglckehhfbliaa.Ev.U
