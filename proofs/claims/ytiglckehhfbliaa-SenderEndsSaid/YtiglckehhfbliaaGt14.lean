/- The functions as plain ones. Conditions: none. -/
import Derived.Test.YtiglckehhfbliaaFt14
set_option linter.all false
namespace Go.Proofs.Ytiglckehhfbliaa.Ev.U
open Go
noncomputable def tf67 : TF := .gen YClaim gpR gapH
theorem o67 : TOK (EF pg) 67 tf67 := tok_list (gok_gaps p67)
noncomputable def g39 (a0 : Sending) : Option Sending := some a0
noncomputable def tf39 : TF := .par ⟨[.v YSending], .cl 67 gpR⟩ (fun x => g39 x)
theorem o39 : TOK (EF pg) 39 tf39 := tok_clo p39 (by decide) rfl rfl rfl
/-- heliograph/heliographref14.Copy -/
noncomputable def g19 (a0 : Sending) : Option (Int × Int × (List Int) × Int × Int × Int × (List Claim) × Int × Int × Int × Int × Int × Int × Int × Int × Int × Int × Bool × (List Int) × (List Claim) × Int × Int × (List Int) × Int) :=
(apd 1 [] a0.2.2.1).bind fun y1 =>
(apd 16 [] a0.2.2.2.2.2.2.1).bind fun y2 =>
(apd 4 [] a0.2.2.2.2.2.2.2.2.2.2.2.2.2.2.2.2.2.2.2.2.2.2.1).bind fun y3 =>
(apd 1 [] a0.2.2.2.2.2.2.2.2.2.2.2.2.2.2.2.2.2.2.1).bind fun y4 =>
(apd 16 [] a0.2.2.2.2.2.2.2.2.2.2.2.2.2.2.2.2.2.2.2.1).bind fun y5 =>
some (a0.1, a0.2.1, y1, a0.2.2.2.1, a0.2.2.2.2.1, a0.2.2.2.2.2.1, y2, a0.2.2.2.2.2.2.2.1, a0.2.2.2.2.2.2.2.2.1, a0.2.2.2.2.2.2.2.2.2.1, a0.2.2.2.2.2.2.2.2.2.2.1, a0.2.2.2.2.2.2.2.2.2.2.2.1, a0.2.2.2.2.2.2.2.2.2.2.2.2.1, a0.2.2.2.2.2.2.2.2.2.2.2.2.2.1, a0.2.2.2.2.2.2.2.2.2.2.2.2.2.2.1, a0.2.2.2.2.2.2.2.2.2.2.2.2.2.2.2.1, a0.2.2.2.2.2.2.2.2.2.2.2.2.2.2.2.2.1, a0.2.2.2.2.2.2.2.2.2.2.2.2.2.2.2.2.2.1, y4, y5, a0.2.2.2.2.2.2.2.2.2.2.2.2.2.2.2.2.2.2.2.2.1, a0.2.2.2.2.2.2.2.2.2.2.2.2.2.2.2.2.2.2.2.2.2.1, y3, a0.2.2.2.2.2.2.2.2.2.2.2.2.2.2.2.2.2.2.2.2.2.2.2)
noncomputable def tf19 : TF := .par ⟨[.v YSending], (.g (.p (.i .i64) (.p (.i .u32) (.p (.l .app (.i .u8)) (.p (.i .i64) (.p (.i .i64) (.p (.i .i64) (.p (.l .app YClaim) (.p (.i .i64) (.p (.i .i64) (.p (.i .u32) (.p (.i .u32) (.p (.i .u32) (.p (.i .i64) (.p (.i .i64) (.p (.i .i64) (.p (.i .i64) (.p (.i .i64) (.p .b (.p (.l .app (.i .u8)) (.p (.l .app YClaim) (.p (.i .i64) (.p (.i .i64) (.p (.l .app (.i .u32)) (.i .i64)))))))))))))))))))))))))⟩ (fun x => g19 x)
theorem e19 : evFn (tabU []) ⟨F19.res, F19.keep, tf19.sg⟩ T19 = fun x => g19 x := by kernel_rfl
theorem o19 : TOK (EF pg) 19 tf19 := tok_of p19 rfl (tabU_nil) ⟨rfl, rfl, by decide⟩ rfl (rndOk_of rfl) trivial fun x y h => (congrFun e19 x).trans h
/-- heliograph/heliographlaw14.short -/
noncomputable def g17 (a0 : Sending) : Option Sending :=
let x1 := (a0.2.2.1.length : Int)
(cut a0.2.2.1 0 (if (600 : Int) < x1 then (600 : Int) else x1)).bind fun y3 =>
let x4 := (a0.2.2.2.2.2.2.1.length : Int)
(cut a0.2.2.2.2.2.2.1 0 (if (300 : Int) < x4 then (300 : Int) else x4)).bind fun y6 =>
let x7 := (a0.2.2.2.2.2.2.2.2.2.2.2.2.2.2.2.2.2.2.2.2.2.2.1.length : Int)
(cut a0.2.2.2.2.2.2.2.2.2.2.2.2.2.2.2.2.2.2.2.2.2.2.1 0 (if (40 : Int) < x7 then (40 : Int) else x7)).bind fun y9 =>
let x10 := (a0.2.2.2.2.2.2.2.2.2.2.2.2.2.2.2.2.2.2.1.length : Int)
(cut a0.2.2.2.2.2.2.2.2.2.2.2.2.2.2.2.2.2.2.1 0 (if (200 : Int) < x10 then (200 : Int) else x10)).bind fun y12 =>
let x13 := (a0.2.2.2.2.2.2.2.2.2.2.2.2.2.2.2.2.2.2.2.1.length : Int)
(cut a0.2.2.2.2.2.2.2.2.2.2.2.2.2.2.2.2.2.2.2.1 0 (if (30 : Int) < x13 then (30 : Int) else x13)).bind fun y15 =>
(g19 (a0.1, a0.2.1, y3, a0.2.2.2.1, a0.2.2.2.2.1, a0.2.2.2.2.2.1, y6, a0.2.2.2.2.2.2.2.1, a0.2.2.2.2.2.2.2.2.1, a0.2.2.2.2.2.2.2.2.2.1, a0.2.2.2.2.2.2.2.2.2.2.1, a0.2.2.2.2.2.2.2.2.2.2.2.1, a0.2.2.2.2.2.2.2.2.2.2.2.2.1, a0.2.2.2.2.2.2.2.2.2.2.2.2.2.1, a0.2.2.2.2.2.2.2.2.2.2.2.2.2.2.1, a0.2.2.2.2.2.2.2.2.2.2.2.2.2.2.2.1, a0.2.2.2.2.2.2.2.2.2.2.2.2.2.2.2.2.1, a0.2.2.2.2.2.2.2.2.2.2.2.2.2.2.2.2.2.1, y12, y15, a0.2.2.2.2.2.2.2.2.2.2.2.2.2.2.2.2.2.2.2.2.1, a0.2.2.2.2.2.2.2.2.2.2.2.2.2.2.2.2.2.2.2.2.2.1, y9, a0.2.2.2.2.2.2.2.2.2.2.2.2.2.2.2.2.2.2.2.2.2.2.2)).bind fun y16 =>
some y16
noncomputable def tf17 : TF := .par ⟨[.v YSending], YSending⟩ (fun x => g17 x)
theorem e17 : evFn (tabU [(19, tf19)]) ⟨F17.res, F17.keep, tf17.sg⟩ T17 = fun x => g17 x := by kernel_rfl
theorem o17 : TOK (EF pg) 17 tf17 := tok_of p17 rfl (tabU_cons o19 (tabU_nil)) ⟨rfl, rfl, by decide⟩ rfl (rndOk_of rfl) trivial fun x y h => (congrFun e17 x).trans h
/-- heliograph/sender.in -/
noncomputable def h42 (a0 : Int) (a1 : Int) (a2 : Int) : Bool :=
(if (decide (a0 ≥ a1)) then (decide (a0 ≤ a2)) else false)
noncomputable def tf42 : TF := .tot ⟨[.v (.i .i64), .v (.i .i64), .v (.i .i64)], .b⟩ (fun x => h42 x.1 x.2.1 x.2.2)
theorem e42 : evFn (tabU []) ⟨F42.res, F42.keep, tf42.sg⟩ T42 = fun x => some (h42 x.1 x.2.1 x.2.2) := by kernel_rfl
theorem o42 : TOK (EF pg) 42 tf42 := tok_of p42 rfl (tabU_nil) ⟨rfl, rfl, by decide⟩ rfl (rndOk_of rfl) trivial fun x y h => (congrFun e42 x).trans h
/-- heliograph/sender.begins -/
noncomputable def h35 (a0 : Start) : Bool :=
(if (if (if (if (h42 a0.1 (1 : Int) (6 : Int)) then (decide (a0.2.1 > (0 : Int))) else false) then (h42 (a0.2.2.1.length : Int) (1 : Int) (512 : Int)) else false) then (h42 a0.2.2.2.1 (1 : Int) (4096 : Int)) else false) then (h42 a0.2.2.2.2 (1 : Int) (16 : Int)) else false)
noncomputable def tf35 : TF := .tot ⟨[.v YStart], .b⟩ (fun x => h35 x)
theorem e35 : evFn (tabU [(42, tf42)]) ⟨F35.res, F35.keep, tf35.sg⟩ T35 = fun x => some (h35 x) := by kernel_rfl
theorem o35 : TOK (EF pg) 35 tf35 := tok_of p35 rfl (tabU_cons o42 (tabU_nil)) ⟨rfl, rfl, by decide⟩ rfl (rndOk_of rfl) trivial fun x y h => (congrFun e35 x).trans h
/-- heliograph/sender.moment -/
noncomputable def h36 (a0 : Int) : Bool :=
(h42 a0 (0 : Int) (1048576 : Int))
noncomputable def tf36 : TF := .tot ⟨[.v (.i .i64)], .b⟩ (fun x => h36 x)
theorem e36 : evFn (tabU [(42, tf42)]) ⟨F36.res, F36.keep, tf36.sg⟩ T36 = fun x => some (h36 x) := by kernel_rfl
theorem o36 : TOK (EF pg) 36 tf36 := tok_of p36 rfl (tabU_cons o42 (tabU_nil)) ⟨rfl, rfl, by decide⟩ rfl (rndOk_of rfl) trivial fun x y h => (congrFun e36 x).trans h
/-- heliograph/sender.ranked -/
noncomputable def g43x0 (s : Int × Int × (List Claim) × Int × Int) : Option ((Int × Int × (List Claim) × Int × Int) ⊕ (Unit ⊕ Bool)) :=
if (decide (s.2.2.2.2 < s.2.2.2.1)) then
((idx s.2.2.1 s.2.2.2.2).bind fun y3 =>
if (if (if (if (decide (y3.2 < (1 : Int))) then true else (decide (y3.1 ≤ s.2.1))) then true else (decide (y3.1 ≥ s.1))) then true else (decide (y3.2 > (IntKind.i64.wrap (s.1 - y3.1))))) then
(some (Sum.inr (Sum.inr (false))))
else
(
some (Sum.inl (s.1, (IntKind.i64.wrap (y3.1 + y3.2)), s.2.2.1, s.2.2.2.1, (IntKind.i64.wrap (s.2.2.2.2 + (1 : Int)))))))
else
(some (Sum.inr (Sum.inl ())))
noncomputable def g43 (a0 : List Claim) (a1 : Int) : Option Bool :=
(lpU g43x0 (a1, (-1 : Int), a0, (a0.length : Int), (0 : Int))).bind fun z14 =>
match z14 with
| Sum.inl z15 => (some true)
| Sum.inr z16 => (some z16)
noncomputable def tf43 : TF := .par ⟨[.v (.l .ro YClaim), .v (.i .i64)], .b⟩ (fun x => g43 x.1 x.2)
theorem e43 : evFn (tabU []) ⟨F43.res, F43.keep, tf43.sg⟩ T43 = fun x => g43 x.1 x.2 := by kernel_rfl
theorem o43 : TOK (EF pg) 43 tf43 := tok_of p43 rfl (tabU_nil) ⟨rfl, rfl, by decide⟩ rfl (rndOk_of rfl) trivial fun x y h => (congrFun e43 x).trans h
/-- slices.Equal[[]byte,byte] -/
noncomputable def g45x0 (s : (List Int) × (List Int) × Int × Int) : Option (((List Int) × (List Int) × Int × Int) ⊕ (Unit ⊕ Bool)) :=
if (decide (s.2.2.2 < s.2.2.1)) then
((idx s.1 s.2.2.2).bind fun y6 =>
(idx s.2.1 s.2.2.2).bind fun y7 =>
if (y6 != y7) then
(some (Sum.inr (Sum.inr (false))))
else
(
some (Sum.inl (s.1, s.2.1, s.2.2.1, (IntKind.i64.wrap (s.2.2.2 + (1 : Int)))))))
else
(some (Sum.inr (Sum.inl ())))
noncomputable def g45 (a0 : List Int) (a1 : List Int) : Option Bool :=
if ((a0.length : Int) != (a1.length : Int)) then
(some false)
else
(
(lpU g45x0 (a0, a1, (a0.length : Int), (0 : Int))).bind fun z10 =>
match z10 with
| Sum.inl z11 => (some true)
| Sum.inr z12 => (some z12))
noncomputable def tf45 : TF := .par ⟨[.v (.l .ro (.i .u8)), .v (.l .ro (.i .u8))], .b⟩ (fun x => g45 x.1 x.2)
theorem e45 : evFn (tabU []) ⟨F45.res, F45.keep, tf45.sg⟩ T45 = fun x => g45 x.1 x.2 := by kernel_rfl
theorem o45 : TOK (EF pg) 45 tf45 := tok_of p45 rfl (tabU_nil) ⟨rfl, rfl, by decide⟩ rfl (rndOk_of rfl) trivial fun x y h => (congrFun e45 x).trans h
/-- slices.Equal[[]heliograph/api.Claim,heliograph/api.Claim] -/
noncomputable def g48x0 (s : (List Claim) × (List Claim) × Int × Int) : Option (((List Claim) × (List Claim) × Int × Int) ⊕ (Unit ⊕ Bool)) :=
if (decide (s.2.2.2 < s.2.2.1)) then
((idx s.1 s.2.2.2).bind fun y6 =>
(idx s.2.1 s.2.2.2).bind fun y7 =>
if (!((y6.1 == y7.1) && ((y6.2 == y7.2) && (true)))) then
(some (Sum.inr (Sum.inr (false))))
else
(
some (Sum.inl (s.1, s.2.1, s.2.2.1, (IntKind.i64.wrap (s.2.2.2 + (1 : Int)))))))
else
(some (Sum.inr (Sum.inl ())))
noncomputable def g48 (a0 : List Claim) (a1 : List Claim) : Option Bool :=
if ((a0.length : Int) != (a1.length : Int)) then
(some false)
else
(
(lpU g48x0 (a0, a1, (a0.length : Int), (0 : Int))).bind fun z10 =>
match z10 with
| Sum.inl z11 => (some true)
| Sum.inr z12 => (some z12))
noncomputable def tf48 : TF := .par ⟨[.v (.l .ro YClaim), .v (.l .ro YClaim)], .b⟩ (fun x => g48 x.1 x.2)
theorem e48 : evFn (tabU []) ⟨F48.res, F48.keep, tf48.sg⟩ T48 = fun x => g48 x.1 x.2 := by kernel_rfl
theorem o48 : TOK (EF pg) 48 tf48 := tok_of p48 rfl (tabU_nil) ⟨rfl, rfl, by decide⟩ rfl (rndOk_of rfl) trivial fun x y h => (congrFun e48 x).trans h
/-- slices.Equal[[]uint32,uint32] -/
noncomputable def g49x0 (s : (List Int) × (List Int) × Int × Int) : Option (((List Int) × (List Int) × Int × Int) ⊕ (Unit ⊕ Bool)) :=
if (decide (s.2.2.2 < s.2.2.1)) then
((idx s.1 s.2.2.2).bind fun y6 =>
(idx s.2.1 s.2.2.2).bind fun y7 =>
if (y6 != y7) then
(some (Sum.inr (Sum.inr (false))))
else
(
some (Sum.inl (s.1, s.2.1, s.2.2.1, (IntKind.i64.wrap (s.2.2.2 + (1 : Int)))))))
else
(some (Sum.inr (Sum.inl ())))
noncomputable def g49 (a0 : List Int) (a1 : List Int) : Option Bool :=
if ((a0.length : Int) != (a1.length : Int)) then
(some false)
else
(
(lpU g49x0 (a0, a1, (a0.length : Int), (0 : Int))).bind fun z10 =>
match z10 with
| Sum.inl z11 => (some true)
| Sum.inr z12 => (some z12))
noncomputable def tf49 : TF := .par ⟨[.v (.l .ro (.i .u32)), .v (.l .ro (.i .u32))], .b⟩ (fun x => g49 x.1 x.2)
theorem e49 : evFn (tabU []) ⟨F49.res, F49.keep, tf49.sg⟩ T49 = fun x => g49 x.1 x.2 := by kernel_rfl
theorem o49 : TOK (EF pg) 49 tf49 := tok_of p49 rfl (tabU_nil) ⟨rfl, rfl, by decide⟩ rfl (rndOk_of rfl) trivial fun x y h => (congrFun e49 x).trans h
/-- heliograph/segment.Forward -/
noncomputable def g52 (a0 : Segment) : Option Bool :=
let x1 := a0.1 == (1 : Int)
if x1 then
(if x1 then
(some true)
else
(some false))
else
(let x2 := a0.1 == (3 : Int)
if x2 then
(if x2 then
(some true)
else
(some false))
else
(let x3 := a0.1 == (4 : Int)
if x3 then
(if x3 then
(some true)
else
(some false))
else
(
if (a0.1 == (7 : Int)) then
(some true)
else
(some false))))
noncomputable def tf52 : TF := .par ⟨[.v YSegment], .b⟩ (fun x => g52 x)
theorem e52 : evFn (tabU []) ⟨F52.res, F52.keep, tf52.sg⟩ T52 = fun x => g52 x := by kernel_rfl
theorem o52 : TOK (EF pg) 52 tf52 := tok_of p52 rfl (tabU_nil) ⟨rfl, rfl, by decide⟩ rfl (rndOk_of rfl) trivial fun x y h => (congrFun e52 x).trans h
/-- heliograph/sender.plain -/
noncomputable def h54 (a0 : Sending) (a1 : Int) : Segment :=
(a1, a0.1, a0.2.1, (0 : Int), (0 : Int), (0 : Int), (0 : Int), (0 : Int), (0 : Int), (0 : Int), false, [], [])
noncomputable def tf54 : TF := .tot ⟨[.v YSending, .v (.i .i64)], YSegment⟩ (fun x => h54 x.1 x.2)
theorem e54 : evFn (tabU []) ⟨F54.res, F54.keep, tf54.sg⟩ T54 = fun x => some (h54 x.1 x.2) := by kernel_rfl
theorem o54 : TOK (EF pg) 54 tf54 := tok_of p54 rfl (tabU_nil) ⟨rfl, rfl, by decide⟩ rfl (rndOk_of rfl) trivial fun x y h => (congrFun e54 x).trans h
/-- heliograph/sender.cancels -/
noncomputable def h62 (a0 : Sending) : Segment :=
let x1 := h54 a0 (4 : Int)
(x1.1, x1.2.1, x1.2.2.1, x1.2.2.2.1, x1.2.2.2.2.1, x1.2.2.2.2.2.1, x1.2.2.2.2.2.2.1, x1.2.2.2.2.2.2.2.1, x1.2.2.2.2.2.2.2.2.1, a0.2.2.2.2.2.2.2.2.2.2.2.2.2.2.2.2.2.2.2.2.2.2.2, x1.2.2.2.2.2.2.2.2.2.2.1, x1.2.2.2.2.2.2.2.2.2.2.2.1, x1.2.2.2.2.2.2.2.2.2.2.2.2)
noncomputable def tf62 : TF := .tot ⟨[.v YSending], YSegment⟩ (fun x => h62 x)
theorem e62 : evFn (tabU [(54, tf54)]) ⟨F62.res, F62.keep, tf62.sg⟩ T62 = fun x => some (h62 x) := by kernel_rfl
theorem o62 : TOK (EF pg) 62 tf62 := tok_of p62 rfl (tabU_cons o54 (tabU_nil)) ⟨rfl, rfl, by decide⟩ rfl (rndOk_of rfl) trivial fun x y h => (congrFun e62 x).trans h
/-- heliograph/sender.giveUp -/
noncomputable def h61 (a0 : Sending) (a1 : Int) (a2 : Int) : Sending × List Segment :=
let x1 := IntKind.i64.wrap (a2 + a0.2.2.2.1)
((a0.1, a0.2.1, a0.2.2.1, a0.2.2.2.1, a0.2.2.2.2.1, (3 : Int), a0.2.2.2.2.2.2.1, a0.2.2.2.2.2.2.2.1, a0.2.2.2.2.2.2.2.2.1, a0.2.2.2.2.2.2.2.2.2.1, a0.2.2.2.2.2.2.2.2.2.2.1, a0.2.2.2.2.2.2.2.2.2.2.2.1, a0.2.2.2.2.2.2.2.2.2.2.2.2.1, a0.2.2.2.2.2.2.2.2.2.2.2.2.2.1, a0.2.2.2.2.2.2.2.2.2.2.2.2.2.2.1, a0.2.2.2.2.2.2.2.2.2.2.2.2.2.2.2.1, a0.2.2.2.2.2.2.2.2.2.2.2.2.2.2.2.2.1, a0.2.2.2.2.2.2.2.2.2.2.2.2.2.2.2.2.2.1, a0.2.2.2.2.2.2.2.2.2.2.2.2.2.2.2.2.2.2.1, a0.2.2.2.2.2.2.2.2.2.2.2.2.2.2.2.2.2.2.2.1, x1, (0 : Int), a0.2.2.2.2.2.2.2.2.2.2.2.2.2.2.2.2.2.2.2.2.2.2.1, a1), [(h62 (a0.1, a0.2.1, a0.2.2.1, a0.2.2.2.1, a0.2.2.2.2.1, (3 : Int), a0.2.2.2.2.2.2.1, a0.2.2.2.2.2.2.2.1, a0.2.2.2.2.2.2.2.2.1, a0.2.2.2.2.2.2.2.2.2.1, a0.2.2.2.2.2.2.2.2.2.2.1, a0.2.2.2.2.2.2.2.2.2.2.2.1, a0.2.2.2.2.2.2.2.2.2.2.2.2.1, a0.2.2.2.2.2.2.2.2.2.2.2.2.2.1, a0.2.2.2.2.2.2.2.2.2.2.2.2.2.2.1, a0.2.2.2.2.2.2.2.2.2.2.2.2.2.2.2.1, a0.2.2.2.2.2.2.2.2.2.2.2.2.2.2.2.2.1, a0.2.2.2.2.2.2.2.2.2.2.2.2.2.2.2.2.2.1, a0.2.2.2.2.2.2.2.2.2.2.2.2.2.2.2.2.2.2.1, a0.2.2.2.2.2.2.2.2.2.2.2.2.2.2.2.2.2.2.2.1, x1, (0 : Int), a0.2.2.2.2.2.2.2.2.2.2.2.2.2.2.2.2.2.2.2.2.2.2.1, a1))])
noncomputable def tf61 : TF := .tot ⟨[.v YSending, .v (.i .i64), .v (.i .i64)], (.t YSending (.l .ro YSegment))⟩ (fun x => h61 x.1 x.2.1 x.2.2)
theorem e61 : evFn (tabU [(62, tf62)]) ⟨F61.res, F61.keep, tf61.sg⟩ T61 = fun x => some (h61 x.1 x.2.1 x.2.2) := by kernel_rfl
theorem o61 : TOK (EF pg) 61 tf61 := tok_of p61 rfl (tabU_cons o62 (tabU_nil)) ⟨rfl, rfl, by decide⟩ rfl (rndOk_of rfl) trivial fun x y h => (congrFun e61 x).trans h
/-- slices.Clone[[]byte,byte] -/
noncomputable def g63 (a0 : List Int) : Option (List Int) :=
amb (List.isEmpty a0) false fun y1 =>
if y1 then
(some [])
else
((apd 1 [] a0).bind fun y2 =>
some y2)
noncomputable def tf63 : TF := .par ⟨[.v (.l .ro (.i .u8))], (.l .ro (.i .u8))⟩ (fun x => g63 x)
theorem e63 : evFn (tabU []) ⟨F63.res, F63.keep, tf63.sg⟩ T63 = fun x => g63 x := by kernel_rfl
theorem o63 : TOK (EF pg) 63 tf63 := tok_of p63 rfl (tabU_nil) ⟨rfl, rfl, by decide⟩ rfl (rndOk_of rfl) trivial fun x y h => (congrFun e63 x).trans h
/-- heliograph/sender.send -/
noncomputable def g37x0 (s : Int × Int × Int × Int × Int × (List Int) × Int × Int × Int × (List Claim) × Int × Int × Int × Int × Int × Int × Int × Int × Int × Int × Bool × (List Int) × (List Claim) × Int × Int × (List Int) × Int × Int × Int × (List Int) × Int × Int × Int × (List Claim) × Int × Int × Int × Int × Int × Int × Int × Int × Int × Int × Bool × (List Int) × (List Claim) × Int × Int × (List Int) × Int × List Segment) : Option ((Int × Int × Int × Int × Int × (List Int) × Int × Int × Int × (List Claim) × Int × Int × Int × Int × Int × Int × Int × Int × Int × Int × Bool × (List Int) × (List Claim) × Int × Int × (List Int) × Int × Int × Int × (List Int) × Int × Int × Int × (List Claim) × Int × Int × Int × Int × Int × Int × Int × Int × Int × Int × Bool × (List Int) × (List Claim) × Int × Int × (List Int) × Int × List Segment) ⊕ ((Int × Int × (List Int) × Int × Int × Int × (List Claim) × Int × Int × Int × Int × Int × Int × Int × Int × Int × Int × Bool × (List Int) × (List Claim) × Int × Int × (List Int) × Int × Int × Int × (List Int) × Int × Int × Int × (List Claim) × Int × Int × Int × Int × Int × Int × Int × Int × Int × Int × Bool × (List Int) × (List Claim) × Int × Int × (List Int) × Int × List Segment))) :=
if (decide (s.2.1 < s.1)) then
(let x3 := IntKind.i64.wrap (s.2.1 + (100 : Int))
(cut s.2.2.2.2.2.1 s.2.1 (if s.1 < x3 then s.1 else x3)).bind fun y5 =>
(g63 y5).bind fun y7 =>
(apd 128 s.2.2.2.2.2.2.2.2.2.2.2.2.2.2.2.2.2.2.2.2.2.2.2.2.2.2.2.2.2.2.2.2.2.2.2.2.2.2.2.2.2.2.2.2.2.2.2.2.2.2.2 ([((1 : Int), s.2.2.2.1, s.2.2.2.2.1, (0 : Int), (0 : Int), s.2.1, (s.2.2.2.2.2.1.length : Int), (0 : Int), (0 : Int), (0 : Int), false, y7, [])])).bind fun y8 =>
some (Sum.inl (s.1, (IntKind.i64.wrap (s.2.1 + (100 : Int))), s.2.2.1, s.2.2.2.1, s.2.2.2.2.1, s.2.2.2.2.2.1, s.2.2.2.2.2.2.1, s.2.2.2.2.2.2.2.1, s.2.2.2.2.2.2.2.2.1, s.2.2.2.2.2.2.2.2.2.1, s.2.2.2.2.2.2.2.2.2.2.1, s.2.2.2.2.2.2.2.2.2.2.2.1, s.2.2.2.2.2.2.2.2.2.2.2.2.1, s.2.2.2.2.2.2.2.2.2.2.2.2.2.1, s.2.2.2.2.2.2.2.2.2.2.2.2.2.2.1, s.2.2.2.2.2.2.2.2.2.2.2.2.2.2.2.1, s.2.2.2.2.2.2.2.2.2.2.2.2.2.2.2.2.1, s.2.2.2.2.2.2.2.2.2.2.2.2.2.2.2.2.2.1, s.2.2.2.2.2.2.2.2.2.2.2.2.2.2.2.2.2.2.1, s.2.2.2.2.2.2.2.2.2.2.2.2.2.2.2.2.2.2.2.1, s.2.2.2.2.2.2.2.2.2.2.2.2.2.2.2.2.2.2.2.2.1, s.2.2.2.2.2.2.2.2.2.2.2.2.2.2.2.2.2.2.2.2.2.1, s.2.2.2.2.2.2.2.2.2.2.2.2.2.2.2.2.2.2.2.2.2.2.1, s.2.2.2.2.2.2.2.2.2.2.2.2.2.2.2.2.2.2.2.2.2.2.2.1, s.2.2.2.2.2.2.2.2.2.2.2.2.2.2.2.2.2.2.2.2.2.2.2.2.1, s.2.2.2.2.2.2.2.2.2.2.2.2.2.2.2.2.2.2.2.2.2.2.2.2.2.1, s.2.2.2.2.2.2.2.2.2.2.2.2.2.2.2.2.2.2.2.2.2.2.2.2.2.2.1, s.2.2.2.2.2.2.2.2.2.2.2.2.2.2.2.2.2.2.2.2.2.2.2.2.2.2.2.1, s.2.2.2.2.2.2.2.2.2.2.2.2.2.2.2.2.2.2.2.2.2.2.2.2.2.2.2.2.1, s.2.2.2.2.2.2.2.2.2.2.2.2.2.2.2.2.2.2.2.2.2.2.2.2.2.2.2.2.2.1, s.2.2.2.2.2.2.2.2.2.2.2.2.2.2.2.2.2.2.2.2.2.2.2.2.2.2.2.2.2.2.1, s.2.2.2.2.2.2.2.2.2.2.2.2.2.2.2.2.2.2.2.2.2.2.2.2.2.2.2.2.2.2.2.1, s.2.2.2.2.2.2.2.2.2.2.2.2.2.2.2.2.2.2.2.2.2.2.2.2.2.2.2.2.2.2.2.2.1, s.2.2.2.2.2.2.2.2.2.2.2.2.2.2.2.2.2.2.2.2.2.2.2.2.2.2.2.2.2.2.2.2.2.1, s.2.2.2.2.2.2.2.2.2.2.2.2.2.2.2.2.2.2.2.2.2.2.2.2.2.2.2.2.2.2.2.2.2.2.1, s.2.2.2.2.2.2.2.2.2.2.2.2.2.2.2.2.2.2.2.2.2.2.2.2.2.2.2.2.2.2.2.2.2.2.2.1, s.2.2.2.2.2.2.2.2.2.2.2.2.2.2.2.2.2.2.2.2.2.2.2.2.2.2.2.2.2.2.2.2.2.2.2.2.1, s.2.2.2.2.2.2.2.2.2.2.2.2.2.2.2.2.2.2.2.2.2.2.2.2.2.2.2.2.2.2.2.2.2.2.2.2.2.1, s.2.2.2.2.2.2.2.2.2.2.2.2.2.2.2.2.2.2.2.2.2.2.2.2.2.2.2.2.2.2.2.2.2.2.2.2.2.2.1, s.2.2.2.2.2.2.2.2.2.2.2.2.2.2.2.2.2.2.2.2.2.2.2.2.2.2.2.2.2.2.2.2.2.2.2.2.2.2.2.1, s.2.2.2.2.2.2.2.2.2.2.2.2.2.2.2.2.2.2.2.2.2.2.2.2.2.2.2.2.2.2.2.2.2.2.2.2.2.2.2.2.1, s.2.2.2.2.2.2.2.2.2.2.2.2.2.2.2.2.2.2.2.2.2.2.2.2.2.2.2.2.2.2.2.2.2.2.2.2.2.2.2.2.2.1, s.2.2.2.2.2.2.2.2.2.2.2.2.2.2.2.2.2.2.2.2.2.2.2.2.2.2.2.2.2.2.2.2.2.2.2.2.2.2.2.2.2.2.1, s.2.2.2.2.2.2.2.2.2.2.2.2.2.2.2.2.2.2.2.2.2.2.2.2.2.2.2.2.2.2.2.2.2.2.2.2.2.2.2.2.2.2.2.1, s.2.2.2.2.2.2.2.2.2.2.2.2.2.2.2.2.2.2.2.2.2.2.2.2.2.2.2.2.2.2.2.2.2.2.2.2.2.2.2.2.2.2.2.2.1, s.2.2.2.2.2.2.2.2.2.2.2.2.2.2.2.2.2.2.2.2.2.2.2.2.2.2.2.2.2.2.2.2.2.2.2.2.2.2.2.2.2.2.2.2.2.1, s.2.2.2.2.2.2.2.2.2.2.2.2.2.2.2.2.2.2.2.2.2.2.2.2.2.2.2.2.2.2.2.2.2.2.2.2.2.2.2.2.2.2.2.2.2.2.1, s.2.2.2.2.2.2.2.2.2.2.2.2.2.2.2.2.2.2.2.2.2.2.2.2.2.2.2.2.2.2.2.2.2.2.2.2.2.2.2.2.2.2.2.2.2.2.2.1, s.2.2.2.2.2.2.2.2.2.2.2.2.2.2.2.2.2.2.2.2.2.2.2.2.2.2.2.2.2.2.2.2.2.2.2.2.2.2.2.2.2.2.2.2.2.2.2.2.1, s.2.2.2.2.2.2.2.2.2.2.2.2.2.2.2.2.2.2.2.2.2.2.2.2.2.2.2.2.2.2.2.2.2.2.2.2.2.2.2.2.2.2.2.2.2.2.2.2.2.1, s.2.2.2.2.2.2.2.2.2.2.2.2.2.2.2.2.2.2.2.2.2.2.2.2.2.2.2.2.2.2.2.2.2.2.2.2.2.2.2.2.2.2.2.2.2.2.2.2.2.2.1, y8)))
else
(some (Sum.inr (s.2.2.2.1, s.2.2.2.2.1, s.2.2.2.2.2.1, s.2.2.2.2.2.2.1, s.2.2.2.2.2.2.2.1, s.2.2.2.2.2.2.2.2.1, s.2.2.2.2.2.2.2.2.2.1, s.2.2.2.2.2.2.2.2.2.2.1, s.2.2.2.2.2.2.2.2.2.2.2.1, s.2.2.2.2.2.2.2.2.2.2.2.2.1, s.2.2.2.2.2.2.2.2.2.2.2.2.2.1, s.2.2.2.2.2.2.2.2.2.2.2.2.2.2.1, s.2.2.2.2.2.2.2.2.2.2.2.2.2.2.2.1, s.2.2.2.2.2.2.2.2.2.2.2.2.2.2.2.2.1, s.2.2.2.2.2.2.2.2.2.2.2.2.2.2.2.2.2.1, s.2.2.2.2.2.2.2.2.2.2.2.2.2.2.2.2.2.2.1, s.2.2.2.2.2.2.2.2.2.2.2.2.2.2.2.2.2.2.2.1, s.2.2.2.2.2.2.2.2.2.2.2.2.2.2.2.2.2.2.2.2.1, s.2.2.2.2.2.2.2.2.2.2.2.2.2.2.2.2.2.2.2.2.2.1, s.2.2.2.2.2.2.2.2.2.2.2.2.2.2.2.2.2.2.2.2.2.2.1, s.2.2.2.2.2.2.2.2.2.2.2.2.2.2.2.2.2.2.2.2.2.2.2.1, s.2.2.2.2.2.2.2.2.2.2.2.2.2.2.2.2.2.2.2.2.2.2.2.2.1, s.2.2.2.2.2.2.2.2.2.2.2.2.2.2.2.2.2.2.2.2.2.2.2.2.2.1, s.2.2.2.2.2.2.2.2.2.2.2.2.2.2.2.2.2.2.2.2.2.2.2.2.2.2.1, s.2.2.2.2.2.2.2.2.2.2.2.2.2.2.2.2.2.2.2.2.2.2.2.2.2.2.2.1, s.2.2.2.2.2.2.2.2.2.2.2.2.2.2.2.2.2.2.2.2.2.2.2.2.2.2.2.2.1, s.2.2.2.2.2.2.2.2.2.2.2.2.2.2.2.2.2.2.2.2.2.2.2.2.2.2.2.2.2.1, s.2.2.2.2.2.2.2.2.2.2.2.2.2.2.2.2.2.2.2.2.2.2.2.2.2.2.2.2.2.2.1, s.2.2.2.2.2.2.2.2.2.2.2.2.2.2.2.2.2.2.2.2.2.2.2.2.2.2.2.2.2.2.2.1, s.2.2.2.2.2.2.2.2.2.2.2.2.2.2.2.2.2.2.2.2.2.2.2.2.2.2.2.2.2.2.2.2.1, s.2.2.2.2.2.2.2.2.2.2.2.2.2.2.2.2.2.2.2.2.2.2.2.2.2.2.2.2.2.2.2.2.2.1, s.2.2.2.2.2.2.2.2.2.2.2.2.2.2.2.2.2.2.2.2.2.2.2.2.2.2.2.2.2.2.2.2.2.2.1, s.2.2.2.2.2.2.2.2.2.2.2.2.2.2.2.2.2.2.2.2.2.2.2.2.2.2.2.2.2.2.2.2.2.2.2.1, s.2.2.2.2.2.2.2.2.2.2.2.2.2.2.2.2.2.2.2.2.2.2.2.2.2.2.2.2.2.2.2.2.2.2.2.2.1, s.2.2.2.2.2.2.2.2.2.2.2.2.2.2.2.2.2.2.2.2.2.2.2.2.2.2.2.2.2.2.2.2.2.2.2.2.2.1, s.2.2.2.2.2.2.2.2.2.2.2.2.2.2.2.2.2.2.2.2.2.2.2.2.2.2.2.2.2.2.2.2.2.2.2.2.2.2.1, s.2.2.2.2.2.2.2.2.2.2.2.2.2.2.2.2.2.2.2.2.2.2.2.2.2.2.2.2.2.2.2.2.2.2.2.2.2.2.2.1, s.2.2.2.2.2.2.2.2.2.2.2.2.2.2.2.2.2.2.2.2.2.2.2.2.2.2.2.2.2.2.2.2.2.2.2.2.2.2.2.2.1, s.2.2.2.2.2.2.2.2.2.2.2.2.2.2.2.2.2.2.2.2.2.2.2.2.2.2.2.2.2.2.2.2.2.2.2.2.2.2.2.2.2.1, s.2.2.2.2.2.2.2.2.2.2.2.2.2.2.2.2.2.2.2.2.2.2.2.2.2.2.2.2.2.2.2.2.2.2.2.2.2.2.2.2.2.2.1, s.2.2.2.2.2.2.2.2.2.2.2.2.2.2.2.2.2.2.2.2.2.2.2.2.2.2.2.2.2.2.2.2.2.2.2.2.2.2.2.2.2.2.2.1, s.2.2.2.2.2.2.2.2.2.2.2.2.2.2.2.2.2.2.2.2.2.2.2.2.2.2.2.2.2.2.2.2.2.2.2.2.2.2.2.2.2.2.2.2.1, s.2.2.2.2.2.2.2.2.2.2.2.2.2.2.2.2.2.2.2.2.2.2.2.2.2.2.2.2.2.2.2.2.2.2.2.2.2.2.2.2.2.2.2.2.2.1, s.2.2.2.2.2.2.2.2.2.2.2.2.2.2.2.2.2.2.2.2.2.2.2.2.2.2.2.2.2.2.2.2.2.2.2.2.2.2.2.2.2.2.2.2.2.2.1, s.2.2.2.2.2.2.2.2.2.2.2.2.2.2.2.2.2.2.2.2.2.2.2.2.2.2.2.2.2.2.2.2.2.2.2.2.2.2.2.2.2.2.2.2.2.2.2.1, s.2.2.2.2.2.2.2.2.2.2.2.2.2.2.2.2.2.2.2.2.2.2.2.2.2.2.2.2.2.2.2.2.2.2.2.2.2.2.2.2.2.2.2.2.2.2.2.2.1, s.2.2.2.2.2.2.2.2.2.2.2.2.2.2.2.2.2.2.2.2.2.2.2.2.2.2.2.2.2.2.2.2.2.2.2.2.2.2.2.2.2.2.2.2.2.2.2.2.2.1, s.2.2.2.2.2.2.2.2.2.2.2.2.2.2.2.2.2.2.2.2.2.2.2.2.2.2.2.2.2.2.2.2.2.2.2.2.2.2.2.2.2.2.2.2.2.2.2.2.2.2.1, s.2.2.2.2.2.2.2.2.2.2.2.2.2.2.2.2.2.2.2.2.2.2.2.2.2.2.2.2.2.2.2.2.2.2.2.2.2.2.2.2.2.2.2.2.2.2.2.2.2.2.2)))
noncomputable def g37_r0 (y : Claim) (s : Int × Int × Int × Int × (List Int) × Int × Int × Int × (List Claim) × Int × Int × Int × Int × Int × Int × Int × Int × Int × Int × Bool × (List Int) × (List Claim) × Int × Int × (List Int) × Int × Int × Int × (List Int) × Int × Int × Int × (List Claim) × Int × Int × Int × Int × Int × Int × Int × Int × Int × Int × Bool × (List Int) × (List Claim) × Int × Int × (List Int) × Int × List Segment) : Option ((Int × Int × Int × Int × (List Int) × Int × Int × Int × (List Claim) × Int × Int × Int × Int × Int × Int × Int × Int × Int × Int × Bool × (List Int) × (List Claim) × Int × Int × (List Int) × Int × Int × Int × (List Int) × Int × Int × Int × (List Claim) × Int × Int × Int × Int × Int × Int × Int × Int × Int × Int × Bool × (List Int) × (List Claim) × Int × Int × (List Int) × Int × List Segment) ⊕ Unit) :=
(lpU g37x0 ((IntKind.i64.wrap (y.1 + y.2)), y.1, y.2, s.2.2.1, s.2.2.2.1, s.2.2.2.2.1, s.2.2.2.2.2.1, s.2.2.2.2.2.2.1, s.2.2.2.2.2.2.2.1, s.2.2.2.2.2.2.2.2.1, s.2.2.2.2.2.2.2.2.2.1, s.2.2.2.2.2.2.2.2.2.2.1, s.2.2.2.2.2.2.2.2.2.2.2.1, s.2.2.2.2.2.2.2.2.2.2.2.2.1, s.2.2.2.2.2.2.2.2.2.2.2.2.2.1, s.2.2.2.2.2.2.2.2.2.2.2.2.2.2.1, s.2.2.2.2.2.2.2.2.2.2.2.2.2.2.2.1, s.2.2.2.2.2.2.2.2.2.2.2.2.2.2.2.2.1, s.2.2.2.2.2.2.2.2.2.2.2.2.2.2.2.2.2.1, s.2.2.2.2.2.2.2.2.2.2.2.2.2.2.2.2.2.2.1, s.2.2.2.2.2.2.2.2.2.2.2.2.2.2.2.2.2.2.2.1, s.2.2.2.2.2.2.2.2.2.2.2.2.2.2.2.2.2.2.2.2.1, s.2.2.2.2.2.2.2.2.2.2.2.2.2.2.2.2.2.2.2.2.2.1, s.2.2.2.2.2.2.2.2.2.2.2.2.2.2.2.2.2.2.2.2.2.2.1, s.2.2.2.2.2.2.2.2.2.2.2.2.2.2.2.2.2.2.2.2.2.2.2.1, s.2.2.2.2.2.2.2.2.2.2.2.2.2.2.2.2.2.2.2.2.2.2.2.2.1, s.2.2.2.2.2.2.2.2.2.2.2.2.2.2.2.2.2.2.2.2.2.2.2.2.2.1, s.2.2.2.2.2.2.2.2.2.2.2.2.2.2.2.2.2.2.2.2.2.2.2.2.2.2.1, s.2.2.2.2.2.2.2.2.2.2.2.2.2.2.2.2.2.2.2.2.2.2.2.2.2.2.2.1, s.2.2.2.2.2.2.2.2.2.2.2.2.2.2.2.2.2.2.2.2.2.2.2.2.2.2.2.2.1, s.2.2.2.2.2.2.2.2.2.2.2.2.2.2.2.2.2.2.2.2.2.2.2.2.2.2.2.2.2.1, s.2.2.2.2.2.2.2.2.2.2.2.2.2.2.2.2.2.2.2.2.2.2.2.2.2.2.2.2.2.2.1, s.2.2.2.2.2.2.2.2.2.2.2.2.2.2.2.2.2.2.2.2.2.2.2.2.2.2.2.2.2.2.2.1, s.2.2.2.2.2.2.2.2.2.2.2.2.2.2.2.2.2.2.2.2.2.2.2.2.2.2.2.2.2.2.2.2.1, s.2.2.2.2.2.2.2.2.2.2.2.2.2.2.2.2.2.2.2.2.2.2.2.2.2.2.2.2.2.2.2.2.2.1, s.2.2.2.2.2.2.2.2.2.2.2.2.2.2.2.2.2.2.2.2.2.2.2.2.2.2.2.2.2.2.2.2.2.2.1, s.2.2.2.2.2.2.2.2.2.2.2.2.2.2.2.2.2.2.2.2.2.2.2.2.2.2.2.2.2.2.2.2.2.2.2.1, s.2.2.2.2.2.2.2.2.2.2.2.2.2.2.2.2.2.2.2.2.2.2.2.2.2.2.2.2.2.2.2.2.2.2.2.2.1, s.2.2.2.2.2.2.2.2.2.2.2.2.2.2.2.2.2.2.2.2.2.2.2.2.2.2.2.2.2.2.2.2.2.2.2.2.2.1, s.2.2.2.2.2.2.2.2.2.2.2.2.2.2.2.2.2.2.2.2.2.2.2.2.2.2.2.2.2.2.2.2.2.2.2.2.2.2.1, s.2.2.2.2.2.2.2.2.2.2.2.2.2.2.2.2.2.2.2.2.2.2.2.2.2.2.2.2.2.2.2.2.2.2.2.2.2.2.2.1, s.2.2.2.2.2.2.2.2.2.2.2.2.2.2.2.2.2.2.2.2.2.2.2.2.2.2.2.2.2.2.2.2.2.2.2.2.2.2.2.2.1, s.2.2.2.2.2.2.2.2.2.2.2.2.2.2.2.2.2.2.2.2.2.2.2.2.2.2.2.2.2.2.2.2.2.2.2.2.2.2.2.2.2.1, s.2.2.2.2.2.2.2.2.2.2.2.2.2.2.2.2.2.2.2.2.2.2.2.2.2.2.2.2.2.2.2.2.2.2.2.2.2.2.2.2.2.2.1, s.2.2.2.2.2.2.2.2.2.2.2.2.2.2.2.2.2.2.2.2.2.2.2.2.2.2.2.2.2.2.2.2.2.2.2.2.2.2.2.2.2.2.2.1, s.2.2.2.2.2.2.2.2.2.2.2.2.2.2.2.2.2.2.2.2.2.2.2.2.2.2.2.2.2.2.2.2.2.2.2.2.2.2.2.2.2.2.2.2.1, s.2.2.2.2.2.2.2.2.2.2.2.2.2.2.2.2.2.2.2.2.2.2.2.2.2.2.2.2.2.2.2.2.2.2.2.2.2.2.2.2.2.2.2.2.2.1, s.2.2.2.2.2.2.2.2.2.2.2.2.2.2.2.2.2.2.2.2.2.2.2.2.2.2.2.2.2.2.2.2.2.2.2.2.2.2.2.2.2.2.2.2.2.2.1, s.2.2.2.2.2.2.2.2.2.2.2.2.2.2.2.2.2.2.2.2.2.2.2.2.2.2.2.2.2.2.2.2.2.2.2.2.2.2.2.2.2.2.2.2.2.2.2.1, s.2.2.2.2.2.2.2.2.2.2.2.2.2.2.2.2.2.2.2.2.2.2.2.2.2.2.2.2.2.2.2.2.2.2.2.2.2.2.2.2.2.2.2.2.2.2.2.2.1, s.2.2.2.2.2.2.2.2.2.2.2.2.2.2.2.2.2.2.2.2.2.2.2.2.2.2.2.2.2.2.2.2.2.2.2.2.2.2.2.2.2.2.2.2.2.2.2.2.2.1, s.2.2.2.2.2.2.2.2.2.2.2.2.2.2.2.2.2.2.2.2.2.2.2.2.2.2.2.2.2.2.2.2.2.2.2.2.2.2.2.2.2.2.2.2.2.2.2.2.2.2)).bind fun z10 =>
some (Sum.inl (s.1, s.2.1, z10.1, z10.2.1, z10.2.2.1, z10.2.2.2.1, z10.2.2.2.2.1, z10.2.2.2.2.2.1, z10.2.2.2.2.2.2.1, z10.2.2.2.2.2.2.2.1, z10.2.2.2.2.2.2.2.2.1, z10.2.2.2.2.2.2.2.2.2.1, z10.2.2.2.2.2.2.2.2.2.2.1, z10.2.2.2.2.2.2.2.2.2.2.2.1, z10.2.2.2.2.2.2.2.2.2.2.2.2.1, z10.2.2.2.2.2.2.2.2.2.2.2.2.2.1, z10.2.2.2.2.2.2.2.2.2.2.2.2.2.2.1, z10.2.2.2.2.2.2.2.2.2.2.2.2.2.2.2.1, z10.2.2.2.2.2.2.2.2.2.2.2.2.2.2.2.2.1, z10.2.2.2.2.2.2.2.2.2.2.2.2.2.2.2.2.2.1, z10.2.2.2.2.2.2.2.2.2.2.2.2.2.2.2.2.2.2.1, z10.2.2.2.2.2.2.2.2.2.2.2.2.2.2.2.2.2.2.2.1, z10.2.2.2.2.2.2.2.2.2.2.2.2.2.2.2.2.2.2.2.2.1, z10.2.2.2.2.2.2.2.2.2.2.2.2.2.2.2.2.2.2.2.2.2.1, z10.2.2.2.2.2.2.2.2.2.2.2.2.2.2.2.2.2.2.2.2.2.2.1, z10.2.2.2.2.2.2.2.2.2.2.2.2.2.2.2.2.2.2.2.2.2.2.2.1, z10.2.2.2.2.2.2.2.2.2.2.2.2.2.2.2.2.2.2.2.2.2.2.2.2.1, z10.2.2.2.2.2.2.2.2.2.2.2.2.2.2.2.2.2.2.2.2.2.2.2.2.2.1, z10.2.2.2.2.2.2.2.2.2.2.2.2.2.2.2.2.2.2.2.2.2.2.2.2.2.2.1, z10.2.2.2.2.2.2.2.2.2.2.2.2.2.2.2.2.2.2.2.2.2.2.2.2.2.2.2.1, z10.2.2.2.2.2.2.2.2.2.2.2.2.2.2.2.2.2.2.2.2.2.2.2.2.2.2.2.2.1, z10.2.2.2.2.2.2.2.2.2.2.2.2.2.2.2.2.2.2.2.2.2.2.2.2.2.2.2.2.2.1, z10.2.2.2.2.2.2.2.2.2.2.2.2.2.2.2.2.2.2.2.2.2.2.2.2.2.2.2.2.2.2.1, z10.2.2.2.2.2.2.2.2.2.2.2.2.2.2.2.2.2.2.2.2.2.2.2.2.2.2.2.2.2.2.2.1, z10.2.2.2.2.2.2.2.2.2.2.2.2.2.2.2.2.2.2.2.2.2.2.2.2.2.2.2.2.2.2.2.2.1, z10.2.2.2.2.2.2.2.2.2.2.2.2.2.2.2.2.2.2.2.2.2.2.2.2.2.2.2.2.2.2.2.2.2.1, z10.2.2.2.2.2.2.2.2.2.2.2.2.2.2.2.2.2.2.2.2.2.2.2.2.2.2.2.2.2.2.2.2.2.2.1, z10.2.2.2.2.2.2.2.2.2.2.2.2.2.2.2.2.2.2.2.2.2.2.2.2.2.2.2.2.2.2.2.2.2.2.2.1, z10.2.2.2.2.2.2.2.2.2.2.2.2.2.2.2.2.2.2.2.2.2.2.2.2.2.2.2.2.2.2.2.2.2.2.2.2.1, z10.2.2.2.2.2.2.2.2.2.2.2.2.2.2.2.2.2.2.2.2.2.2.2.2.2.2.2.2.2.2.2.2.2.2.2.2.2.1, z10.2.2.2.2.2.2.2.2.2.2.2.2.2.2.2.2.2.2.2.2.2.2.2.2.2.2.2.2.2.2.2.2.2.2.2.2.2.2.1, z10.2.2.2.2.2.2.2.2.2.2.2.2.2.2.2.2.2.2.2.2.2.2.2.2.2.2.2.2.2.2.2.2.2.2.2.2.2.2.2.1, z10.2.2.2.2.2.2.2.2.2.2.2.2.2.2.2.2.2.2.2.2.2.2.2.2.2.2.2.2.2.2.2.2.2.2.2.2.2.2.2.2.1, z10.2.2.2.2.2.2.2.2.2.2.2.2.2.2.2.2.2.2.2.2.2.2.2.2.2.2.2.2.2.2.2.2.2.2.2.2.2.2.2.2.2.1, z10.2.2.2.2.2.2.2.2.2.2.2.2.2.2.2.2.2.2.2.2.2.2.2.2.2.2.2.2.2.2.2.2.2.2.2.2.2.2.2.2.2.2.1, z10.2.2.2.2.2.2.2.2.2.2.2.2.2.2.2.2.2.2.2.2.2.2.2.2.2.2.2.2.2.2.2.2.2.2.2.2.2.2.2.2.2.2.2.1, z10.2.2.2.2.2.2.2.2.2.2.2.2.2.2.2.2.2.2.2.2.2.2.2.2.2.2.2.2.2.2.2.2.2.2.2.2.2.2.2.2.2.2.2.2.1, z10.2.2.2.2.2.2.2.2.2.2.2.2.2.2.2.2.2.2.2.2.2.2.2.2.2.2.2.2.2.2.2.2.2.2.2.2.2.2.2.2.2.2.2.2.2.1, z10.2.2.2.2.2.2.2.2.2.2.2.2.2.2.2.2.2.2.2.2.2.2.2.2.2.2.2.2.2.2.2.2.2.2.2.2.2.2.2.2.2.2.2.2.2.2.1, z10.2.2.2.2.2.2.2.2.2.2.2.2.2.2.2.2.2.2.2.2.2.2.2.2.2.2.2.2.2.2.2.2.2.2.2.2.2.2.2.2.2.2.2.2.2.2.2.1, z10.2.2.2.2.2.2.2.2.2.2.2.2.2.2.2.2.2.2.2.2.2.2.2.2.2.2.2.2.2.2.2.2.2.2.2.2.2.2.2.2.2.2.2.2.2.2.2.2))
noncomputable def g37 (a0 : Sending) (a1 : Sending) (a2 : Int) (a3 : Int) : Option (Sending × List Segment) :=
(gapH a1).bind fun w14 =>
(foldU g37_r0 w14 (a2, a3, a0.1, a0.2.1, a0.2.2.1, a0.2.2.2.1, a0.2.2.2.2.1, a0.2.2.2.2.2.1, a0.2.2.2.2.2.2.1, a0.2.2.2.2.2.2.2.1, a0.2.2.2.2.2.2.2.2.1, a0.2.2.2.2.2.2.2.2.2.1, a0.2.2.2.2.2.2.2.2.2.2.1, a0.2.2.2.2.2.2.2.2.2.2.2.1, a0.2.2.2.2.2.2.2.2.2.2.2.2.1, a0.2.2.2.2.2.2.2.2.2.2.2.2.2.1, a0.2.2.2.2.2.2.2.2.2.2.2.2.2.2.1, a0.2.2.2.2.2.2.2.2.2.2.2.2.2.2.2.1, a0.2.2.2.2.2.2.2.2.2.2.2.2.2.2.2.2.1, a0.2.2.2.2.2.2.2.2.2.2.2.2.2.2.2.2.2.1, a0.2.2.2.2.2.2.2.2.2.2.2.2.2.2.2.2.2.2.1, a0.2.2.2.2.2.2.2.2.2.2.2.2.2.2.2.2.2.2.2.1, a0.2.2.2.2.2.2.2.2.2.2.2.2.2.2.2.2.2.2.2.2.1, a0.2.2.2.2.2.2.2.2.2.2.2.2.2.2.2.2.2.2.2.2.2.1, a0.2.2.2.2.2.2.2.2.2.2.2.2.2.2.2.2.2.2.2.2.2.2.1, a0.2.2.2.2.2.2.2.2.2.2.2.2.2.2.2.2.2.2.2.2.2.2.2, (0 : Int), (0 : Int), [], (0 : Int), (0 : Int), (0 : Int), [], (0 : Int), (0 : Int), (0 : Int), (0 : Int), (0 : Int), (0 : Int), (0 : Int), (0 : Int), (0 : Int), (0 : Int), false, [], [], (0 : Int), (0 : Int), [], (0 : Int), [])).bind fun z13 =>
match z13 with
| Sum.inl z11 => (let x15 := IntKind.i64.wrap ((z11.2.2.2.2.2.2.2.2.2.2.2.2.2.2.2.2.2.2.2.2.2.2.2.2.2.2.2.2.2.2.2.2.2.2.2.2.2.2.2.2.2.2.2.2.2.2.2.2.2.2.length : Int) - (1 : Int))
(chkI x15 (z11.2.2.2.2.2.2.2.2.2.2.2.2.2.2.2.2.2.2.2.2.2.2.2.2.2.2.2.2.2.2.2.2.2.2.2.2.2.2.2.2.2.2.2.2.2.2.2.2.2.2.length : Int)).bind fun y16 =>
(idx z11.2.2.2.2.2.2.2.2.2.2.2.2.2.2.2.2.2.2.2.2.2.2.2.2.2.2.2.2.2.2.2.2.2.2.2.2.2.2.2.2.2.2.2.2.2.2.2.2.2.2 x15).bind fun y17 =>
let x18 := List.set z11.2.2.2.2.2.2.2.2.2.2.2.2.2.2.2.2.2.2.2.2.2.2.2.2.2.2.2.2.2.2.2.2.2.2.2.2.2.2.2.2.2.2.2.2.2.2.2.2.2.2 (Int.toNat x15) (y17.1, y17.2.1, y17.2.2.1, y17.2.2.2.1, y17.2.2.2.2.1, y17.2.2.2.2.2.1, y17.2.2.2.2.2.2.1, y17.2.2.2.2.2.2.2.1, y17.2.2.2.2.2.2.2.2.1, y17.2.2.2.2.2.2.2.2.2.1, true, y17.2.2.2.2.2.2.2.2.2.2.2.1, y17.2.2.2.2.2.2.2.2.2.2.2.2)
(idx x18 x15).bind fun y19 =>
let x20 := List.set x18 (Int.toNat x15) (y19.1, y19.2.1, y19.2.2.1, z11.1, y19.2.2.2.2.1, y19.2.2.2.2.2.1, y19.2.2.2.2.2.2.1, y19.2.2.2.2.2.2.2.1, y19.2.2.2.2.2.2.2.2.1, y19.2.2.2.2.2.2.2.2.2.1, y19.2.2.2.2.2.2.2.2.2.2.1, y19.2.2.2.2.2.2.2.2.2.2.2.1, y19.2.2.2.2.2.2.2.2.2.2.2.2)
(idx x20 x15).bind fun y21 =>
(idx x20 x15).bind fun y22 =>
(g63 y22.2.2.2.2.2.2.2.2.2.2.2.1).bind fun y23 =>
(eqI (z11.2.2.2.2.2.2.2.2.2.2.2.2.2.2.2.2.2.2.2.2.2.2.2.2.2.2.2.2.2.2.2.2.2.2.2.2.2.2.2.2.2.2.2.2.2.2.2.2.2.2.length : Int) (z11.2.2.2.2.2.2.2.2.2.2.2.2.2.2.2.2.2.2.2.2.2.2.2.2.2.2.2.2.2.2.2.2.2.2.2.2.2.2.2.2.2.2.2.2.2.2.2.2.2.2.length : Int)).bind fun _u =>
some ((z11.2.2.1, z11.2.2.2.1, z11.2.2.2.2.1, z11.2.2.2.2.2.1, z11.2.2.2.2.2.2.1, z11.2.2.2.2.2.2.2.1, z11.2.2.2.2.2.2.2.2.1, y21.1, y21.2.1, y21.2.2.1, y21.2.2.2.1, y21.2.2.2.2.1, y21.2.2.2.2.2.1, y21.2.2.2.2.2.2.1, y21.2.2.2.2.2.2.2.1, y21.2.2.2.2.2.2.2.2.1, y21.2.2.2.2.2.2.2.2.2.1, y21.2.2.2.2.2.2.2.2.2.2.1, y23, y21.2.2.2.2.2.2.2.2.2.2.2.2, (IntKind.i64.wrap (z11.2.1 + z11.2.2.2.2.2.1)), (0 : Int), z11.2.2.2.2.2.2.2.2.2.2.2.2.2.2.2.2.2.2.2.2.2.2.2.2.1, z11.2.2.2.2.2.2.2.2.2.2.2.2.2.2.2.2.2.2.2.2.2.2.2.2.2.1), x20))
| Sum.inr z12 => (none)
noncomputable def tf37 : TF := .par ⟨[.v YSending, .v (.cl 67 gpR), .v (.i .u32), .v (.i .i64)], (.t YSending (.l .ro YSegment))⟩ (fun x => g37 x.1 x.2.1 x.2.2.1 x.2.2.2)
theorem e37 : evFn (tabU [(63, tf63), (67, tf67)]) ⟨F37.res, F37.keep, tf37.sg⟩ T37 = fun x => g37 x.1 x.2.1 x.2.2.1 x.2.2.2 := by kernel_rfl
theorem o37 : TOK (EF pg) 37 tf37 := tok_of p37 rfl (tabU_cons o63 (tabU_cons o67 (tabU_nil))) ⟨rfl, rfl, by decide⟩ rfl (⟨rndOk_of rfl, ⟨rndOk_of rfl, ⟨⟨rndOk_of rfl, rnd_of p37x0 rfl rfl (rndOk_of rfl) (rndOk_of rfl)⟩, rndOk_of rfl⟩⟩⟩) trivial fun x y h => (congrFun e37 x).trans h
/-- slices.Clone[[]heliograph/api.Claim,heliograph/api.Claim] -/
noncomputable def g65 (a0 : List Claim) : Option (List Claim) :=
amb (List.isEmpty a0) false fun y1 =>
if y1 then
(some [])
else
((apd 16 [] a0).bind fun y2 =>
some y2)
noncomputable def tf65 : TF := .par ⟨[.v (.l .ro YClaim)], (.l .ro YClaim)⟩ (fun x => g65 x)
theorem e65 : evFn (tabU []) ⟨F65.res, F65.keep, tf65.sg⟩ T65 = fun x => g65 x := by kernel_rfl
theorem o65 : TOK (EF pg) 65 tf65 := tok_of p65 rfl (tabU_nil) ⟨rfl, rfl, by decide⟩ rfl (rndOk_of rfl) trivial fun x y h => (congrFun e65 x).trans h
/-- slices.Clone[[]uint32,uint32] -/
noncomputable def g66 (a0 : List Int) : Option (List Int) :=
amb (List.isEmpty a0) false fun y1 =>
if y1 then
(some [])
else
((apd 4 [] a0).bind fun y2 =>
some y2)
noncomputable def tf66 : TF := .par ⟨[.v (.l .ro (.i .u32))], (.l .ro (.i .u32))⟩ (fun x => g66 x)
theorem e66 : evFn (tabU []) ⟨F66.res, F66.keep, tf66.sg⟩ T66 = fun x => g66 x := by kernel_rfl
theorem o66 : TOK (EF pg) 66 tf66 := tok_of p66 rfl (tabU_nil) ⟨rfl, rfl, by decide⟩ rfl (rndOk_of rfl) trivial fun x y h => (congrFun e66 x).trans h
/-- heliograph/sender.cloned -/
noncomputable def g38 (a0 : Sending) : Option Sending :=
(g63 a0.2.2.1).bind fun y1 =>
(g65 a0.2.2.2.2.2.2.1).bind fun y2 =>
(g66 a0.2.2.2.2.2.2.2.2.2.2.2.2.2.2.2.2.2.2.2.2.2.2.1).bind fun y3 =>
(g63 a0.2.2.2.2.2.2.2.2.2.2.2.2.2.2.2.2.2.2.1).bind fun y4 =>
some (a0.1, a0.2.1, y1, a0.2.2.2.1, a0.2.2.2.2.1, a0.2.2.2.2.2.1, y2, a0.2.2.2.2.2.2.2.1, a0.2.2.2.2.2.2.2.2.1, a0.2.2.2.2.2.2.2.2.2.1, a0.2.2.2.2.2.2.2.2.2.2.1, a0.2.2.2.2.2.2.2.2.2.2.2.1, a0.2.2.2.2.2.2.2.2.2.2.2.2.1, a0.2.2.2.2.2.2.2.2.2.2.2.2.2.1, a0.2.2.2.2.2.2.2.2.2.2.2.2.2.2.1, a0.2.2.2.2.2.2.2.2.2.2.2.2.2.2.2.1, a0.2.2.2.2.2.2.2.2.2.2.2.2.2.2.2.2.1, a0.2.2.2.2.2.2.2.2.2.2.2.2.2.2.2.2.2.1, y4, a0.2.2.2.2.2.2.2.2.2.2.2.2.2.2.2.2.2.2.2.1, a0.2.2.2.2.2.2.2.2.2.2.2.2.2.2.2.2.2.2.2.2.1, a0.2.2.2.2.2.2.2.2.2.2.2.2.2.2.2.2.2.2.2.2.2.1, y3, a0.2.2.2.2.2.2.2.2.2.2.2.2.2.2.2.2.2.2.2.2.2.2.2)
noncomputable def tf38 : TF := .par ⟨[.v YSending], YSending⟩ (fun x => g38 x)
theorem e38 : evFn (tabU [(63, tf63), (65, tf65), (66, tf66)]) ⟨F38.res, F38.keep, tf38.sg⟩ T38 = fun x => g38 x := by kernel_rfl
theorem o38 : TOK (EF pg) 38 tf38 := tok_of p38 rfl (tabU_cons o63 (tabU_cons o65 (tabU_cons o66 (tabU_nil)))) ⟨rfl, rfl, by decide⟩ rfl (rndOk_of rfl) trivial fun x y h => (congrFun e38 x).trans h
/-- heliograph/sender.New -/
noncomputable def g11 (a0 : Start) (a1 : Int) : Option (Sending × (List Segment) × Int) :=
if (if (!(h35 a0)) then true else (!(h36 a1))) then
(some (((0 : Int), (0 : Int), [], (0 : Int), (0 : Int), (0 : Int), [], (0 : Int), (0 : Int), (0 : Int), (0 : Int), (0 : Int), (0 : Int), (0 : Int), (0 : Int), (0 : Int), (0 : Int), false, [], [], (0 : Int), (0 : Int), [], (0 : Int)), [], (2 : Int)))
else
((g38 (a0.1, a0.2.1, a0.2.2.1, a0.2.2.2.1, a0.2.2.2.2, (1 : Int), [], (0 : Int), (0 : Int), (0 : Int), (0 : Int), (0 : Int), (0 : Int), (0 : Int), (0 : Int), (0 : Int), (0 : Int), false, [], [], (0 : Int), (0 : Int), [], (0 : Int))).bind fun y6 =>
(g39 (a0.1, a0.2.1, a0.2.2.1, a0.2.2.2.1, a0.2.2.2.2, (0 : Int), [], (0 : Int), (0 : Int), (0 : Int), (0 : Int), (0 : Int), (0 : Int), (0 : Int), (0 : Int), (0 : Int), (0 : Int), false, [], [], (0 : Int), (0 : Int), [], (0 : Int))).bind fun y7 =>
(g37 y6 y7 (1 : Int) a1).bind fun y8 =>
some (y8.1, y8.2, (0 : Int)))
noncomputable def tf11 : TF := .par ⟨[.v YStart, .v (.i .i64)], (.t YSending (.t (.l .ro YSegment) (.i .i64)))⟩ (fun x => g11 x.1 x.2)
theorem e11 : evFn (tabU [(35, tf35), (36, tf36), (37, tf37), (38, tf38), (39, tf39)]) ⟨F11.res, F11.keep, tf11.sg⟩ T11 = fun x => g11 x.1 x.2 := by kernel_rfl
theorem o11 : TOK (EF pg) 11 tf11 := tok_of p11 rfl (tabU_cons o35 (tabU_cons o36 (tabU_cons o37 (tabU_cons o38 (tabU_cons o39 (tabU_nil)))))) ⟨rfl, rfl, by decide⟩ rfl (rndOk_of rfl) trivial fun x y h => (congrFun e11 x).trans h
/-- heliograph/segment.in -/
noncomputable def h68 (a0 : Int) (a1 : Int) (a2 : Int) : Bool :=
(if (decide (a0 ≥ a1)) then (decide (a0 ≤ a2)) else false)
noncomputable def tf68 : TF := .tot ⟨[.v (.i .i64), .v (.i .i64), .v (.i .i64)], .b⟩ (fun x => h68 x.1 x.2.1 x.2.2)
theorem e68 : evFn (tabU []) ⟨F68.res, F68.keep, tf68.sg⟩ T68 = fun x => some (h68 x.1 x.2.1 x.2.2) := by kernel_rfl
theorem o68 : TOK (EF pg) 68 tf68 := tok_of p68 rfl (tabU_nil) ⟨rfl, rfl, by decide⟩ rfl (rndOk_of rfl) trivial fun x y h => (congrFun e68 x).trans h
/-- heliograph/segment.claimed -/
noncomputable def g69x0 (s : (List Claim) × Int × Int × (List Claim) × Int × Int) : Option (((List Claim) × Int × Int × (List Claim) × Int × Int) ⊕ ((List Claim) ⊕ Bool)) :=
if (decide (s.2.2.2.2.2 < s.2.2.2.2.1)) then
((idx s.2.2.2.1 s.2.2.2.2.2).bind fun y4 =>
if (if (if (if (decide (y4.2 < (1 : Int))) then true else (decide (y4.1 ≤ s.2.2.1))) then true else (decide (y4.1 ≥ s.2.1))) then true else (decide (y4.2 > (IntKind.i64.wrap (s.2.1 - y4.1))))) then
(some (Sum.inr (Sum.inr (false))))
else
(
some (Sum.inl (s.1, s.2.1, (IntKind.i64.wrap (y4.1 + y4.2)), s.2.2.2.1, s.2.2.2.2.1, (IntKind.i64.wrap (s.2.2.2.2.2 + (1 : Int)))))))
else
(some (Sum.inr (Sum.inl s.1)))
noncomputable def g69 (a0 : List Claim) (a1 : Int) (a2 : Int) : Option Bool :=
(lpU g69x0 (a0, a2, (IntKind.i64.wrap (a1 - (1 : Int))), a0, (a0.length : Int), (0 : Int))).bind fun z15 =>
match z15 with
| Sum.inl z16 => (let x18 := (z16.length : Int)
some (decide (x18 ≤ (20 : Int))))
| Sum.inr z17 => (some z17)
noncomputable def tf69 : TF := .par ⟨[.v (.l .ro YClaim), .v (.i .i64), .v (.i .i64)], .b⟩ (fun x => g69 x.1 x.2.1 x.2.2)
theorem e69 : evFn (tabU []) ⟨F69.res, F69.keep, tf69.sg⟩ T69 = fun x => g69 x.1 x.2.1 x.2.2 := by kernel_rfl
theorem o69 : TOK (EF pg) 69 tf69 := tok_of p69 rfl (tabU_nil) ⟨rfl, rfl, by decide⟩ rfl (rndOk_of rfl) trivial fun x y h => (congrFun e69 x).trans h
/-- slices.Index[[]uint32,uint32] -/
noncomputable def g70x0 (s : (List Int) × Int × Int × Int) : Option (((List Int) × Int × Int × Int) ⊕ (Unit ⊕ Int)) :=
if (decide (s.2.2.2 < s.2.2.1)) then
((idx s.1 s.2.2.2).bind fun y3 =>
if (s.2.1 == y3) then
(some (Sum.inr (Sum.inr (s.2.2.2))))
else
(
some (Sum.inl (s.1, s.2.1, s.2.2.1, (IntKind.i64.wrap (s.2.2.2 + (1 : Int)))))))
else
(some (Sum.inr (Sum.inl ())))
noncomputable def g70 (a0 : List Int) (a1 : Int) : Option Int :=
(lpU g70x0 (a0, a1, (a0.length : Int), (0 : Int))).bind fun z6 =>
match z6 with
| Sum.inl z7 => (some (-1 : Int))
| Sum.inr z8 => (some z8)
noncomputable def tf70 : TF := .par ⟨[.v (.l .ro (.i .u32)), .v (.i .u32)], (.i .i64)⟩ (fun x => g70 x.1 x.2)
theorem e70 : evFn (tabU []) ⟨F70.res, F70.keep, tf70.sg⟩ T70 = fun x => g70 x.1 x.2 := by kernel_rfl
theorem o70 : TOK (EF pg) 70 tf70 := tok_of p70 rfl (tabU_nil) ⟨rfl, rfl, by decide⟩ rfl (rndOk_of rfl) trivial fun x y h => (congrFun e70 x).trans h
/-- slices.Contains[[]uint32,uint32] -/
noncomputable def g46 (a0 : List Int) (a1 : Int) : Option Bool :=
(g70 a0 a1).bind fun y1 =>
some (decide (y1 ≥ (0 : Int)))
noncomputable def tf46 : TF := .par ⟨[.v (.l .ro (.i .u32)), .v (.i .u32)], .b⟩ (fun x => g46 x.1 x.2)
theorem e46 : evFn (tabU [(70, tf70)]) ⟨F46.res, F46.keep, tf46.sg⟩ T46 = fun x => g46 x.1 x.2 := by kernel_rfl
theorem o46 : TOK (EF pg) 46 tf46 := tok_of p46 rfl (tabU_cons o70 (tabU_nil)) ⟨rfl, rfl, by decide⟩ rfl (rndOk_of rfl) trivial fun x y h => (congrFun e46 x).trans h
/-- heliograph/segment.Same$1 -/
noncomputable def h71 (a0 : Segment) : Rest_ :=
(a0.1, a0.2.1, a0.2.2.2.2.2.1, a0.2.2.2.2.2.2.1, a0.2.2.2.2.2.2.2.1, a0.2.2.2.2.2.2.2.2.1, a0.2.2.2.2.2.2.2.2.2.1, a0.2.2.1, a0.2.2.2.1, a0.2.2.2.2.1, a0.2.2.2.2.2.2.2.2.2.2.1)
noncomputable def tf71 : TF := .tot ⟨[.v YSegment], YRest_⟩ (fun x => h71 x)
theorem e71 : evFn (tabU []) ⟨F71.res, F71.keep, tf71.sg⟩ T71 = fun x => some (h71 x) := by kernel_rfl
theorem o71 : TOK (EF pg) 71 tf71 := tok_of p71 rfl (tabU_nil) ⟨rfl, rfl, by decide⟩ rfl (rndOk_of rfl) trivial fun x y h => (congrFun e71 x).trans h
/-- heliograph/segment.Same -/
noncomputable def g50 (a0 : Segment) (a1 : Segment) : Option Bool :=
let x1 := h71 a0
let x2 := h71 a1
let x3 := (x1.1 == x2.1) && ((x1.2.1 == x2.2.1) && ((x1.2.2.1 == x2.2.2.1) && ((x1.2.2.2.1 == x2.2.2.2.1) && ((x1.2.2.2.2.1 == x2.2.2.2.2.1) && ((x1.2.2.2.2.2.1 == x2.2.2.2.2.2.1) && ((x1.2.2.2.2.2.2.1 == x2.2.2.2.2.2.2.1) && ((x1.2.2.2.2.2.2.2.1 == x2.2.2.2.2.2.2.2.1) && ((x1.2.2.2.2.2.2.2.2.1 == x2.2.2.2.2.2.2.2.2.1) && ((x1.2.2.2.2.2.2.2.2.2.1 == x2.2.2.2.2.2.2.2.2.2.1) && ((x1.2.2.2.2.2.2.2.2.2.2 == x2.2.2.2.2.2.2.2.2.2.2) && (true)))))))))))
(if x3 then g45 a0.2.2.2.2.2.2.2.2.2.2.2.1 a1.2.2.2.2.2.2.2.2.2.2.2.1 else some false).bind fun y4 =>
let x5 := if x3 then y4 else false
(if x5 then g48 a0.2.2.2.2.2.2.2.2.2.2.2.2 a1.2.2.2.2.2.2.2.2.2.2.2.2 else some false).bind fun y6 =>
some (if x5 then y6 else false)
noncomputable def tf50 : TF := .par ⟨[.v YSegment, .v YSegment], .b⟩ (fun x => g50 x.1 x.2)
theorem e50 : evFn (tabU [(45, tf45), (48, tf48), (71, tf71)]) ⟨F50.res, F50.keep, tf50.sg⟩ T50 = fun x => g50 x.1 x.2 := by kernel_rfl
theorem o50 : TOK (EF pg) 50 tf50 := tok_of p50 rfl (tabU_cons o45 (tabU_cons o48 (tabU_cons o71 (tabU_nil)))) ⟨rfl, rfl, by decide⟩ rfl (rndOk_of rfl) trivial fun x y h => (congrFun e50 x).trans h
/-- heliograph/segment.Check -/
noncomputable def g44 (a0 : Segment) : Option Int :=
let x3 := if (h68 a0.2.1 (1 : Int) (6 : Int)) then (decide (a0.2.2.1 > (0 : Int))) else false
(
if (a0.1 == (1 : Int)) then
(let x5 := (a0.2.2.2.2.2.2.2.2.2.2.2.1.length : Int)
some (((if (if (if (if x3 then (h68 a0.2.2.2.2.2.2.1 (1 : Int) (512 : Int)) else false) then (h68 x5 (1 : Int) (100 : Int)) else false) then (h68 a0.2.2.2.2.2.1 (0 : Int) (IntKind.i64.wrap (a0.2.2.2.2.2.2.1 - x5))) else false) then ((a0.2.2.2.2.2.2.2.2.2.2.1 == (decide (a0.2.2.2.1 > (0 : Int)))) != false) else false), a0.1, a0.2.1, a0.2.2.1, a0.2.2.2.1, a0.2.2.2.2.1, a0.2.2.2.2.2.1, a0.2.2.2.2.2.2.1, a0.2.2.2.2.2.2.2.1, a0.2.2.2.2.2.2.2.2.1, a0.2.2.2.2.2.2.2.2.2.1, a0.2.2.2.2.2.2.2.2.2.2.1, a0.2.2.2.2.2.2.2.2.2.2.2.1, a0.2.2.2.2.2.2.2.2.2.2.2.2, a0.1, a0.2.1, a0.2.2.1, a0.2.2.2.1, (0 : Int), a0.2.2.2.2.2.1, a0.2.2.2.2.2.2.1, (0 : Int), (0 : Int), (0 : Int), a0.2.2.2.2.2.2.2.2.2.2.1, a0.2.2.2.2.2.2.2.2.2.2.2.1, [])))
else
(
if (a0.1 == (2 : Int)) then
(
let x25 := if (if (if (if x3 then (decide (a0.2.2.2.1 > (0 : Int))) else false) then (decide (a0.2.2.2.2.1 > (0 : Int))) else false) then (h68 a0.2.2.2.2.2.2.2.2.1 (1 : Int) (512 : Int)) else false) then (h68 a0.2.2.2.2.2.2.2.1 (0 : Int) (IntKind.i64.wrap (a0.2.2.2.2.2.2.2.2.1 - (1 : Int)))) else false
(if x25 then g69 a0.2.2.2.2.2.2.2.2.2.2.2.2 a0.2.2.2.2.2.2.2.1 a0.2.2.2.2.2.2.2.2.1 else some false).bind fun y26 =>
some (((if x25 then y26 else false), a0.1, a0.2.1, a0.2.2.1, a0.2.2.2.1, a0.2.2.2.2.1, a0.2.2.2.2.2.1, a0.2.2.2.2.2.2.1, a0.2.2.2.2.2.2.2.1, a0.2.2.2.2.2.2.2.2.1, a0.2.2.2.2.2.2.2.2.2.1, a0.2.2.2.2.2.2.2.2.2.2.1, a0.2.2.2.2.2.2.2.2.2.2.2.1, a0.2.2.2.2.2.2.2.2.2.2.2.2, a0.1, a0.2.1, a0.2.2.1, a0.2.2.2.1, a0.2.2.2.2.1, (0 : Int), (0 : Int), a0.2.2.2.2.2.2.2.1, a0.2.2.2.2.2.2.2.2.1, (0 : Int), false, [], a0.2.2.2.2.2.2.2.2.2.2.2.2)))
else
(
if (a0.1 == (3 : Int)) then
(
some (((if x3 then (decide (a0.2.2.2.1 > (0 : Int))) else false), a0.1, a0.2.1, a0.2.2.1, a0.2.2.2.1, a0.2.2.2.2.1, a0.2.2.2.2.2.1, a0.2.2.2.2.2.2.1, a0.2.2.2.2.2.2.2.1, a0.2.2.2.2.2.2.2.2.1, a0.2.2.2.2.2.2.2.2.2.1, a0.2.2.2.2.2.2.2.2.2.2.1, a0.2.2.2.2.2.2.2.2.2.2.2.1, a0.2.2.2.2.2.2.2.2.2.2.2.2, a0.1, a0.2.1, a0.2.2.1, a0.2.2.2.1, (0 : Int), (0 : Int), (0 : Int), (0 : Int), (0 : Int), (0 : Int), false, [], [])))
else
((let x31 := a0.1 == (4 : Int)
if x31 then
(some ((x3, a0.1, x31, a0.1, a0.2.1, a0.2.2.1, a0.2.2.2.1, a0.2.2.2.2.1, a0.2.2.2.2.2.1, a0.2.2.2.2.2.2.1, a0.2.2.2.2.2.2.2.1, a0.2.2.2.2.2.2.2.2.1, a0.2.2.2.2.2.2.2.2.2.1, a0.2.2.2.2.2.2.2.2.2.2.1, a0.2.2.2.2.2.2.2.2.2.2.2.1, a0.2.2.2.2.2.2.2.2.2.2.2.2, a0.1, a0.2.1, a0.2.2.1, (0 : Int), (0 : Int), (0 : Int), (0 : Int), (0 : Int), (0 : Int), (0 : Int), false)))
else
(
some ((x3, a0.1, (a0.1 == (6 : Int)), a0.1, a0.2.1, a0.2.2.1, a0.2.2.2.1, a0.2.2.2.2.1, a0.2.2.2.2.2.1, a0.2.2.2.2.2.2.1, a0.2.2.2.2.2.2.2.1, a0.2.2.2.2.2.2.2.2.1, a0.2.2.2.2.2.2.2.2.2.1, a0.2.2.2.2.2.2.2.2.2.2.1, a0.2.2.2.2.2.2.2.2.2.2.2.1, a0.2.2.2.2.2.2.2.2.2.2.2.2, a0.1, a0.2.1, a0.2.2.1, (0 : Int), (0 : Int), (0 : Int), (0 : Int), (0 : Int), (0 : Int), (0 : Int), false)))).bind fun z33 =>
if z33.2.2.1 then
(
some (((if z33.1 then (h68 z33.2.2.2.2.2.2.2.2.2.2.2.2.1 (0 : Int) (255 : Int)) else false), z33.2.2.2.1, z33.2.2.2.2.1, z33.2.2.2.2.2.1, z33.2.2.2.2.2.2.1, z33.2.2.2.2.2.2.2.1, z33.2.2.2.2.2.2.2.2.1, z33.2.2.2.2.2.2.2.2.2.1, z33.2.2.2.2.2.2.2.2.2.2.1, z33.2.2.2.2.2.2.2.2.2.2.2.1, z33.2.2.2.2.2.2.2.2.2.2.2.2.1, z33.2.2.2.2.2.2.2.2.2.2.2.2.2.1, z33.2.2.2.2.2.2.2.2.2.2.2.2.2.2.1, z33.2.2.2.2.2.2.2.2.2.2.2.2.2.2.2.1, z33.2.2.2.2.2.2.2.2.2.2.2.2.2.2.2.2.1, z33.2.2.2.2.2.2.2.2.2.2.2.2.2.2.2.2.2.1, z33.2.2.2.2.2.2.2.2.2.2.2.2.2.2.2.2.2.2.1, z33.2.2.2.2.2.2.2.2.2.2.2.2.2.2.2.2.2.2.2.1, z33.2.2.2.2.2.2.2.2.2.2.2.2.2.2.2.2.2.2.2.2.1, z33.2.2.2.2.2.2.2.2.2.2.2.2.2.2.2.2.2.2.2.2.2.1, z33.2.2.2.2.2.2.2.2.2.2.2.2.2.2.2.2.2.2.2.2.2.2.1, z33.2.2.2.2.2.2.2.2.2.2.2.2.2.2.2.2.2.2.2.2.2.2.2.1, z33.2.2.2.2.2.2.2.2.2.2.2.2.2.2.2.2.2.2.2.2.2.2.2.2.1, z33.2.2.2.2.2.2.2.2.2.2.2.2.1, z33.2.2.2.2.2.2.2.2.2.2.2.2.2.2.2.2.2.2.2.2.2.2.2.2.2.2, [], [])))
else
(let x36 := z33.2.1 == (5 : Int)
if x36 then
(if x36 then
(some ((z33.1, z33.2.2.2.1, z33.2.2.2.2.1, z33.2.2.2.2.2.1, z33.2.2.2.2.2.2.1, z33.2.2.2.2.2.2.2.1, z33.2.2.2.2.2.2.2.2.1, z33.2.2.2.2.2.2.2.2.2.1, z33.2.2.2.2.2.2.2.2.2.2.1, z33.2.2.2.2.2.2.2.2.2.2.2.1, z33.2.2.2.2.2.2.2.2.2.2.2.2.1, z33.2.2.2.2.2.2.2.2.2.2.2.2.2.1, z33.2.2.2.2.2.2.2.2.2.2.2.2.2.2.1, z33.2.2.2.2.2.2.2.2.2.2.2.2.2.2.2.1, z33.2.2.2.2.2.2.2.2.2.2.2.2.2.2.2.2.1, z33.2.2.2.2.2.2.2.2.2.2.2.2.2.2.2.2.2.1, z33.2.2.2.2.2.2.2.2.2.2.2.2.2.2.2.2.2.2.1, z33.2.2.2.2.2.2.2.2.2.2.2.2.2.2.2.2.2.2.2.1, z33.2.2.2.2.2.2.2.2.2.2.2.2.2.2.2.2.2.2.2.2.1, z33.2.2.2.2.2.2.2.2.2.2.2.2.2.2.2.2.2.2.2.2.2.1, z33.2.2.2.2.2.2.2.2.2.2.2.2.2.2.2.2.2.2.2.2.2.2.1, z33.2.2.2.2.2.2.2.2.2.2.2.2.2.2.2.2.2.2.2.2.2.2.2.1, z33.2.2.2.2.2.2.2.2.2.2.2.2.2.2.2.2.2.2.2.2.2.2.2.2.1, z33.2.2.2.2.2.2.2.2.2.2.2.2.2.2.2.2.2.2.2.2.2.2.2.2.2.1, z33.2.2.2.2.2.2.2.2.2.2.2.2.2.2.2.2.2.2.2.2.2.2.2.2.2.2, [], [])))
else
(some ((false, z33.2.2.2.1, z33.2.2.2.2.1, z33.2.2.2.2.2.1, z33.2.2.2.2.2.2.1, z33.2.2.2.2.2.2.2.1, z33.2.2.2.2.2.2.2.2.1, z33.2.2.2.2.2.2.2.2.2.1, z33.2.2.2.2.2.2.2.2.2.2.1, z33.2.2.2.2.2.2.2.2.2.2.2.1, z33.2.2.2.2.2.2.2.2.2.2.2.2.1, z33.2.2.2.2.2.2.2.2.2.2.2.2.2.1, z33.2.2.2.2.2.2.2.2.2.2.2.2.2.2.1, z33.2.2.2.2.2.2.2.2.2.2.2.2.2.2.2.1, z33.2.2.2.2.2.2.2.2.2.2.2.2.2.2.2.2.1, z33.2.2.2.2.2.2.2.2.2.2.2.2.2.2.2.2.2.1, z33.2.2.2.2.2.2.2.2.2.2.2.2.2.2.2.2.2.2.1, z33.2.2.2.2.2.2.2.2.2.2.2.2.2.2.2.2.2.2.2.1, z33.2.2.2.2.2.2.2.2.2.2.2.2.2.2.2.2.2.2.2.2.1, z33.2.2.2.2.2.2.2.2.2.2.2.2.2.2.2.2.2.2.2.2.2.1, z33.2.2.2.2.2.2.2.2.2.2.2.2.2.2.2.2.2.2.2.2.2.2.1, z33.2.2.2.2.2.2.2.2.2.2.2.2.2.2.2.2.2.2.2.2.2.2.2.1, z33.2.2.2.2.2.2.2.2.2.2.2.2.2.2.2.2.2.2.2.2.2.2.2.2.1, z33.2.2.2.2.2.2.2.2.2.2.2.2.2.2.2.2.2.2.2.2.2.2.2.2.2.1, z33.2.2.2.2.2.2.2.2.2.2.2.2.2.2.2.2.2.2.2.2.2.2.2.2.2.2, [], []))))
else
(
if (z33.2.1 == (7 : Int)) then
(some ((z33.1, z33.2.2.2.1, z33.2.2.2.2.1, z33.2.2.2.2.2.1, z33.2.2.2.2.2.2.1, z33.2.2.2.2.2.2.2.1, z33.2.2.2.2.2.2.2.2.1, z33.2.2.2.2.2.2.2.2.2.1, z33.2.2.2.2.2.2.2.2.2.2.1, z33.2.2.2.2.2.2.2.2.2.2.2.1, z33.2.2.2.2.2.2.2.2.2.2.2.2.1, z33.2.2.2.2.2.2.2.2.2.2.2.2.2.1, z33.2.2.2.2.2.2.2.2.2.2.2.2.2.2.1, z33.2.2.2.2.2.2.2.2.2.2.2.2.2.2.2.1, z33.2.2.2.2.2.2.2.2.2.2.2.2.2.2.2.2.1, z33.2.2.2.2.2.2.2.2.2.2.2.2.2.2.2.2.2.1, z33.2.2.2.2.2.2.2.2.2.2.2.2.2.2.2.2.2.2.1, z33.2.2.2.2.2.2.2.2.2.2.2.2.2.2.2.2.2.2.2.1, z33.2.2.2.2.2.2.2.2.2.2.2.2.2.2.2.2.2.2.2.2.1, z33.2.2.2.2.2.2.2.2.2.2.2.2.2.2.2.2.2.2.2.2.2.1, z33.2.2.2.2.2.2.2.2.2.2.2.2.2.2.2.2.2.2.2.2.2.2.1, z33.2.2.2.2.2.2.2.2.2.2.2.2.2.2.2.2.2.2.2.2.2.2.2.1, z33.2.2.2.2.2.2.2.2.2.2.2.2.2.2.2.2.2.2.2.2.2.2.2.2.1, z33.2.2.2.2.2.2.2.2.2.2.2.2.2.2.2.2.2.2.2.2.2.2.2.2.2.1, z33.2.2.2.2.2.2.2.2.2.2.2.2.2.2.2.2.2.2.2.2.2.2.2.2.2.2, [], [])))
else
(some ((false, z33.2.2.2.1, z33.2.2.2.2.1, z33.2.2.2.2.2.1, z33.2.2.2.2.2.2.1, z33.2.2.2.2.2.2.2.1, z33.2.2.2.2.2.2.2.2.1, z33.2.2.2.2.2.2.2.2.2.1, z33.2.2.2.2.2.2.2.2.2.2.1, z33.2.2.2.2.2.2.2.2.2.2.2.1, z33.2.2.2.2.2.2.2.2.2.2.2.2.1, z33.2.2.2.2.2.2.2.2.2.2.2.2.2.1, z33.2.2.2.2.2.2.2.2.2.2.2.2.2.2.1, z33.2.2.2.2.2.2.2.2.2.2.2.2.2.2.2.1, z33.2.2.2.2.2.2.2.2.2.2.2.2.2.2.2.2.1, z33.2.2.2.2.2.2.2.2.2.2.2.2.2.2.2.2.2.1, z33.2.2.2.2.2.2.2.2.2.2.2.2.2.2.2.2.2.2.1, z33.2.2.2.2.2.2.2.2.2.2.2.2.2.2.2.2.2.2.2.1, z33.2.2.2.2.2.2.2.2.2.2.2.2.2.2.2.2.2.2.2.2.1, z33.2.2.2.2.2.2.2.2.2.2.2.2.2.2.2.2.2.2.2.2.2.1, z33.2.2.2.2.2.2.2.2.2.2.2.2.2.2.2.2.2.2.2.2.2.2.1, z33.2.2.2.2.2.2.2.2.2.2.2.2.2.2.2.2.2.2.2.2.2.2.2.1, z33.2.2.2.2.2.2.2.2.2.2.2.2.2.2.2.2.2.2.2.2.2.2.2.2.1, z33.2.2.2.2.2.2.2.2.2.2.2.2.2.2.2.2.2.2.2.2.2.2.2.2.2.1, z33.2.2.2.2.2.2.2.2.2.2.2.2.2.2.2.2.2.2.2.2.2.2.2.2.2.2, [], []))))))))).bind fun z38 =>
let x39 := !z38.1
(if (!x39) then g50 (z38.2.1, z38.2.2.1, z38.2.2.2.1, z38.2.2.2.2.1, z38.2.2.2.2.2.1, z38.2.2.2.2.2.2.1, z38.2.2.2.2.2.2.2.1, z38.2.2.2.2.2.2.2.2.1, z38.2.2.2.2.2.2.2.2.2.1, z38.2.2.2.2.2.2.2.2.2.2.1, z38.2.2.2.2.2.2.2.2.2.2.2.1, z38.2.2.2.2.2.2.2.2.2.2.2.2.1, z38.2.2.2.2.2.2.2.2.2.2.2.2.2.1) z38.2.2.2.2.2.2.2.2.2.2.2.2.2.2 else some false).bind fun y40 =>
if (if x39 then true else (!y40)) then
(some (200 : Int))
else
(some (0 : Int))
noncomputable def tf44 : TF := .par ⟨[.v YSegment], (.i .i64)⟩ (fun x => g44 x)
theorem e44 : evFn (tabU [(50, tf50), (68, tf68), (69, tf69)]) ⟨F44.res, F44.keep, tf44.sg⟩ T44 = fun x => g44 x := by kernel_rfl
theorem o44 : TOK (EF pg) 44 tf44 := tok_of p44 rfl (tabU_cons o50 (tabU_cons o68 (tabU_cons o69 (tabU_nil)))) ⟨rfl, rfl, by decide⟩ rfl (rndOk_of rfl) trivial fun x y h => (congrFun e44 x).trans h
/-- heliograph/sender.Check -/
noncomputable def g15 (a0 : Sending) : Option Int :=
let x1 := (a0.2.2.1.length : Int)
(
let x3 := !(h35 (a0.1, a0.2.1, a0.2.2.1, a0.2.2.2.1, a0.2.2.2.2.1))
if x3 then
(some ((x1, x3, a0.1, a0.2.1, a0.2.2.1, a0.2.2.2.1, a0.2.2.2.2.1, a0.2.2.2.2.2.1, a0.2.2.2.2.2.2.1, a0.2.2.2.2.2.2.2.1, a0.2.2.2.2.2.2.2.2.1, a0.2.2.2.2.2.2.2.2.2.1, a0.2.2.2.2.2.2.2.2.2.2.1, a0.2.2.2.2.2.2.2.2.2.2.2.1, a0.2.2.2.2.2.2.2.2.2.2.2.2.1, a0.2.2.2.2.2.2.2.2.2.2.2.2.2.1, a0.2.2.2.2.2.2.2.2.2.2.2.2.2.2.1, a0.2.2.2.2.2.2.2.2.2.2.2.2.2.2.2.1, a0.2.2.2.2.2.2.2.2.2.2.2.2.2.2.2.2.1, a0.2.2.2.2.2.2.2.2.2.2.2.2.2.2.2.2.2.1, a0.2.2.2.2.2.2.2.2.2.2.2.2.2.2.2.2.2.2.1, a0.2.2.2.2.2.2.2.2.2.2.2.2.2.2.2.2.2.2.2.1, a0.2.2.2.2.2.2.2.2.2.2.2.2.2.2.2.2.2.2.2.2.1, a0.2.2.2.2.2.2.2.2.2.2.2.2.2.2.2.2.2.2.2.2.2.1, a0.2.2.2.2.2.2.2.2.2.2.2.2.2.2.2.2.2.2.2.2.2.2.1, a0.2.2.2.2.2.2.2.2.2.2.2.2.2.2.2.2.2.2.2.2.2.2.2, a0.2.2.2.2.2.2.2.1, a0.2.2.2.2.2.2.2.2.1, a0.2.2.2.2.2.2.2.2.2.1, a0.2.2.2.2.2.2.2.2.2.2.1, a0.2.2.2.2.2.2.2.2.2.2.2.1, a0.2.2.2.2.2.2.2.2.2.2.2.2.1, a0.2.2.2.2.2.2.2.2.2.2.2.2.2.1, a0.2.2.2.2.2.2.2.2.2.2.2.2.2.2.1, a0.2.2.2.2.2.2.2.2.2.2.2.2.2.2.2.1, a0.2.2.2.2.2.2.2.2.2.2.2.2.2.2.2.2.1, a0.2.2.2.2.2.2.2.2.2.2.2.2.2.2.2.2.2.1, a0.2.2.2.2.2.2.2.2.2.2.2.2.2.2.2.2.2.2.1, a0.2.2.2.2.2.2.2.2.2.2.2.2.2.2.2.2.2.2.2.1)))
else
(
let x5 := !(h42 a0.2.2.2.2.2.1 (1 : Int) (4 : Int))
if x5 then
(some ((x1, x5, a0.1, a0.2.1, a0.2.2.1, a0.2.2.2.1, a0.2.2.2.2.1, a0.2.2.2.2.2.1, a0.2.2.2.2.2.2.1, a0.2.2.2.2.2.2.2.1, a0.2.2.2.2.2.2.2.2.1, a0.2.2.2.2.2.2.2.2.2.1, a0.2.2.2.2.2.2.2.2.2.2.1, a0.2.2.2.2.2.2.2.2.2.2.2.1, a0.2.2.2.2.2.2.2.2.2.2.2.2.1, a0.2.2.2.2.2.2.2.2.2.2.2.2.2.1, a0.2.2.2.2.2.2.2.2.2.2.2.2.2.2.1, a0.2.2.2.2.2.2.2.2.2.2.2.2.2.2.2.1, a0.2.2.2.2.2.2.2.2.2.2.2.2.2.2.2.2.1, a0.2.2.2.2.2.2.2.2.2.2.2.2.2.2.2.2.2.1, a0.2.2.2.2.2.2.2.2.2.2.2.2.2.2.2.2.2.2.1, a0.2.2.2.2.2.2.2.2.2.2.2.2.2.2.2.2.2.2.2.1, a0.2.2.2.2.2.2.2.2.2.2.2.2.2.2.2.2.2.2.2.2.1, a0.2.2.2.2.2.2.2.2.2.2.2.2.2.2.2.2.2.2.2.2.2.1, a0.2.2.2.2.2.2.2.2.2.2.2.2.2.2.2.2.2.2.2.2.2.2.1, a0.2.2.2.2.2.2.2.2.2.2.2.2.2.2.2.2.2.2.2.2.2.2.2, a0.2.2.2.2.2.2.2.1, a0.2.2.2.2.2.2.2.2.1, a0.2.2.2.2.2.2.2.2.2.1, a0.2.2.2.2.2.2.2.2.2.2.1, a0.2.2.2.2.2.2.2.2.2.2.2.1, a0.2.2.2.2.2.2.2.2.2.2.2.2.1, a0.2.2.2.2.2.2.2.2.2.2.2.2.2.1, a0.2.2.2.2.2.2.2.2.2.2.2.2.2.2.1, a0.2.2.2.2.2.2.2.2.2.2.2.2.2.2.2.1, a0.2.2.2.2.2.2.2.2.2.2.2.2.2.2.2.2.1, a0.2.2.2.2.2.2.2.2.2.2.2.2.2.2.2.2.2.1, a0.2.2.2.2.2.2.2.2.2.2.2.2.2.2.2.2.2.2.1, a0.2.2.2.2.2.2.2.2.2.2.2.2.2.2.2.2.2.2.2.1)))
else
((g43 a0.2.2.2.2.2.2.1 x1).bind fun y6 =>
some ((x1, (!y6), a0.1, a0.2.1, a0.2.2.1, a0.2.2.2.1, a0.2.2.2.2.1, a0.2.2.2.2.2.1, a0.2.2.2.2.2.2.1, a0.2.2.2.2.2.2.2.1, a0.2.2.2.2.2.2.2.2.1, a0.2.2.2.2.2.2.2.2.2.1, a0.2.2.2.2.2.2.2.2.2.2.1, a0.2.2.2.2.2.2.2.2.2.2.2.1, a0.2.2.2.2.2.2.2.2.2.2.2.2.1, a0.2.2.2.2.2.2.2.2.2.2.2.2.2.1, a0.2.2.2.2.2.2.2.2.2.2.2.2.2.2.1, a0.2.2.2.2.2.2.2.2.2.2.2.2.2.2.2.1, a0.2.2.2.2.2.2.2.2.2.2.2.2.2.2.2.2.1, a0.2.2.2.2.2.2.2.2.2.2.2.2.2.2.2.2.2.1, a0.2.2.2.2.2.2.2.2.2.2.2.2.2.2.2.2.2.2.1, a0.2.2.2.2.2.2.2.2.2.2.2.2.2.2.2.2.2.2.2.1, a0.2.2.2.2.2.2.2.2.2.2.2.2.2.2.2.2.2.2.2.2.1, a0.2.2.2.2.2.2.2.2.2.2.2.2.2.2.2.2.2.2.2.2.2.1, a0.2.2.2.2.2.2.2.2.2.2.2.2.2.2.2.2.2.2.2.2.2.2.1, a0.2.2.2.2.2.2.2.2.2.2.2.2.2.2.2.2.2.2.2.2.2.2.2, a0.2.2.2.2.2.2.2.1, a0.2.2.2.2.2.2.2.2.1, a0.2.2.2.2.2.2.2.2.2.1, a0.2.2.2.2.2.2.2.2.2.2.1, a0.2.2.2.2.2.2.2.2.2.2.2.1, a0.2.2.2.2.2.2.2.2.2.2.2.2.1, a0.2.2.2.2.2.2.2.2.2.2.2.2.2.1, a0.2.2.2.2.2.2.2.2.2.2.2.2.2.2.1, a0.2.2.2.2.2.2.2.2.2.2.2.2.2.2.2.1, a0.2.2.2.2.2.2.2.2.2.2.2.2.2.2.2.2.1, a0.2.2.2.2.2.2.2.2.2.2.2.2.2.2.2.2.2.1, a0.2.2.2.2.2.2.2.2.2.2.2.2.2.2.2.2.2.2.1, a0.2.2.2.2.2.2.2.2.2.2.2.2.2.2.2.2.2.2.2.1))))).bind fun z8 =>
if z8.2.1 then
(some (240 : Int))
else
(((g44 z8.2.2.2.2.2.2.2.2.2.2.2.2.2.2.2.2.2.2.2.2.2.2.2.2.2.2).bind fun y9 =>
let x10 := y9 != (0 : Int)
if x10 then
(some ((x10, z8.2.2.1, z8.2.2.2.1, z8.2.2.2.2.1, z8.2.2.2.2.2.1, z8.2.2.2.2.2.2.1, z8.2.2.2.2.2.2.2.1, z8.2.2.2.2.2.2.2.2.1, z8.2.2.2.2.2.2.2.2.2.1, z8.2.2.2.2.2.2.2.2.2.2.1, z8.2.2.2.2.2.2.2.2.2.2.2.1, z8.2.2.2.2.2.2.2.2.2.2.2.2.1, z8.2.2.2.2.2.2.2.2.2.2.2.2.2.1, z8.2.2.2.2.2.2.2.2.2.2.2.2.2.2.1, z8.2.2.2.2.2.2.2.2.2.2.2.2.2.2.2.1, z8.2.2.2.2.2.2.2.2.2.2.2.2.2.2.2.2.1, z8.2.2.2.2.2.2.2.2.2.2.2.2.2.2.2.2.2.1, z8.2.2.2.2.2.2.2.2.2.2.2.2.2.2.2.2.2.2.1, z8.2.2.2.2.2.2.2.2.2.2.2.2.2.2.2.2.2.2.2.1, z8.2.2.2.2.2.2.2.2.2.2.2.2.2.2.2.2.2.2.2.2.1, z8.2.2.2.2.2.2.2.2.2.2.2.2.2.2.2.2.2.2.2.2.2.1, z8.2.2.2.2.2.2.2.2.2.2.2.2.2.2.2.2.2.2.2.2.2.2.1, z8.2.2.2.2.2.2.2.2.2.2.2.2.2.2.2.2.2.2.2.2.2.2.2.1, z8.2.2.2.2.2.2.2.2.2.2.2.2.2.2.2.2.2.2.2.2.2.2.2.2.1, z8.2.2.2.2.2.2.2.2.2.2.2.2.2.2.2.2.2.2.2.2.2.2.2.2.2.1, z8.2.2.2.2.2.2.2.2.2.2.2.2.2.2.2.2.2.2.2.2.2.2.2.2.2.2.1, z8.2.2.2.2.2.2.2.2.2.2.2.2.2.2.2.2.2.2.2.2.2.2.2.2.2.2.2.1, z8.2.2.2.2.2.2.2.2.2.2.2.2.2.2.2.2.2.2.2.2.2.2.2.2.2.2.2.2.1, z8.2.2.2.2.2.2.2.2.2.2.2.2.2.2.2.2.2.2.2.2.2.2.2.2.2.2.2.2.2.1, z8.2.2.2.2.2.2.2.2.2.2.2.2.2.2.2.2.2.2.2.2.2.2.2.2.2.2.2.2.2.2.1, z8.2.2.2.2.2.2.2.2.2.2.2.2.2.2.2.2.2.2.2.2.2.2.2.2.2.2.2.2.2.2.2.1, z8.2.2.2.2.2.2.2.2.2.2.2.2.2.2.2.2.2.2.2.2.2.2.2.2.2.2.2.2.2.2.2.2.1, z8.2.2.2.2.2.2.2.2.2.2.2.2.2.2.2.2.2.2.2.2.2.2.2.2.2.2.2.2.2.2.2.2.2.1, z8.2.2.2.2.2.2.2.2.2.2.2.2.2.2.2.2.2.2.2.2.2.2.2.2.2.2.2.2.2.2.2.2.2.2.1, z8.2.2.2.2.2.2.2.2.2.2.2.2.2.2.2.2.2.2.2.2.2.2.2.2.2.2.2.2.2.2.2.2.2.2.2.1, z8.2.2.2.2.2.2.2.2.2.2.2.2.2.2.2.2.2.2.2.2.2.2.2.2.2.2.2.2.2.2.2.2.2.2.2.2.1, z8.2.2.2.2.2.2.2.2.2.2.2.2.2.2.2.2.2.2.2.2.2.2.2.2.2.2.2.2.2.2.2.2.2.2.2.2.2.1, z8.2.2.2.2.2.2.2.2.2.2.2.2.2.2.2.2.2.2.2.2.2.2.2.2.2.2.2.2.2.2.2.2.2.2.2.2.2.2)))
else
(let x11 := z8.2.2.2.2.2.2.2.2.2.2.2.2.2.2.2.2.2.2.2.2.2.2.2.2.2.2.1 != (1 : Int)
if x11 then
(some ((x11, z8.2.2.1, z8.2.2.2.1, z8.2.2.2.2.1, z8.2.2.2.2.2.1, z8.2.2.2.2.2.2.1, z8.2.2.2.2.2.2.2.1, z8.2.2.2.2.2.2.2.2.1, z8.2.2.2.2.2.2.2.2.2.1, z8.2.2.2.2.2.2.2.2.2.2.1, z8.2.2.2.2.2.2.2.2.2.2.2.1, z8.2.2.2.2.2.2.2.2.2.2.2.2.1, z8.2.2.2.2.2.2.2.2.2.2.2.2.2.1, z8.2.2.2.2.2.2.2.2.2.2.2.2.2.2.1, z8.2.2.2.2.2.2.2.2.2.2.2.2.2.2.2.1, z8.2.2.2.2.2.2.2.2.2.2.2.2.2.2.2.2.1, z8.2.2.2.2.2.2.2.2.2.2.2.2.2.2.2.2.2.1, z8.2.2.2.2.2.2.2.2.2.2.2.2.2.2.2.2.2.2.1, z8.2.2.2.2.2.2.2.2.2.2.2.2.2.2.2.2.2.2.2.1, z8.2.2.2.2.2.2.2.2.2.2.2.2.2.2.2.2.2.2.2.2.1, z8.2.2.2.2.2.2.2.2.2.2.2.2.2.2.2.2.2.2.2.2.2.1, z8.2.2.2.2.2.2.2.2.2.2.2.2.2.2.2.2.2.2.2.2.2.2.1, z8.2.2.2.2.2.2.2.2.2.2.2.2.2.2.2.2.2.2.2.2.2.2.2.1, z8.2.2.2.2.2.2.2.2.2.2.2.2.2.2.2.2.2.2.2.2.2.2.2.2.1, z8.2.2.2.2.2.2.2.2.2.2.2.2.2.2.2.2.2.2.2.2.2.2.2.2.2.1, z8.2.2.2.2.2.2.2.2.2.2.2.2.2.2.2.2.2.2.2.2.2.2.2.2.2.2.1, z8.2.2.2.2.2.2.2.2.2.2.2.2.2.2.2.2.2.2.2.2.2.2.2.2.2.2.2.1, z8.2.2.2.2.2.2.2.2.2.2.2.2.2.2.2.2.2.2.2.2.2.2.2.2.2.2.2.2.1, z8.2.2.2.2.2.2.2.2.2.2.2.2.2.2.2.2.2.2.2.2.2.2.2.2.2.2.2.2.2.1, z8.2.2.2.2.2.2.2.2.2.2.2.2.2.2.2.2.2.2.2.2.2.2.2.2.2.2.2.2.2.2.1, z8.2.2.2.2.2.2.2.2.2.2.2.2.2.2.2.2.2.2.2.2.2.2.2.2.2.2.2.2.2.2.2.1, z8.2.2.2.2.2.2.2.2.2.2.2.2.2.2.2.2.2.2.2.2.2.2.2.2.2.2.2.2.2.2.2.2.1, z8.2.2.2.2.2.2.2.2.2.2.2.2.2.2.2.2.2.2.2.2.2.2.2.2.2.2.2.2.2.2.2.2.2.1, z8.2.2.2.2.2.2.2.2.2.2.2.2.2.2.2.2.2.2.2.2.2.2.2.2.2.2.2.2.2.2.2.2.2.2.1, z8.2.2.2.2.2.2.2.2.2.2.2.2.2.2.2.2.2.2.2.2.2.2.2.2.2.2.2.2.2.2.2.2.2.2.2.1, z8.2.2.2.2.2.2.2.2.2.2.2.2.2.2.2.2.2.2.2.2.2.2.2.2.2.2.2.2.2.2.2.2.2.2.2.2.1, z8.2.2.2.2.2.2.2.2.2.2.2.2.2.2.2.2.2.2.2.2.2.2.2.2.2.2.2.2.2.2.2.2.2.2.2.2.2.1, z8.2.2.2.2.2.2.2.2.2.2.2.2.2.2.2.2.2.2.2.2.2.2.2.2.2.2.2.2.2.2.2.2.2.2.2.2.2.2)))
else
(let x12 := !z8.2.2.2.2.2.2.2.2.2.2.2.2.2.2.2.2.2.2.2.2.2.2.2.2.2.2.2.2.2.2.2.2.2.2.2.2.1
if x12 then
(some ((x12, z8.2.2.1, z8.2.2.2.1, z8.2.2.2.2.1, z8.2.2.2.2.2.1, z8.2.2.2.2.2.2.1, z8.2.2.2.2.2.2.2.1, z8.2.2.2.2.2.2.2.2.1, z8.2.2.2.2.2.2.2.2.2.1, z8.2.2.2.2.2.2.2.2.2.2.1, z8.2.2.2.2.2.2.2.2.2.2.2.1, z8.2.2.2.2.2.2.2.2.2.2.2.2.1, z8.2.2.2.2.2.2.2.2.2.2.2.2.2.1, z8.2.2.2.2.2.2.2.2.2.2.2.2.2.2.1, z8.2.2.2.2.2.2.2.2.2.2.2.2.2.2.2.1, z8.2.2.2.2.2.2.2.2.2.2.2.2.2.2.2.2.1, z8.2.2.2.2.2.2.2.2.2.2.2.2.2.2.2.2.2.1, z8.2.2.2.2.2.2.2.2.2.2.2.2.2.2.2.2.2.2.1, z8.2.2.2.2.2.2.2.2.2.2.2.2.2.2.2.2.2.2.2.1, z8.2.2.2.2.2.2.2.2.2.2.2.2.2.2.2.2.2.2.2.2.1, z8.2.2.2.2.2.2.2.2.2.2.2.2.2.2.2.2.2.2.2.2.2.1, z8.2.2.2.2.2.2.2.2.2.2.2.2.2.2.2.2.2.2.2.2.2.2.1, z8.2.2.2.2.2.2.2.2.2.2.2.2.2.2.2.2.2.2.2.2.2.2.2.1, z8.2.2.2.2.2.2.2.2.2.2.2.2.2.2.2.2.2.2.2.2.2.2.2.2.1, z8.2.2.2.2.2.2.2.2.2.2.2.2.2.2.2.2.2.2.2.2.2.2.2.2.2.1, z8.2.2.2.2.2.2.2.2.2.2.2.2.2.2.2.2.2.2.2.2.2.2.2.2.2.2.1, z8.2.2.2.2.2.2.2.2.2.2.2.2.2.2.2.2.2.2.2.2.2.2.2.2.2.2.2.1, z8.2.2.2.2.2.2.2.2.2.2.2.2.2.2.2.2.2.2.2.2.2.2.2.2.2.2.2.2.1, z8.2.2.2.2.2.2.2.2.2.2.2.2.2.2.2.2.2.2.2.2.2.2.2.2.2.2.2.2.2.1, z8.2.2.2.2.2.2.2.2.2.2.2.2.2.2.2.2.2.2.2.2.2.2.2.2.2.2.2.2.2.2.1, z8.2.2.2.2.2.2.2.2.2.2.2.2.2.2.2.2.2.2.2.2.2.2.2.2.2.2.2.2.2.2.2.1, z8.2.2.2.2.2.2.2.2.2.2.2.2.2.2.2.2.2.2.2.2.2.2.2.2.2.2.2.2.2.2.2.2.1, z8.2.2.2.2.2.2.2.2.2.2.2.2.2.2.2.2.2.2.2.2.2.2.2.2.2.2.2.2.2.2.2.2.2.1, z8.2.2.2.2.2.2.2.2.2.2.2.2.2.2.2.2.2.2.2.2.2.2.2.2.2.2.2.2.2.2.2.2.2.2.1, z8.2.2.2.2.2.2.2.2.2.2.2.2.2.2.2.2.2.2.2.2.2.2.2.2.2.2.2.2.2.2.2.2.2.2.2.1, z8.2.2.2.2.2.2.2.2.2.2.2.2.2.2.2.2.2.2.2.2.2.2.2.2.2.2.2.2.2.2.2.2.2.2.2.2.1, z8.2.2.2.2.2.2.2.2.2.2.2.2.2.2.2.2.2.2.2.2.2.2.2.2.2.2.2.2.2.2.2.2.2.2.2.2.2.1, z8.2.2.2.2.2.2.2.2.2.2.2.2.2.2.2.2.2.2.2.2.2.2.2.2.2.2.2.2.2.2.2.2.2.2.2.2.2.2)))
else
(let x13 := z8.2.2.2.2.2.2.2.2.2.2.2.2.2.2.2.2.2.2.2.2.2.2.2.2.2.2.2.1 != z8.2.2.1
if x13 then
(some ((x13, z8.2.2.1, z8.2.2.2.1, z8.2.2.2.2.1, z8.2.2.2.2.2.1, z8.2.2.2.2.2.2.1, z8.2.2.2.2.2.2.2.1, z8.2.2.2.2.2.2.2.2.1, z8.2.2.2.2.2.2.2.2.2.1, z8.2.2.2.2.2.2.2.2.2.2.1, z8.2.2.2.2.2.2.2.2.2.2.2.1, z8.2.2.2.2.2.2.2.2.2.2.2.2.1, z8.2.2.2.2.2.2.2.2.2.2.2.2.2.1, z8.2.2.2.2.2.2.2.2.2.2.2.2.2.2.1, z8.2.2.2.2.2.2.2.2.2.2.2.2.2.2.2.1, z8.2.2.2.2.2.2.2.2.2.2.2.2.2.2.2.2.1, z8.2.2.2.2.2.2.2.2.2.2.2.2.2.2.2.2.2.1, z8.2.2.2.2.2.2.2.2.2.2.2.2.2.2.2.2.2.2.1, z8.2.2.2.2.2.2.2.2.2.2.2.2.2.2.2.2.2.2.2.1, z8.2.2.2.2.2.2.2.2.2.2.2.2.2.2.2.2.2.2.2.2.1, z8.2.2.2.2.2.2.2.2.2.2.2.2.2.2.2.2.2.2.2.2.2.1, z8.2.2.2.2.2.2.2.2.2.2.2.2.2.2.2.2.2.2.2.2.2.2.1, z8.2.2.2.2.2.2.2.2.2.2.2.2.2.2.2.2.2.2.2.2.2.2.2.1, z8.2.2.2.2.2.2.2.2.2.2.2.2.2.2.2.2.2.2.2.2.2.2.2.2.1, z8.2.2.2.2.2.2.2.2.2.2.2.2.2.2.2.2.2.2.2.2.2.2.2.2.2.1, z8.2.2.2.2.2.2.2.2.2.2.2.2.2.2.2.2.2.2.2.2.2.2.2.2.2.2.1, z8.2.2.2.2.2.2.2.2.2.2.2.2.2.2.2.2.2.2.2.2.2.2.2.2.2.2.2.1, z8.2.2.2.2.2.2.2.2.2.2.2.2.2.2.2.2.2.2.2.2.2.2.2.2.2.2.2.2.1, z8.2.2.2.2.2.2.2.2.2.2.2.2.2.2.2.2.2.2.2.2.2.2.2.2.2.2.2.2.2.1, z8.2.2.2.2.2.2.2.2.2.2.2.2.2.2.2.2.2.2.2.2.2.2.2.2.2.2.2.2.2.2.1, z8.2.2.2.2.2.2.2.2.2.2.2.2.2.2.2.2.2.2.2.2.2.2.2.2.2.2.2.2.2.2.2.1, z8.2.2.2.2.2.2.2.2.2.2.2.2.2.2.2.2.2.2.2.2.2.2.2.2.2.2.2.2.2.2.2.2.1, z8.2.2.2.2.2.2.2.2.2.2.2.2.2.2.2.2.2.2.2.2.2.2.2.2.2.2.2.2.2.2.2.2.2.1, z8.2.2.2.2.2.2.2.2.2.2.2.2.2.2.2.2.2.2.2.2.2.2.2.2.2.2.2.2.2.2.2.2.2.2.1, z8.2.2.2.2.2.2.2.2.2.2.2.2.2.2.2.2.2.2.2.2.2.2.2.2.2.2.2.2.2.2.2.2.2.2.2.1, z8.2.2.2.2.2.2.2.2.2.2.2.2.2.2.2.2.2.2.2.2.2.2.2.2.2.2.2.2.2.2.2.2.2.2.2.2.1, z8.2.2.2.2.2.2.2.2.2.2.2.2.2.2.2.2.2.2.2.2.2.2.2.2.2.2.2.2.2.2.2.2.2.2.2.2.2.1, z8.2.2.2.2.2.2.2.2.2.2.2.2.2.2.2.2.2.2.2.2.2.2.2.2.2.2.2.2.2.2.2.2.2.2.2.2.2.2)))
else
(let x14 := z8.2.2.2.2.2.2.2.2.2.2.2.2.2.2.2.2.2.2.2.2.2.2.2.2.2.2.2.2.1 != z8.2.2.2.1
if x14 then
(some ((x14, z8.2.2.1, z8.2.2.2.1, z8.2.2.2.2.1, z8.2.2.2.2.2.1, z8.2.2.2.2.2.2.1, z8.2.2.2.2.2.2.2.1, z8.2.2.2.2.2.2.2.2.1, z8.2.2.2.2.2.2.2.2.2.1, z8.2.2.2.2.2.2.2.2.2.2.1, z8.2.2.2.2.2.2.2.2.2.2.2.1, z8.2.2.2.2.2.2.2.2.2.2.2.2.1, z8.2.2.2.2.2.2.2.2.2.2.2.2.2.1, z8.2.2.2.2.2.2.2.2.2.2.2.2.2.2.1, z8.2.2.2.2.2.2.2.2.2.2.2.2.2.2.2.1, z8.2.2.2.2.2.2.2.2.2.2.2.2.2.2.2.2.1, z8.2.2.2.2.2.2.2.2.2.2.2.2.2.2.2.2.2.1, z8.2.2.2.2.2.2.2.2.2.2.2.2.2.2.2.2.2.2.1, z8.2.2.2.2.2.2.2.2.2.2.2.2.2.2.2.2.2.2.2.1, z8.2.2.2.2.2.2.2.2.2.2.2.2.2.2.2.2.2.2.2.2.1, z8.2.2.2.2.2.2.2.2.2.2.2.2.2.2.2.2.2.2.2.2.2.1, z8.2.2.2.2.2.2.2.2.2.2.2.2.2.2.2.2.2.2.2.2.2.2.1, z8.2.2.2.2.2.2.2.2.2.2.2.2.2.2.2.2.2.2.2.2.2.2.2.1, z8.2.2.2.2.2.2.2.2.2.2.2.2.2.2.2.2.2.2.2.2.2.2.2.2.1, z8.2.2.2.2.2.2.2.2.2.2.2.2.2.2.2.2.2.2.2.2.2.2.2.2.2.1, z8.2.2.2.2.2.2.2.2.2.2.2.2.2.2.2.2.2.2.2.2.2.2.2.2.2.2.1, z8.2.2.2.2.2.2.2.2.2.2.2.2.2.2.2.2.2.2.2.2.2.2.2.2.2.2.2.1, z8.2.2.2.2.2.2.2.2.2.2.2.2.2.2.2.2.2.2.2.2.2.2.2.2.2.2.2.2.1, z8.2.2.2.2.2.2.2.2.2.2.2.2.2.2.2.2.2.2.2.2.2.2.2.2.2.2.2.2.2.1, z8.2.2.2.2.2.2.2.2.2.2.2.2.2.2.2.2.2.2.2.2.2.2.2.2.2.2.2.2.2.2.1, z8.2.2.2.2.2.2.2.2.2.2.2.2.2.2.2.2.2.2.2.2.2.2.2.2.2.2.2.2.2.2.2.1, z8.2.2.2.2.2.2.2.2.2.2.2.2.2.2.2.2.2.2.2.2.2.2.2.2.2.2.2.2.2.2.2.2.1, z8.2.2.2.2.2.2.2.2.2.2.2.2.2.2.2.2.2.2.2.2.2.2.2.2.2.2.2.2.2.2.2.2.2.1, z8.2.2.2.2.2.2.2.2.2.2.2.2.2.2.2.2.2.2.2.2.2.2.2.2.2.2.2.2.2.2.2.2.2.2.1, z8.2.2.2.2.2.2.2.2.2.2.2.2.2.2.2.2.2.2.2.2.2.2.2.2.2.2.2.2.2.2.2.2.2.2.2.1, z8.2.2.2.2.2.2.2.2.2.2.2.2.2.2.2.2.2.2.2.2.2.2.2.2.2.2.2.2.2.2.2.2.2.2.2.2.1, z8.2.2.2.2.2.2.2.2.2.2.2.2.2.2.2.2.2.2.2.2.2.2.2.2.2.2.2.2.2.2.2.2.2.2.2.2.2.1, z8.2.2.2.2.2.2.2.2.2.2.2.2.2.2.2.2.2.2.2.2.2.2.2.2.2.2.2.2.2.2.2.2.2.2.2.2.2.2)))
else
(
some (((z8.2.2.2.2.2.2.2.2.2.2.2.2.2.2.2.2.2.2.2.2.2.2.2.2.2.2.2.2.2.2.2.2.1 != z8.1), z8.2.2.1, z8.2.2.2.1, z8.2.2.2.2.1, z8.2.2.2.2.2.1, z8.2.2.2.2.2.2.1, z8.2.2.2.2.2.2.2.1, z8.2.2.2.2.2.2.2.2.1, z8.2.2.2.2.2.2.2.2.2.1, z8.2.2.2.2.2.2.2.2.2.2.1, z8.2.2.2.2.2.2.2.2.2.2.2.1, z8.2.2.2.2.2.2.2.2.2.2.2.2.1, z8.2.2.2.2.2.2.2.2.2.2.2.2.2.1, z8.2.2.2.2.2.2.2.2.2.2.2.2.2.2.1, z8.2.2.2.2.2.2.2.2.2.2.2.2.2.2.2.1, z8.2.2.2.2.2.2.2.2.2.2.2.2.2.2.2.2.1, z8.2.2.2.2.2.2.2.2.2.2.2.2.2.2.2.2.2.1, z8.2.2.2.2.2.2.2.2.2.2.2.2.2.2.2.2.2.2.1, z8.2.2.2.2.2.2.2.2.2.2.2.2.2.2.2.2.2.2.2.1, z8.2.2.2.2.2.2.2.2.2.2.2.2.2.2.2.2.2.2.2.2.1, z8.2.2.2.2.2.2.2.2.2.2.2.2.2.2.2.2.2.2.2.2.2.1, z8.2.2.2.2.2.2.2.2.2.2.2.2.2.2.2.2.2.2.2.2.2.2.1, z8.2.2.2.2.2.2.2.2.2.2.2.2.2.2.2.2.2.2.2.2.2.2.2.1, z8.2.2.2.2.2.2.2.2.2.2.2.2.2.2.2.2.2.2.2.2.2.2.2.2.1, z8.2.2.2.2.2.2.2.2.2.2.2.2.2.2.2.2.2.2.2.2.2.2.2.2.2.1, z8.2.2.2.2.2.2.2.2.2.2.2.2.2.2.2.2.2.2.2.2.2.2.2.2.2.2.1, z8.2.2.2.2.2.2.2.2.2.2.2.2.2.2.2.2.2.2.2.2.2.2.2.2.2.2.2.1, z8.2.2.2.2.2.2.2.2.2.2.2.2.2.2.2.2.2.2.2.2.2.2.2.2.2.2.2.2.1, z8.2.2.2.2.2.2.2.2.2.2.2.2.2.2.2.2.2.2.2.2.2.2.2.2.2.2.2.2.2.1, z8.2.2.2.2.2.2.2.2.2.2.2.2.2.2.2.2.2.2.2.2.2.2.2.2.2.2.2.2.2.2.1, z8.2.2.2.2.2.2.2.2.2.2.2.2.2.2.2.2.2.2.2.2.2.2.2.2.2.2.2.2.2.2.2.1, z8.2.2.2.2.2.2.2.2.2.2.2.2.2.2.2.2.2.2.2.2.2.2.2.2.2.2.2.2.2.2.2.2.1, z8.2.2.2.2.2.2.2.2.2.2.2.2.2.2.2.2.2.2.2.2.2.2.2.2.2.2.2.2.2.2.2.2.2.1, z8.2.2.2.2.2.2.2.2.2.2.2.2.2.2.2.2.2.2.2.2.2.2.2.2.2.2.2.2.2.2.2.2.2.2.1, z8.2.2.2.2.2.2.2.2.2.2.2.2.2.2.2.2.2.2.2.2.2.2.2.2.2.2.2.2.2.2.2.2.2.2.2.1, z8.2.2.2.2.2.2.2.2.2.2.2.2.2.2.2.2.2.2.2.2.2.2.2.2.2.2.2.2.2.2.2.2.2.2.2.2.1, z8.2.2.2.2.2.2.2.2.2.2.2.2.2.2.2.2.2.2.2.2.2.2.2.2.2.2.2.2.2.2.2.2.2.2.2.2.2.1, z8.2.2.2.2.2.2.2.2.2.2.2.2.2.2.2.2.2.2.2.2.2.2.2.2.2.2.2.2.2.2.2.2.2.2.2.2.2.2)))))))).bind fun z16 =>
if z16.1 then
(some (240 : Int))
else
((cut z16.2.2.2.1 z16.2.2.2.2.2.2.2.2.2.2.2.2.2.2.2.2.2.2.2.2.2.2.2.2.2.2.2.2.2.2.1 (z16.2.2.2.1.length : Int)).bind fun y17 =>
(cut y17 0 (z16.2.2.2.2.2.2.2.2.2.2.2.2.2.2.2.2.2.2.2.2.2.2.2.2.2.2.2.2.2.2.2.2.2.2.2.2.1.length : Int)).bind fun y19 =>
(g45 z16.2.2.2.2.2.2.2.2.2.2.2.2.2.2.2.2.2.2.2.2.2.2.2.2.2.2.2.2.2.2.2.2.2.2.2.2.1 y19).bind fun y20 =>
if (!y20) then
(some (240 : Int))
else
(
let x23 := !(h42 z16.2.2.2.2.2.2.2.2.2.2.2.2.2.2.2.2.2.2.2.2.2.1 (0 : Int) (1114112 : Int))
if x23 then
(if x23 then
(some (240 : Int))
else
(some (0 : Int)))
else
(
let x25 := !(h42 z16.2.2.2.2.2.2.2.2.2.2.2.2.2.2.2.2.2.2.2.2.2.2.1 (0 : Int) z16.2.2.2.2.2.1)
if x25 then
(if x25 then
(some (240 : Int))
else
(some (0 : Int)))
else
(
let x27 := decide ((z16.2.2.2.2.2.2.2.2.2.2.2.2.2.2.2.2.2.2.2.2.2.2.2.1.length : Int) > (32 : Int))
if x27 then
(if x27 then
(some (240 : Int))
else
(some (0 : Int)))
else
((g46 z16.2.2.2.2.2.2.2.2.2.2.2.2.2.2.2.2.2.2.2.2.2.2.2.1 (0 : Int)).bind fun y28 =>
if y28 then
(if y28 then
(some (240 : Int))
else
(some (0 : Int)))
else
(
if (!(h42 z16.2.2.2.2.2.2.2.2.2.2.2.2.2.2.2.2.2.2.2.2.2.2.2.2.1 (0 : Int) (255 : Int))) then
(some (240 : Int))
else
(some (0 : Int)))))))))
noncomputable def tf15 : TF := .par ⟨[.v YSending], (.i .i64)⟩ (fun x => g15 x)
theorem e15 : evFn (tabU [(35, tf35), (42, tf42), (43, tf43), (44, tf44), (45, tf45), (46, tf46)]) ⟨F15.res, F15.keep, tf15.sg⟩ T15 = fun x => g15 x := by kernel_rfl
theorem o15 : TOK (EF pg) 15 tf15 := tok_of p15 rfl (tabU_cons o35 (tabU_cons o42 (tabU_cons o43 (tabU_cons o44 (tabU_cons o45 (tabU_cons o46 (tabU_nil))))))) ⟨rfl, rfl, by decide⟩ rfl (rndOk_of rfl) trivial fun x y h => (congrFun e15 x).trans h
/-- heliograph/sender.ready -/
noncomputable def g51 (a0 : Sending) (a1 : Int) : Option Int :=
(g15 a0).bind fun y1 =>
if (y1 != (0 : Int)) then
(some (240 : Int))
else
(
if (!(h36 a1)) then
(some (2 : Int))
else
(some (0 : Int)))
noncomputable def tf51 : TF := .par ⟨[.v YSending, .v (.i .i64)], (.i .i64)⟩ (fun x => g51 x.1 x.2)
theorem e51 : evFn (tabU [(15, tf15), (36, tf36)]) ⟨F51.res, F51.keep, tf51.sg⟩ T51 = fun x => g51 x.1 x.2 := by kernel_rfl
theorem o51 : TOK (EF pg) 51 tf51 := tok_of p51 rfl (tabU_cons o15 (tabU_cons o36 (tabU_nil))) ⟨rfl, rfl, by decide⟩ rfl (rndOk_of rfl) trivial fun x y h => (congrFun e51 x).trans h
/-- heliograph/sender.Tick -/
noncomputable def g28 (a0 : Sending) (a1 : Int) : Option (Sending × (List Segment) × Int) :=
(g51 a0 a1).bind fun y1 =>
if (y1 != (0 : Int)) then
(some (((0 : Int), (0 : Int), [], (0 : Int), (0 : Int), (0 : Int), [], (0 : Int), (0 : Int), (0 : Int), (0 : Int), (0 : Int), (0 : Int), (0 : Int), (0 : Int), (0 : Int), (0 : Int), false, [], [], (0 : Int), (0 : Int), [], (0 : Int)), [], y1))
else
((g38 a0).bind fun y3 =>
if (if (if (y3.2.2.2.2.2.1 != (1 : Int)) then (y3.2.2.2.2.2.1 != (3 : Int)) else false) then true else (decide (a1 < y3.2.2.2.2.2.2.2.2.2.2.2.2.2.2.2.2.2.2.2.2.1))) then
(some (y3, [], (0 : Int)))
else
(
if (if (y3.2.2.2.2.2.2.2.2.2.2.2.2.2.2.2.2.2.2.2.2.2.1 == y3.2.2.2.2.1) then (y3.2.2.2.2.2.1 == (1 : Int)) else false) then
(let x12 := h61 y3 (1 : Int) a1
some (x12.1, x12.2, (0 : Int)))
else
(
if (y3.2.2.2.2.2.2.2.2.2.2.2.2.2.2.2.2.2.2.2.2.2.1 == y3.2.2.2.2.1) then
(some ((y3.1, y3.2.1, y3.2.2.1, y3.2.2.2.1, y3.2.2.2.2.1, (4 : Int), y3.2.2.2.2.2.2.1, y3.2.2.2.2.2.2.2.1, y3.2.2.2.2.2.2.2.2.1, y3.2.2.2.2.2.2.2.2.2.1, y3.2.2.2.2.2.2.2.2.2.2.1, y3.2.2.2.2.2.2.2.2.2.2.2.1, y3.2.2.2.2.2.2.2.2.2.2.2.2.1, y3.2.2.2.2.2.2.2.2.2.2.2.2.2.1, y3.2.2.2.2.2.2.2.2.2.2.2.2.2.2.1, y3.2.2.2.2.2.2.2.2.2.2.2.2.2.2.2.1, y3.2.2.2.2.2.2.2.2.2.2.2.2.2.2.2.2.1, y3.2.2.2.2.2.2.2.2.2.2.2.2.2.2.2.2.2.1, y3.2.2.2.2.2.2.2.2.2.2.2.2.2.2.2.2.2.2.1, y3.2.2.2.2.2.2.2.2.2.2.2.2.2.2.2.2.2.2.2.1, y3.2.2.2.2.2.2.2.2.2.2.2.2.2.2.2.2.2.2.2.2.1, y3.2.2.2.2.2.2.2.2.2.2.2.2.2.2.2.2.2.2.2.2.2.1, y3.2.2.2.2.2.2.2.2.2.2.2.2.2.2.2.2.2.2.2.2.2.2.1, y3.2.2.2.2.2.2.2.2.2.2.2.2.2.2.2.2.2.2.2.2.2.2.2), [], (0 : Int)))
else
(let x14 := IntKind.i64.wrap (y3.2.2.2.2.2.2.2.2.2.2.2.2.2.2.2.2.2.2.2.2.2.1 + (1 : Int))
let x15 := IntKind.i64.wrap (a1 + y3.2.2.2.1)
if (y3.2.2.2.2.2.1 == (3 : Int)) then
(
some ((y3.1, y3.2.1, y3.2.2.1, y3.2.2.2.1, y3.2.2.2.2.1, y3.2.2.2.2.2.1, y3.2.2.2.2.2.2.1, y3.2.2.2.2.2.2.2.1, y3.2.2.2.2.2.2.2.2.1, y3.2.2.2.2.2.2.2.2.2.1, y3.2.2.2.2.2.2.2.2.2.2.1, y3.2.2.2.2.2.2.2.2.2.2.2.1, y3.2.2.2.2.2.2.2.2.2.2.2.2.1, y3.2.2.2.2.2.2.2.2.2.2.2.2.2.1, y3.2.2.2.2.2.2.2.2.2.2.2.2.2.2.1, y3.2.2.2.2.2.2.2.2.2.2.2.2.2.2.2.1, y3.2.2.2.2.2.2.2.2.2.2.2.2.2.2.2.2.1, y3.2.2.2.2.2.2.2.2.2.2.2.2.2.2.2.2.2.1, y3.2.2.2.2.2.2.2.2.2.2.2.2.2.2.2.2.2.2.1, y3.2.2.2.2.2.2.2.2.2.2.2.2.2.2.2.2.2.2.2.1, x15, x14, y3.2.2.2.2.2.2.2.2.2.2.2.2.2.2.2.2.2.2.2.2.2.2.1, y3.2.2.2.2.2.2.2.2.2.2.2.2.2.2.2.2.2.2.2.2.2.2.2), [(h62 (y3.1, y3.2.1, y3.2.2.1, y3.2.2.2.1, y3.2.2.2.2.1, y3.2.2.2.2.2.1, y3.2.2.2.2.2.2.1, y3.2.2.2.2.2.2.2.1, y3.2.2.2.2.2.2.2.2.1, y3.2.2.2.2.2.2.2.2.2.1, y3.2.2.2.2.2.2.2.2.2.2.1, y3.2.2.2.2.2.2.2.2.2.2.2.1, y3.2.2.2.2.2.2.2.2.2.2.2.2.1, y3.2.2.2.2.2.2.2.2.2.2.2.2.2.1, y3.2.2.2.2.2.2.2.2.2.2.2.2.2.2.1, y3.2.2.2.2.2.2.2.2.2.2.2.2.2.2.2.1, y3.2.2.2.2.2.2.2.2.2.2.2.2.2.2.2.2.1, y3.2.2.2.2.2.2.2.2.2.2.2.2.2.2.2.2.2.1, y3.2.2.2.2.2.2.2.2.2.2.2.2.2.2.2.2.2.2.1, y3.2.2.2.2.2.2.2.2.2.2.2.2.2.2.2.2.2.2.2.1, x15, x14, y3.2.2.2.2.2.2.2.2.2.2.2.2.2.2.2.2.2.2.2.2.2.2.1, y3.2.2.2.2.2.2.2.2.2.2.2.2.2.2.2.2.2.2.2.2.2.2.2))], (0 : Int)))
else
((g63 y3.2.2.2.2.2.2.2.2.2.2.2.2.2.2.2.2.2.2.1).bind fun y18 =>
some ((y3.1, y3.2.1, y3.2.2.1, y3.2.2.2.1, y3.2.2.2.2.1, y3.2.2.2.2.2.1, y3.2.2.2.2.2.2.1, y3.2.2.2.2.2.2.2.1, y3.2.2.2.2.2.2.2.2.1, y3.2.2.2.2.2.2.2.2.2.1, y3.2.2.2.2.2.2.2.2.2.2.1, y3.2.2.2.2.2.2.2.2.2.2.2.1, y3.2.2.2.2.2.2.2.2.2.2.2.2.1, y3.2.2.2.2.2.2.2.2.2.2.2.2.2.1, y3.2.2.2.2.2.2.2.2.2.2.2.2.2.2.1, y3.2.2.2.2.2.2.2.2.2.2.2.2.2.2.2.1, y3.2.2.2.2.2.2.2.2.2.2.2.2.2.2.2.2.1, y3.2.2.2.2.2.2.2.2.2.2.2.2.2.2.2.2.2.1, y3.2.2.2.2.2.2.2.2.2.2.2.2.2.2.2.2.2.2.1, y3.2.2.2.2.2.2.2.2.2.2.2.2.2.2.2.2.2.2.2.1, x15, x14, y3.2.2.2.2.2.2.2.2.2.2.2.2.2.2.2.2.2.2.2.2.2.2.1, y3.2.2.2.2.2.2.2.2.2.2.2.2.2.2.2.2.2.2.2.2.2.2.2), [(y3.2.2.2.2.2.2.2.1, y3.2.2.2.2.2.2.2.2.1, y3.2.2.2.2.2.2.2.2.2.1, y3.2.2.2.2.2.2.2.2.2.2.1, y3.2.2.2.2.2.2.2.2.2.2.2.1, y3.2.2.2.2.2.2.2.2.2.2.2.2.1, y3.2.2.2.2.2.2.2.2.2.2.2.2.2.1, y3.2.2.2.2.2.2.2.2.2.2.2.2.2.2.1, y3.2.2.2.2.2.2.2.2.2.2.2.2.2.2.2.1, y3.2.2.2.2.2.2.2.2.2.2.2.2.2.2.2.2.1, y3.2.2.2.2.2.2.2.2.2.2.2.2.2.2.2.2.2.1, y18, y3.2.2.2.2.2.2.2.2.2.2.2.2.2.2.2.2.2.2.2.1)], (0 : Int)))))))
noncomputable def tf28 : TF := .par ⟨[.v YSending, .v (.i .i64)], (.t YSending (.t (.l .ro YSegment) (.i .i64)))⟩ (fun x => g28 x.1 x.2)
theorem e28 : evFn (tabU [(38, tf38), (51, tf51), (61, tf61), (62, tf62), (63, tf63)]) ⟨F28.res, F28.keep, tf28.sg⟩ T28 = fun x => g28 x.1 x.2 := by kernel_rfl
theorem o28 : TOK (EF pg) 28 tf28 := tok_of p28 rfl (tabU_cons o38 (tabU_cons o51 (tabU_cons o61 (tabU_cons o62 (tabU_cons o63 (tabU_nil)))))) ⟨rfl, rfl, by decide⟩ rfl (rndOk_of rfl) trivial fun x y h => (congrFun e28 x).trans h
/-- heliograph/heliographlaw14.SenderEnds -/
noncomputable def g7x0 (s : Int × Int × Int × Int × Int × Int × (List Int) × Int × Int × Int × Int × (List Int) × Int × Int × Int × (List Claim) × Int × Int × Int × Int × Int × Int × Int × Int × Int × Int × Bool × (List Int) × (List Claim) × Int × Int × (List Int) × Int) : Option ((Int × Int × Int × Int × Int × Int × (List Int) × Int × Int × Int × Int × (List Int) × Int × Int × Int × (List Claim) × Int × Int × Int × Int × Int × Int × Int × Int × Int × Int × Bool × (List Int) × (List Claim) × Int × Int × (List Int) × Int) ⊕ ((Int × Int × Int × (List Int) × Int × Int × Int × Int × (List Int) × Int × Int × Int × (List Claim) × Int × Int × Int × Int × Int × Int × Int × Int × Int × Int × Bool × (List Int) × (List Claim) × Int × Int × (List Int) × Int) ⊕ Bool)) :=
if (decide (s.2.2.2.1 < s.2.2.1)) then
(
(g28 s.2.2.2.2.2.2.2.2.2 (IntKind.i64.wrap ((IntKind.i64.wrap ((IntKind.i64.wrap (s.2.2.2.1 + (1 : Int))) * s.2.2.2.2.2.2.2.1)) + ((if (0 : Int) > s.1 then (0 : Int) else s.1).tmod (1000 : Int))))).bind fun y17 =>
if (y17.2.2 != (0 : Int)) then
(some (Sum.inr (Sum.inr (false))))
else
(
let x20 := IntKind.i64.wrap (s.2.1 + (y17.2.1.length : Int))
if (y17.1.2.2.2.2.2.1 == (4 : Int)) then
(some (Sum.inr (Sum.inl (x20, s.2.2.2.2.1, s.2.2.2.2.2.1, s.2.2.2.2.2.2.1, s.2.2.2.2.2.2.2.1, s.2.2.2.2.2.2.2.2.1, y17.1.1, y17.1.2.1, y17.1.2.2.1, y17.1.2.2.2.1, y17.1.2.2.2.2.1, y17.1.2.2.2.2.2.1, y17.1.2.2.2.2.2.2.1, y17.1.2.2.2.2.2.2.2.1, y17.1.2.2.2.2.2.2.2.2.1, y17.1.2.2.2.2.2.2.2.2.2.1, y17.1.2.2.2.2.2.2.2.2.2.2.1, y17.1.2.2.2.2.2.2.2.2.2.2.2.1, y17.1.2.2.2.2.2.2.2.2.2.2.2.2.1, y17.1.2.2.2.2.2.2.2.2.2.2.2.2.2.1, y17.1.2.2.2.2.2.2.2.2.2.2.2.2.2.2.1, y17.1.2.2.2.2.2.2.2.2.2.2.2.2.2.2.2.1, y17.1.2.2.2.2.2.2.2.2.2.2.2.2.2.2.2.2.1, y17.1.2.2.2.2.2.2.2.2.2.2.2.2.2.2.2.2.2.1, y17.1.2.2.2.2.2.2.2.2.2.2.2.2.2.2.2.2.2.2.1, y17.1.2.2.2.2.2.2.2.2.2.2.2.2.2.2.2.2.2.2.2.1, y17.1.2.2.2.2.2.2.2.2.2.2.2.2.2.2.2.2.2.2.2.2.1, y17.1.2.2.2.2.2.2.2.2.2.2.2.2.2.2.2.2.2.2.2.2.2.1, y17.1.2.2.2.2.2.2.2.2.2.2.2.2.2.2.2.2.2.2.2.2.2.2.1, y17.1.2.2.2.2.2.2.2.2.2.2.2.2.2.2.2.2.2.2.2.2.2.2.2))))
else
(
(g28 y17.1 (IntKind.i64.wrap (y17.1.2.2.2.2.2.2.2.2.2.2.2.2.2.2.2.2.2.2.2.2.1 - (1 : Int)))).bind fun y23 =>
if (if (y23.2.2 != (0 : Int)) then true else ((y23.2.1.length : Int) != (0 : Int))) then
(some (Sum.inr (Sum.inr (false))))
else
(
if (y17.1.2.2.2.2.2.2.2.2.2.2.2.2.2.2.2.2.2.2.2.2.1 != (IntKind.i64.wrap ((IntKind.i64.wrap ((IntKind.i64.wrap (s.2.2.2.1 + (2 : Int))) * s.2.2.2.2.2.2.2.1)) + ((if (0 : Int) > s.1 then (0 : Int) else s.1).tmod (1000 : Int))))) then
(some (Sum.inr (Sum.inr (false))))
else
(
some (Sum.inl (s.1, x20, s.2.2.1, (IntKind.i64.wrap (s.2.2.2.1 + (1 : Int))), s.2.2.2.2.1, s.2.2.2.2.2.1, s.2.2.2.2.2.2.1, s.2.2.2.2.2.2.2.1, s.2.2.2.2.2.2.2.2.1, y17.1.1, y17.1.2.1, y17.1.2.2.1, y17.1.2.2.2.1, y17.1.2.2.2.2.1, y17.1.2.2.2.2.2.1, y17.1.2.2.2.2.2.2.1, y17.1.2.2.2.2.2.2.2.1, y17.1.2.2.2.2.2.2.2.2.1, y17.1.2.2.2.2.2.2.2.2.2.1, y17.1.2.2.2.2.2.2.2.2.2.2.1, y17.1.2.2.2.2.2.2.2.2.2.2.2.1, y17.1.2.2.2.2.2.2.2.2.2.2.2.2.1, y17.1.2.2.2.2.2.2.2.2.2.2.2.2.2.1, y17.1.2.2.2.2.2.2.2.2.2.2.2.2.2.2.1, y17.1.2.2.2.2.2.2.2.2.2.2.2.2.2.2.2.1, y17.1.2.2.2.2.2.2.2.2.2.2.2.2.2.2.2.2.1, y17.1.2.2.2.2.2.2.2.2.2.2.2.2.2.2.2.2.2.1, y17.1.2.2.2.2.2.2.2.2.2.2.2.2.2.2.2.2.2.2.1, y17.1.2.2.2.2.2.2.2.2.2.2.2.2.2.2.2.2.2.2.2.1, y17.1.2.2.2.2.2.2.2.2.2.2.2.2.2.2.2.2.2.2.2.2.1, y17.1.2.2.2.2.2.2.2.2.2.2.2.2.2.2.2.2.2.2.2.2.2.1, y17.1.2.2.2.2.2.2.2.2.2.2.2.2.2.2.2.2.2.2.2.2.2.2.1, y17.1.2.2.2.2.2.2.2.2.2.2.2.2.2.2.2.2.2.2.2.2.2.2.2)))))))
else
(some (Sum.inr (Sum.inl (s.2.1, s.2.2.2.2.1, s.2.2.2.2.2.1, s.2.2.2.2.2.2.1, s.2.2.2.2.2.2.2.1, s.2.2.2.2.2.2.2.2.1, s.2.2.2.2.2.2.2.2.2.1, s.2.2.2.2.2.2.2.2.2.2.1, s.2.2.2.2.2.2.2.2.2.2.2.1, s.2.2.2.2.2.2.2.2.2.2.2.2.1, s.2.2.2.2.2.2.2.2.2.2.2.2.2.1, s.2.2.2.2.2.2.2.2.2.2.2.2.2.2.1, s.2.2.2.2.2.2.2.2.2.2.2.2.2.2.2.1, s.2.2.2.2.2.2.2.2.2.2.2.2.2.2.2.2.1, s.2.2.2.2.2.2.2.2.2.2.2.2.2.2.2.2.2.1, s.2.2.2.2.2.2.2.2.2.2.2.2.2.2.2.2.2.2.1, s.2.2.2.2.2.2.2.2.2.2.2.2.2.2.2.2.2.2.2.1, s.2.2.2.2.2.2.2.2.2.2.2.2.2.2.2.2.2.2.2.2.1, s.2.2.2.2.2.2.2.2.2.2.2.2.2.2.2.2.2.2.2.2.2.1, s.2.2.2.2.2.2.2.2.2.2.2.2.2.2.2.2.2.2.2.2.2.2.1, s.2.2.2.2.2.2.2.2.2.2.2.2.2.2.2.2.2.2.2.2.2.2.2.1, s.2.2.2.2.2.2.2.2.2.2.2.2.2.2.2.2.2.2.2.2.2.2.2.2.1, s.2.2.2.2.2.2.2.2.2.2.2.2.2.2.2.2.2.2.2.2.2.2.2.2.2.1, s.2.2.2.2.2.2.2.2.2.2.2.2.2.2.2.2.2.2.2.2.2.2.2.2.2.2.1, s.2.2.2.2.2.2.2.2.2.2.2.2.2.2.2.2.2.2.2.2.2.2.2.2.2.2.2.1, s.2.2.2.2.2.2.2.2.2.2.2.2.2.2.2.2.2.2.2.2.2.2.2.2.2.2.2.2.1, s.2.2.2.2.2.2.2.2.2.2.2.2.2.2.2.2.2.2.2.2.2.2.2.2.2.2.2.2.2.1, s.2.2.2.2.2.2.2.2.2.2.2.2.2.2.2.2.2.2.2.2.2.2.2.2.2.2.2.2.2.2.1, s.2.2.2.2.2.2.2.2.2.2.2.2.2.2.2.2.2.2.2.2.2.2.2.2.2.2.2.2.2.2.2.1, s.2.2.2.2.2.2.2.2.2.2.2.2.2.2.2.2.2.2.2.2.2.2.2.2.2.2.2.2.2.2.2.2))))
noncomputable def g7 (a0 : Start) (a1 : Int) : Option Bool :=
if (!true) then
(some false)
else
(let x2 := (a0.2.2.1.length : Int)
(cut a0.2.2.1 0 (if (600 : Int) < x2 then (600 : Int) else x2)).bind fun y4 =>
(apd 1 [] y4).bind fun y5 =>
(g11 (a0.1, a0.2.1, y5, a0.2.2.2.1, a0.2.2.2.2) (0 : Int)).bind fun y6 =>
if (y6.2.2 != (0 : Int)) then
(
some (y6.2.2 == (2 : Int)))
else
(
(lpU g7x0 (a1, (0 : Int), (IntKind.i64.wrap ((IntKind.i64.wrap ((2 : Int) * a0.2.2.2.2)) + (3 : Int))), (0 : Int), a0.1, a0.2.1, y5, a0.2.2.2.1, a0.2.2.2.2, y6.1.1, y6.1.2.1, y6.1.2.2.1, y6.1.2.2.2.1, y6.1.2.2.2.2.1, y6.1.2.2.2.2.2.1, y6.1.2.2.2.2.2.2.1, y6.1.2.2.2.2.2.2.2.1, y6.1.2.2.2.2.2.2.2.2.1, y6.1.2.2.2.2.2.2.2.2.2.1, y6.1.2.2.2.2.2.2.2.2.2.2.1, y6.1.2.2.2.2.2.2.2.2.2.2.2.1, y6.1.2.2.2.2.2.2.2.2.2.2.2.2.1, y6.1.2.2.2.2.2.2.2.2.2.2.2.2.2.1, y6.1.2.2.2.2.2.2.2.2.2.2.2.2.2.2.1, y6.1.2.2.2.2.2.2.2.2.2.2.2.2.2.2.2.1, y6.1.2.2.2.2.2.2.2.2.2.2.2.2.2.2.2.2.1, y6.1.2.2.2.2.2.2.2.2.2.2.2.2.2.2.2.2.2.1, y6.1.2.2.2.2.2.2.2.2.2.2.2.2.2.2.2.2.2.2.1, y6.1.2.2.2.2.2.2.2.2.2.2.2.2.2.2.2.2.2.2.2.1, y6.1.2.2.2.2.2.2.2.2.2.2.2.2.2.2.2.2.2.2.2.2.1, y6.1.2.2.2.2.2.2.2.2.2.2.2.2.2.2.2.2.2.2.2.2.2.1, y6.1.2.2.2.2.2.2.2.2.2.2.2.2.2.2.2.2.2.2.2.2.2.2.1, y6.1.2.2.2.2.2.2.2.2.2.2.2.2.2.2.2.2.2.2.2.2.2.2.2)).bind fun z35 =>
match z35 with
| Sum.inl z36 => (let x38 := z36.2.2.2.2.2.2.2.2.2.2.2.1 == (4 : Int)
some (if (if x38 then (z36.2.2.2.2.2.2.2.2.2.2.2.2.2.2.2.2.2.2.2.2.2.2.2.2.2.2.2.2.2 == (1 : Int)) else false) then (decide (z36.1 ≤ (IntKind.i64.wrap ((IntKind.i64.wrap ((2 : Int) * z36.2.2.2.2.2.1)) + (2 : Int))))) else false))
| Sum.inr z37 => (some z37)))
noncomputable def tf7 : TF := .par ⟨[.v YStart, .v (.i .i64)], .b⟩ (fun x => g7 x.1 x.2)
theorem e7 : evFn (tabU [(11, tf11), (28, tf28)]) ⟨F7.res, F7.keep, tf7.sg⟩ T7 = fun x => g7 x.1 x.2 := by kernel_rfl
theorem o7 : TOK1 (EF pg) (run1 E7 (EF pg)) tf7 := tok_run rfl (tabU_cons o11 (tabU_cons o28 (tabU_nil))) ⟨rfl, rfl, by decide⟩ rfl (rndOk_of rfl) fun x y h => (congrFun e7 x).trans h
theorem v7 (ds : List D) : EF pg 7 ds [] = run1 E7 (EF pg) ds [] := (EF_run1 p7 rfl ds []).trans (wk_run1 (F := F7) (F' := E7) wakes_ok rfl rfl ds)
/-- heliograph/sender.claim$1 -/
noncomputable def h77 (a0 : Claim) (a1 : Claim) : Int :=
(IntKind.i64.wrap (a0.1 - a1.1))
noncomputable def tf77 : TF := .tot ⟨[.v YClaim, .v YClaim], (.i .i64)⟩ (fun x => h77 x.1 x.2)
theorem e77 : evFn (tabU []) ⟨F77.res, F77.keep, tf77.sg⟩ T77 = fun x => some (h77 x.1 x.2) := by kernel_rfl
theorem o77 : TOK (EF pg) 77 tf77 := tok_of p77 rfl (tabU_nil) ⟨rfl, rfl, by decide⟩ rfl (rndOk_of rfl) trivial fun x y h => (congrFun e77 x).trans h
/-- (*slices.xorshift).Next -/
noncomputable def h92 (a0 : Int) : Int × Int :=
let x2 := xorI .u64 a0 (shlI .u64 a0 (13 : Int))
let x4 := xorI .u64 x2 (shrI .u64 x2 (7 : Int))
let x6 := xorI .u64 x4 (shlI .u64 x4 (17 : Int))
(x6, x6)
noncomputable def tf92 : TF := .tot ⟨[.x (.i .u64)], (.i .u64)⟩ (fun x => h92 x)
theorem e92 : evFn (tabU []) ⟨F92.res, F92.keep, tf92.sg⟩ T92 = fun x => some (h92 x) := by kernel_rfl
theorem o92 : TOK (EF pg) 92 tf92 := tok_of p92 rfl (tabU_nil) ⟨rfl, rfl, by decide⟩ rfl (rndOk_of rfl) trivial fun x y h => (congrFun e92 x).trans h
/-- slices.order2CmpFunc[heliograph/api.Claim] -/
noncomputable def g95 (a0 : List Claim) (a1 : Int) (a2 : Int) (a3 : Int) (a4 : (Claim × Claim) → Option Int) : Option ((Int × Int) × Int) :=
(idx a0 a2).bind fun y1 =>
(idx a0 a1).bind fun y2 =>
(a4 (y1, y2)).bind fun y3 =>
if (decide (y3 < (0 : Int))) then
(
some ((a2, a1), (IntKind.i64.wrap (a3 + (1 : Int)))))
else
(some ((a1, a2), a3))
noncomputable def tf95 : TF := .par ⟨[.v (.l .ro YClaim), .v (.i .i64), .v (.i .i64), .x (.i .i64), .v (.fn (.t YClaim YClaim) (.i .i64))], (.t (.i .i64) (.i .i64))⟩ (fun x => g95 x.1 x.2.1 x.2.2.1 x.2.2.2.1 x.2.2.2.2)
theorem e95 : evFn (tabU []) ⟨F95.res, F95.keep, tf95.sg⟩ T95 = fun x => g95 x.1 x.2.1 x.2.2.1 x.2.2.2.1 x.2.2.2.2 := by kernel_rfl
theorem o95 : TOK (EF pg) 95 tf95 := tok_of p95 rfl (tabU_nil) ⟨rfl, rfl, by decide⟩ rfl (rndOk_of rfl) trivial fun x y h => (congrFun e95 x).trans h
/-- slices.medianCmpFunc[heliograph/api.Claim] -/
noncomputable def g94 (a0 : List Claim) (a1 : Int) (a2 : Int) (a3 : Int) (a4 : Int) (a5 : (Claim × Claim) → Option Int) : Option (Int × Int) :=
(g95 a0 a1 a2 a4 a5).bind fun y1 =>
(g95 a0 y1.1.2 a3 y1.2 a5).bind fun y2 =>
(g95 a0 y1.1.1 y2.1.1 y2.2 a5).bind fun y3 =>
some (y3.1.2, y3.2)
noncomputable def tf94 : TF := .par ⟨[.v (.l .ro YClaim), .v (.i .i64), .v (.i .i64), .v (.i .i64), .x (.i .i64), .v (.fn (.t YClaim YClaim) (.i .i64))], (.i .i64)⟩ (fun x => g94 x.1 x.2.1 x.2.2.1 x.2.2.2.1 x.2.2.2.2.1 x.2.2.2.2.2)
theorem e94 : evFn (tabU [(95, tf95)]) ⟨F94.res, F94.keep, tf94.sg⟩ T94 = fun x => g94 x.1 x.2.1 x.2.2.1 x.2.2.2.1 x.2.2.2.2.1 x.2.2.2.2.2 := by kernel_rfl
theorem o94 : TOK (EF pg) 94 tf94 := tok_of p94 rfl (tabU_cons o95 (tabU_nil)) ⟨rfl, rfl, by decide⟩ rfl (rndOk_of rfl) trivial fun x y h => (congrFun e94 x).trans h
/-- slices.medianAdjacentCmpFunc[heliograph/api.Claim] -/
noncomputable def g93 (a0 : List Claim) (a1 : Int) (a2 : Int) (a3 : (Claim × Claim) → Option Int) : Option (Int × Int) :=
(g94 a0 (IntKind.i64.wrap (a1 - (1 : Int))) a1 (IntKind.i64.wrap (a1 + (1 : Int))) a2 a3).bind fun y3 =>
some (y3.1, y3.2)
noncomputable def tf93 : TF := .par ⟨[.v (.l .ro YClaim), .v (.i .i64), .x (.i .i64), .v (.fn (.t YClaim YClaim) (.i .i64))], (.i .i64)⟩ (fun x => g93 x.1 x.2.1 x.2.2.1 x.2.2.2)
theorem e93 : evFn (tabU [(94, tf94)]) ⟨F93.res, F93.keep, tf93.sg⟩ T93 = fun x => g93 x.1 x.2.1 x.2.2.1 x.2.2.2 := by kernel_rfl
theorem o93 : TOK (EF pg) 93 tf93 := tok_of p93 rfl (tabU_cons o94 (tabU_nil)) ⟨rfl, rfl, by decide⟩ rfl (rndOk_of rfl) trivial fun x y h => (congrFun e93 x).trans h
/-- slices.choosePivotCmpFunc[heliograph/api.Claim] -/
noncomputable def g83 (a0 : List Claim) (a1 : Int) (a2 : Int) (a3 : (Claim × Claim) → Option Int) : Option (Int × Int) :=
let x1 := IntKind.i64.wrap (a2 - a1)
let x4 := IntKind.i64.wrap (a1 + (IntKind.i64.wrap ((IntKind.i64.wrap (x1.tdiv (4 : Int))) * (1 : Int))))
let x7 := IntKind.i64.wrap (a1 + (IntKind.i64.wrap ((IntKind.i64.wrap (x1.tdiv (4 : Int))) * (2 : Int))))
let x10 := IntKind.i64.wrap (a1 + (IntKind.i64.wrap ((IntKind.i64.wrap (x1.tdiv (4 : Int))) * (3 : Int))))
(
if (decide (x1 ≥ (8 : Int))) then
(
if (decide (x1 ≥ (50 : Int))) then
((g93 a0 x4 (0 : Int) a3).bind fun y13 =>
(g93 a0 x7 y13.2 a3).bind fun y14 =>
(g93 a0 x10 y14.2 a3).bind fun y15 =>
(g94 a0 y13.1 y14.1 y15.1 y15.2 a3).bind fun y16 =>
some ((y16.1, y16.2)))
else
((g94 a0 x4 x7 x10 (0 : Int) a3).bind fun y17 =>
some ((y17.1, y17.2))))
else
(some ((x7, (0 : Int))))).bind fun z18 =>
if (z18.2 == (0 : Int)) then
(some (z18.1, (1 : Int)))
else
(
if (z18.2 == (12 : Int)) then
(some (z18.1, (2 : Int)))
else
(some (z18.1, (0 : Int))))
noncomputable def tf83 : TF := .par ⟨[.v (.l .ro YClaim), .v (.i .i64), .v (.i .i64), .v (.fn (.t YClaim YClaim) (.i .i64))], (.t (.i .i64) (.i .i64))⟩ (fun x => g83 x.1 x.2.1 x.2.2.1 x.2.2.2)
theorem e83 : evFn (tabU [(93, tf93), (94, tf94)]) ⟨F83.res, F83.keep, tf83.sg⟩ T83 = fun x => g83 x.1 x.2.1 x.2.2.1 x.2.2.2 := by kernel_rfl
theorem o83 : TOK (EF pg) 83 tf83 := tok_of p83 rfl (tabU_cons o93 (tabU_cons o94 (tabU_nil))) ⟨rfl, rfl, by decide⟩ rfl (rndOk_of rfl) trivial fun x y h => (congrFun e83 x).trans h
end Go.Proofs.Ytiglckehhfbliaa.Ev.U
