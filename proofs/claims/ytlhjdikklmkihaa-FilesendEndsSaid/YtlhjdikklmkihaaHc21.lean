/- Calls of typed functions, on the evaluator. Conditions: none. -/
import Derived.Test.YtlhjdikklmkihaaFt21
set_option linter.all false
namespace Go.Proofs.Ytlhjdikklmkihaa.Ev.U
open Go
noncomputable def g8x0 (s : (List Outgoing) × Int × Int) : Option (((List Outgoing) × Int × Int) ⊕ (Unit ⊕ Bool)) :=
if (decide (s.2.2 < s.2.1)) then
((idx s.1 s.2.2).bind fun y10 =>
if (if (decide ((y10.2.2.2.1.length : Int) > (5000 : Int))) then true else (decide ((y10.2.2.1.length : Int) > (1000 : Int)))) then
(some (Sum.inr (Sum.inr (true))))
else
(
some (Sum.inl (s.1, s.2.1, (IntKind.i64.wrap (s.2.2 + (1 : Int)))))))
else
(some (Sum.inr (Sum.inl ())))
noncomputable def g8 (a0 : FileOut) (a1 : List Outgoing) : Option Bool :=
if (if (decide ((a0.2.1.length : Int) > (20 : Int))) then true else (decide ((a0.2.2.length : Int) > (100 : Int)))) then
(some true)
else
((apd 72 [] a0.2.1).bind fun y6 =>
(apd 72 y6 a1).bind fun y7 =>
(lpU g8x0 (y7, (y7.length : Int), (0 : Int))).bind fun z17 =>
match z17 with
| Sum.inl z18 => (some false)
| Sum.inr z19 => (some z19))
noncomputable def tf8 : TF := .par ⟨[.v YFileOut, .v (.l .ro YOutgoing)], .b⟩ (fun x => g8 x.1 x.2)
theorem e8 : evFn (tabU []) ⟨F8.res, F8.keep, tf8.sg⟩ T8 = fun x => g8 x.1 x.2 := by kernel_rfl
theorem o8 : TOK (EF pg) 8 tf8 := tok_of p8 rfl (tabU_nil) ⟨rfl, rfl, by decide⟩ rfl (rndOk_of rfl) trivial fun x y h => (congrFun e8 x).trans h
noncomputable def g13x0 (s : (List Outgoing) × Int × Int × Int × Int × (List Outgoing) × List Ended) : Option (((List Outgoing) × Int × Int × Int × Int × (List Outgoing) × List Ended) ⊕ ((Int × Int × (List Outgoing) × List Ended))) :=
if (decide (s.2.2.1 < s.2.1)) then
((idx s.1 s.2.2.1).bind fun y4 =>
(apd 1 [] y4.2.2.2.1).bind fun y5 =>
(apd 72 s.2.2.2.2.2.1 ([(y4.1, y4.2.1, y4.2.2.1, y5, y4.2.2.2.2.1, y4.2.2.2.2.2)])).bind fun y6 =>
some (Sum.inl (s.1, s.2.1, (IntKind.i64.wrap (s.2.2.1 + (1 : Int))), s.2.2.2.1, s.2.2.2.2.1, y6, s.2.2.2.2.2.2)))
else
(some (Sum.inr (s.2.2.2.1, s.2.2.2.2.1, s.2.2.2.2.2.1, s.2.2.2.2.2.2)))
noncomputable def g13 (a0 : FileOut) : Option (Int × (List Outgoing) × List Ended) :=
(apd 16 [] a0.2.2).bind fun y1 =>
(lpU g13x0 (a0.2.1, (a0.2.1.length : Int), (0 : Int), (0 : Int), a0.1, [], y1)).bind fun z8 =>
some z8.2
noncomputable def tf13 : TF := .par ⟨[.v YFileOut], (.g (.p (.i .u32) (.p (.l .mu YOutgoing) (.l .ro YEnded))))⟩ (fun x => g13 x)
theorem e13 : evFn (tabU []) ⟨F13.res, F13.keep, tf13.sg⟩ T13 = fun x => g13 x := by kernel_rfl
theorem o13 : TOK (EF pg) 13 tf13 := tok_of p13 rfl (tabU_nil) ⟨rfl, rfl, by decide⟩ rfl (rndOk_of rfl) trivial fun x y h => (congrFun e13 x).trans h
noncomputable def h16  : FileOut :=
((1 : Int), [], [])
noncomputable def tf16 : TF := .tot ⟨[], YFileOut⟩ (fun _ => h16)
theorem e16 : evFn (tabU []) ⟨F16.res, F16.keep, tf16.sg⟩ T16 = fun x => some (h16) := by kernel_rfl
theorem o16 : TOK (EF pg) 16 tf16 := tok_of p16 rfl (tabU_nil) ⟨rfl, rfl, by decide⟩ rfl (rndOk_of rfl) trivial fun x y h => (congrFun e16 x).trans h
noncomputable def g24x0 (s : Int × Int × Int × Int × (List Outgoing) × (List Ended) × Int × Int × (List Outgoing) × List Ended) : Option ((Int × Int × Int × Int × (List Outgoing) × (List Ended) × Int × Int × (List Outgoing) × List Ended) ⊕ ((Int × Int × Int × (List Outgoing) × (List Ended) × Int × Int × (List Outgoing) × List Ended))) :=
if (decide (s.2.2.1 < (s.2.2.2.2.1.length : Int))) then
(
if (s.2.2.1 != s.1) then
((idx s.2.2.2.2.1 s.2.2.1).bind fun y4 =>
(apd 72 s.2.2.2.2.2.2.2.2.1 ([y4])).bind fun y5 =>
some (Sum.inl (s.1, s.2.1, (IntKind.i64.wrap (s.2.2.1 + (1 : Int))), s.2.2.2.1, s.2.2.2.2.1, s.2.2.2.2.2.1, s.2.2.2.2.2.2.1, s.2.2.2.2.2.2.2.1, y5, s.2.2.2.2.2.2.2.2.2)))
else
(
some (Sum.inl (s.1, s.2.1, (IntKind.i64.wrap (s.2.2.1 + (1 : Int))), s.2.2.2.1, s.2.2.2.2.1, s.2.2.2.2.2.1, s.2.2.2.2.2.2.1, s.2.2.2.2.2.2.2.1, s.2.2.2.2.2.2.2.2.1, s.2.2.2.2.2.2.2.2.2))))
else
(some (Sum.inr (s.1, s.2.1, s.2.2.2.1, s.2.2.2.2.1, s.2.2.2.2.2.1, s.2.2.2.2.2.2.1, s.2.2.2.2.2.2.2.1, s.2.2.2.2.2.2.2.2.1, s.2.2.2.2.2.2.2.2.2)))
noncomputable def g24x1 (s : Int × Int × Int × Int × (List Outgoing) × (List Ended) × Int × Int × (List Outgoing) × List Ended) : Option ((Int × Int × Int × Int × (List Outgoing) × (List Ended) × Int × Int × (List Outgoing) × List Ended) ⊕ ((Int × Int × Int × (List Outgoing) × (List Ended) × Int × Int × (List Outgoing) × List Ended))) :=
if (decide (s.2.2.1 < (s.2.2.2.2.2.1.length : Int))) then
((idx s.2.2.2.2.2.1 s.2.2.1).bind fun y16 =>
(apd 16 s.2.2.2.2.2.2.2.2.2 ([y16])).bind fun y17 =>
some (Sum.inl (s.1, s.2.1, (IntKind.i64.wrap (s.2.2.1 + (1 : Int))), s.2.2.2.1, s.2.2.2.2.1, s.2.2.2.2.2.1, s.2.2.2.2.2.2.1, s.2.2.2.2.2.2.2.1, s.2.2.2.2.2.2.2.2.1, y17)))
else
(some (Sum.inr (s.1, s.2.1, s.2.2.2.1, s.2.2.2.2.1, s.2.2.2.2.2.1, s.2.2.2.2.2.2.1, s.2.2.2.2.2.2.2.1, s.2.2.2.2.2.2.2.2.1, s.2.2.2.2.2.2.2.2.2)))
noncomputable def g24 (a0 : FileOut) (a1 : Int) (a2 : Int) : Option FileOut :=
(lpU g24x0 (a1, a2, (0 : Int), a0.1, a0.2.1, a0.2.2, (0 : Int), a0.1, [], [])).bind fun z8 =>
let x11 := IntKind.i64.wrap ((IntKind.i64.wrap ((z8.2.2.2.2.1.length : Int) + (1 : Int))) - (16 : Int))
(
if (decide (x11 < (0 : Int))) then
(some ((z8.1, z8.2.1, (0 : Int), z8.2.2.1, z8.2.2.2.1, z8.2.2.2.2.1, z8.2.2.2.2.2.1, z8.2.2.2.2.2.2.1, z8.2.2.2.2.2.2.2.1, z8.2.2.2.2.2.2.2.2)))
else
(some ((z8.1, z8.2.1, x11, z8.2.2.1, z8.2.2.2.1, z8.2.2.2.2.1, z8.2.2.2.2.2.1, z8.2.2.2.2.2.2.1, z8.2.2.2.2.2.2.2.1, z8.2.2.2.2.2.2.2.2)))).bind fun z13 =>
(lpU g24x1 (z13.1, z13.2.1, z13.2.2.1, z13.2.2.2.1, z13.2.2.2.2.1, z13.2.2.2.2.2.1, z13.2.2.2.2.2.2.1, z13.2.2.2.2.2.2.2.1, z13.2.2.2.2.2.2.2.2.1, z13.2.2.2.2.2.2.2.2.2)).bind fun z19 =>
(idx z19.2.2.2.1 z19.1).bind fun y20 =>
(apd 16 z19.2.2.2.2.2.2.2.2 ([(y20.1, z19.2.1)])).bind fun y21 =>
some (z19.2.2.2.2.2.2.1, z19.2.2.2.2.2.2.2.1, y21)
noncomputable def tf24 : TF := .par ⟨[.v YFileOut, .v (.i .i64), .v (.i .i64)], YFileOut⟩ (fun x => g24 x.1 x.2.1 x.2.2)
theorem e24 : evFn (tabU []) ⟨F24.res, F24.keep, tf24.sg⟩ T24 = fun x => g24 x.1 x.2.1 x.2.2 := by kernel_rfl
theorem o24 : TOK (EF pg) 24 tf24 := tok_of p24 rfl (tabU_nil) ⟨rfl, rfl, by decide⟩ rfl (rndOk_of rfl) trivial fun x y h => (congrFun e24 x).trans h
noncomputable def g32x0 (s : (List Int) × (List Int) × Int) : Option (((List Int) × (List Int) × Int) ⊕ (Unit ⊕ Bool)) :=
if (decide (s.2.2 < (s.1.length : Int))) then
((idx s.1 s.2.2).bind fun y6 =>
(idx s.2.1 s.2.2).bind fun y7 =>
if (y6 != y7) then
(some (Sum.inr (Sum.inr (false))))
else
(
some (Sum.inl (s.1, s.2.1, (IntKind.i64.wrap (s.2.2 + (1 : Int)))))))
else
(some (Sum.inr (Sum.inl ())))
noncomputable def g32 (a0 : List Int) (a1 : List Int) : Option Bool :=
if ((a0.length : Int) != (a1.length : Int)) then
(some false)
else
((lpU g32x0 (a0, a1, (0 : Int))).bind fun z10 =>
match z10 with
| Sum.inl z11 => (some true)
| Sum.inr z12 => (some z12))
noncomputable def tf32 : TF := .par ⟨[.v (.l .ro (.i .u8)), .v (.l .ro (.i .u8))], .b⟩ (fun x => g32 x.1 x.2)
theorem e32 : evFn (tabU []) ⟨F32.res, F32.keep, tf32.sg⟩ T32 = fun x => g32 x.1 x.2 := by kernel_rfl
theorem o32 : TOK (EF pg) 32 tf32 := tok_of p32 rfl (tabU_nil) ⟨rfl, rfl, by decide⟩ rfl (rndOk_of rfl) trivial fun x y h => (congrFun e32 x).trans h
noncomputable def g15x0 (s : Int × Int × (List Outgoing) × (List Ended) × Int × (List Outgoing) × List Ended) : Option ((Int × Int × (List Outgoing) × (List Ended) × Int × (List Outgoing) × List Ended) ⊕ ((Int × (List Outgoing) × (List Ended) × Int × (List Outgoing) × List Ended) ⊕ Bool)) :=
if (decide (s.1 < (s.2.2.1.length : Int))) then
((idx s.2.2.1 s.1).bind fun y12 =>
(idx s.2.2.2.2.2.1 s.1).bind fun y13 =>
let x18 := if (if (y12.1 != y13.1) then true else (y12.2.1 != y13.2.1)) then true else (!decide (y12.2.2.1 = y13.2.2.1))
(if (!x18) then g32 y12.2.2.2.1 y13.2.2.2.1 else some false).bind fun y19 =>
if (if (if (if x18 then true else (!y19)) then true else (y12.2.2.2.2.1 != y13.2.2.2.2.1)) then true else (y12.2.2.2.2.2 != y13.2.2.2.2.2)) then
(some (Sum.inr (Sum.inr (false))))
else
(
some (Sum.inl ((IntKind.i64.wrap (s.1 + (1 : Int))), s.2.1, s.2.2.1, s.2.2.2.1, s.2.2.2.2.1, s.2.2.2.2.2.1, s.2.2.2.2.2.2))))
else
(some (Sum.inr (Sum.inl (s.2.1, s.2.2.1, s.2.2.2.1, s.2.2.2.2.1, s.2.2.2.2.2.1, s.2.2.2.2.2.2))))
noncomputable def g15x1 (s : Int × Int × (List Outgoing) × (List Ended) × Int × (List Outgoing) × List Ended) : Option ((Int × Int × (List Outgoing) × (List Ended) × Int × (List Outgoing) × List Ended) ⊕ (Unit ⊕ Bool)) :=
if (decide (s.1 < (s.2.2.2.1.length : Int))) then
((idx s.2.2.2.1 s.1).bind fun y32 =>
(idx s.2.2.2.2.2.2 s.1).bind fun y33 =>
if (!((y32.1 == y33.1) && ((y32.2 == y33.2) && (true)))) then
(some (Sum.inr (Sum.inr (false))))
else
(
some (Sum.inl ((IntKind.i64.wrap (s.1 + (1 : Int))), s.2.1, s.2.2.1, s.2.2.2.1, s.2.2.2.2.1, s.2.2.2.2.2.1, s.2.2.2.2.2.2))))
else
(some (Sum.inr (Sum.inl ())))
noncomputable def g15 (a0 : FileOut) (a1 : FileOut) : Option Bool :=
if (if (if (a0.1 != a1.1) then true else ((a0.2.1.length : Int) != (a1.2.1.length : Int))) then true else ((a0.2.2.length : Int) != (a1.2.2.length : Int))) then
(some false)
else
((lpU g15x0 ((0 : Int), a0.1, a0.2.1, a0.2.2, a1.1, a1.2.1, a1.2.2)).bind fun z27 =>
match z27 with
| Sum.inl z28 => ((lpU g15x1 ((0 : Int), z28.1, z28.2.1, z28.2.2.1, z28.2.2.2.1, z28.2.2.2.2.1, z28.2.2.2.2.2)).bind fun z36 =>
match z36 with
| Sum.inl z37 => (some true)
| Sum.inr z38 => (some z38))
| Sum.inr z29 => (some z29))
noncomputable def tf15 : TF := .par ⟨[.v YFileOut, .v YFileOut], .b⟩ (fun x => g15 x.1 x.2)
theorem e15 : evFn (tabU [(32, tf32)]) ⟨F15.res, F15.keep, tf15.sg⟩ T15 = fun x => g15 x.1 x.2 := by kernel_rfl
theorem o15 : TOK (EF pg) 15 tf15 := tok_of p15 rfl (tabU_cons o32 (tabU_nil)) ⟨rfl, rfl, by decide⟩ rfl (rndOk_of rfl) trivial fun x y h => (congrFun e15 x).trans h
noncomputable def g19 (a0 : FileOut) (a1 : Int) (a2 : Int) : Option Bool :=
(g15 a0 ((0 : Int), [], [])).bind fun y1 =>
some (if y1 then (a1 == a2) else false)
noncomputable def tf19 : TF := .par ⟨[.v YFileOut, .v (.i .i64), .v (.i .i64)], .b⟩ (fun x => g19 x.1 x.2.1 x.2.2)
theorem e19 : evFn (tabU [(15, tf15)]) ⟨F19.res, F19.keep, tf19.sg⟩ T19 = fun x => g19 x.1 x.2.1 x.2.2 := by kernel_rfl
theorem o19 : TOK (EF pg) 19 tf19 := tok_of p19 rfl (tabU_cons o15 (tabU_nil)) ⟨rfl, rfl, by decide⟩ rfl (rndOk_of rfl) trivial fun x y h => (congrFun e19 x).trans h
noncomputable def h36 (a0 : Outgoing) : Int :=
(IntKind.i64.wrap ((2 : Int) + (IntKind.i64.wrap ((IntKind.i64.wrap ((IntKind.i64.wrap ((a0.2.2.2.1.length : Int) + (256 : Int))) - (1 : Int))).tdiv (256 : Int)))))
noncomputable def tf36 : TF := .tot ⟨[.v YOutgoing], (.i .i64)⟩ (fun x => h36 x)
theorem e36 : evFn (tabU []) ⟨F36.res, F36.keep, tf36.sg⟩ T36 = fun x => some (h36 x) := by kernel_rfl
theorem o36 : TOK (EF pg) 36 tf36 := tok_of p36 rfl (tabU_nil) ⟨rfl, rfl, by decide⟩ rfl (rndOk_of rfl) trivial fun x y h => (congrFun e36 x).trans h
noncomputable def h35 (a0 : Outgoing) : Bool :=
(decide (a0.2.2.2.2.1 < (h36 a0)))
noncomputable def tf35 : TF := .tot ⟨[.v YOutgoing], .b⟩ (fun x => h35 x)
theorem e35 : evFn (tabU [(36, tf36)]) ⟨F35.res, F35.keep, tf35.sg⟩ T35 = fun x => some (h35 x) := by kernel_rfl
theorem o35 : TOK (EF pg) 35 tf35 := tok_of p35 rfl (tabU_cons o36 (tabU_nil)) ⟨rfl, rfl, by decide⟩ rfl (rndOk_of rfl) trivial fun x y h => (congrFun e35 x).trans h
noncomputable def g41 (a0 : List Int) : Option (List Int) :=
amb (List.isEmpty a0) false fun y1 =>
if y1 then
(some [])
else
((apd 1 [] a0).bind fun y2 =>
some y2)
noncomputable def tf41 : TF := .par ⟨[.v (.l .ro (.i .u8))], (.l .ro (.i .u8))⟩ (fun x => g41 x)
theorem e41 : evFn (tabU []) ⟨F41.res, F41.keep, tf41.sg⟩ T41 = fun x => g41 x := by kernel_rfl
theorem o41 : TOK (EF pg) 41 tf41 := tok_of p41 rfl (tabU_nil) ⟨rfl, rfl, by decide⟩ rfl (rndOk_of rfl) trivial fun x y h => (congrFun e41 x).trans h
noncomputable def h42 (a0 : Int) (a1 : Int) (a2 : Int) : Bool :=
(if (decide (a0 >= a1)) then (decide (a0 <= a2)) else false)
noncomputable def tf42 : TF := .tot ⟨[.v (.i .i64), .v (.i .i64), .v (.i .i64)], .b⟩ (fun x => h42 x.1 x.2.1 x.2.2)
theorem e42 : evFn (tabU []) ⟨F42.res, F42.keep, tf42.sg⟩ T42 = fun x => some (h42 x.1 x.2.1 x.2.2) := by kernel_rfl
theorem o42 : TOK (EF pg) 42 tf42 := tok_of p42 rfl (tabU_nil) ⟨rfl, rfl, by decide⟩ rfl (rndOk_of rfl) trivial fun x y h => (congrFun e42 x).trans h
noncomputable def h28 (a0 : List Int) : Bool :=
(h42 (a0.length : Int) (1 : Int) (24 : Int))
noncomputable def tf28 : TF := .tot ⟨[.v .s], .b⟩ (fun x => h28 x)
theorem e28 : evFn (tabU [(42, tf42)]) ⟨F28.res, F28.keep, tf28.sg⟩ T28 = fun x => some (h28 x) := by kernel_rfl
theorem o28 : TOK (EF pg) 28 tf28 := tok_of p28 rfl (tabU_cons o42 (tabU_nil)) ⟨rfl, rfl, by decide⟩ rfl (rndOk_of rfl) trivial fun x y h => (congrFun e28 x).trans h
noncomputable def h40 (a0 : Outgoing) : Bool :=
(if (if (if (h42 a0.2.1 (1 : Int) (6 : Int)) then (h28 a0.2.2.1) else false) then (decide ((a0.2.2.2.1.length : Int) <= (2048 : Int))) else false) then (h42 a0.2.2.2.2.2 (0 : Int) (2097152 : Int)) else false)
noncomputable def tf40 : TF := .tot ⟨[.v YOutgoing], .b⟩ (fun x => h40 x)
theorem e40 : evFn (tabU [(28, tf28), (42, tf42)]) ⟨F40.res, F40.keep, tf40.sg⟩ T40 = fun x => some (h40 x) := by kernel_rfl
theorem o40 : TOK (EF pg) 40 tf40 := tok_of p40 rfl (tabU_cons o28 (tabU_cons o42 (tabU_nil))) ⟨rfl, rfl, by decide⟩ rfl (rndOk_of rfl) trivial fun x y h => (congrFun e40 x).trans h
noncomputable def g20x0 (s : Bool × (List Outgoing) × Int × Int × Int × (List Outgoing) × List Ended) : Option ((Bool × (List Outgoing) × Int × Int × Int × (List Outgoing) × List Ended) ⊕ ((Bool × Int × (List Outgoing) × List Ended))) :=
if (decide (s.2.2.2.1 < s.2.2.1)) then
((idx s.2.1 s.2.2.2.1).bind fun y10 =>
let x19 := if (if (if (if s.1 then (h40 y10) else false) then (decide (y10.1 > (0 : Int))) else false) then (decide (y10.1 < s.2.2.2.2.1)) else false) then (h42 y10.2.2.2.2.1 (0 : Int) (h36 y10)) else false
let x20 := s.2.2.2.1 == (0 : Int)
(if (x19 && !x20) then idx s.2.2.2.2.2.1 (IntKind.i64.wrap (s.2.2.2.1 - (1 : Int))) else some ((0 : Int), ((0 : Int), ([], ([], ((0 : Int), (0 : Int))))))).bind fun y22 =>
some (Sum.inl ((if x19 then (if x20 then true else (decide (y22.1 < y10.1))) else false), s.2.1, s.2.2.1, (IntKind.i64.wrap (s.2.2.2.1 + (1 : Int))), s.2.2.2.2.1, s.2.2.2.2.2.1, s.2.2.2.2.2.2)))
else
(some (Sum.inr (s.1, s.2.2.2.2.1, s.2.2.2.2.2.1, s.2.2.2.2.2.2)))
noncomputable def g20x1 (s : Bool × (List Ended) × Int × Int × Int × (List Outgoing) × List Ended) : Option ((Bool × (List Ended) × Int × Int × Int × (List Outgoing) × List Ended) ⊕ (Bool)) :=
if (decide (s.2.2.2.1 < s.2.2.1)) then
((idx s.2.1 s.2.2.2.1).bind fun y30 =>
some (Sum.inl ((if (if (if s.1 then (decide (y30.1 > (0 : Int))) else false) then (decide (y30.1 < s.2.2.2.2.1)) else false) then (h42 y30.2 (0 : Int) (255 : Int)) else false), s.2.1, s.2.2.1, (IntKind.i64.wrap (s.2.2.2.1 + (1 : Int))), s.2.2.2.2.1, s.2.2.2.2.2.1, s.2.2.2.2.2.2)))
else
(some (Sum.inr s.1))
noncomputable def g20 (a0 : FileOut) : Option Int :=
(lpU g20x0 ((if (if (decide (a0.1 > (0 : Int))) then (decide ((a0.2.1.length : Int) <= (4 : Int))) else false) then (decide ((a0.2.2.length : Int) <= (16 : Int))) else false), a0.2.1, (a0.2.1.length : Int), (0 : Int), a0.1, a0.2.1, a0.2.2)).bind fun z27 =>
(lpU g20x1 (z27.1, z27.2.2.2, (z27.2.2.2.length : Int), (0 : Int), z27.2.1, z27.2.2.1, z27.2.2.2)).bind fun z38 =>
if (!z38) then
(some (310 : Int))
else
(some (0 : Int))
noncomputable def tf20 : TF := .par ⟨[.v YFileOut], (.i .i64)⟩ (fun x => g20 x)
theorem e20 : evFn (tabU [(36, tf36), (40, tf40), (42, tf42)]) ⟨F20.res, F20.keep, tf20.sg⟩ T20 = fun x => g20 x := by kernel_rfl
theorem o20 : TOK (EF pg) 20 tf20 := tok_of p20 rfl (tabU_cons o36 (tabU_cons o40 (tabU_cons o42 (tabU_nil)))) ⟨rfl, rfl, by decide⟩ rfl (rndOk_of rfl) trivial fun x y h => (congrFun e20 x).trans h
noncomputable def h43 (a0 : List Int) : Bool :=
(if (decide ((a0.length : Int) >= (1 : Int))) then (decide ((a0.length : Int) <= (24 : Int))) else false)
noncomputable def tf43 : TF := .tot ⟨[.v .s], .b⟩ (fun x => h43 x)
theorem e43 : evFn (tabU []) ⟨F43.res, F43.keep, tf43.sg⟩ T43 = fun x => some (h43 x) := by kernel_rfl
theorem o43 : TOK (EF pg) 43 tf43 := tok_of p43 rfl (tabU_nil) ⟨rfl, rfl, by decide⟩ rfl (rndOk_of rfl) trivial fun x y h => (congrFun e43 x).trans h
noncomputable def h21 (a0 : Outgoing) : Bool :=
(if (if (if (if (if (decide (a0.2.1 >= (1 : Int))) then (decide (a0.2.1 <= (6 : Int))) else false) then (h43 a0.2.2.1) else false) then (decide ((a0.2.2.2.1.length : Int) <= (2048 : Int))) else false) then (decide (a0.2.2.2.2.2 >= (0 : Int))) else false) then (decide (a0.2.2.2.2.2 <= (2097152 : Int))) else false)
noncomputable def tf21 : TF := .tot ⟨[.v YOutgoing], .b⟩ (fun x => h21 x)
theorem e21 : evFn (tabU [(43, tf43)]) ⟨F21.res, F21.keep, tf21.sg⟩ T21 = fun x => some (h21 x) := by kernel_rfl
theorem o21 : TOK (EF pg) 21 tf21 := tok_of p21 rfl (tabU_cons o43 (tabU_nil)) ⟨rfl, rfl, by decide⟩ rfl (rndOk_of rfl) trivial fun x y h => (congrFun e21 x).trans h
noncomputable def h44 (a0 : Outgoing) (a1 : Int) (a2 : Int) : Bool :=
(if (a0.1 == a1) then (a0.2.1 == a2) else false)
noncomputable def tf44 : TF := .tot ⟨[.v YOutgoing, .o (.i .u32), .o (.i .i64)], .b⟩ (fun x => h44 x.1 x.2.1 x.2.2)
theorem e44 : evFn (tabU []) ⟨F44.res, F44.keep, tf44.sg⟩ T44 = fun x => some (h44 x.1 x.2.1 x.2.2) := by kernel_rfl
theorem o44 : TOK (EF pg) 44 tf44 := tok_of p44 rfl (tabU_nil) ⟨rfl, rfl, by decide⟩ rfl (rndOk_of rfl) trivial fun x y h => (congrFun e44 x).trans h
noncomputable def h46 (a0 : Outgoing) (a1 : Int) : Bool :=
(decide (a0.2.2.2.2.2 <= a1))
noncomputable def tf46 : TF := .tot ⟨[.v YOutgoing, .o (.i .i64)], .b⟩ (fun x => h46 x.1 x.2)
theorem e46 : evFn (tabU []) ⟨F46.res, F46.keep, tf46.sg⟩ T46 = fun x => some (h46 x.1 x.2) := by kernel_rfl
theorem o46 : TOK (EF pg) 46 tf46 := tok_of p46 rfl (tabU_nil) ⟨rfl, rfl, by decide⟩ rfl (rndOk_of rfl) trivial fun x y h => (congrFun e46 x).trans h
noncomputable def g50x0 (s : Int × Int × (List Int) × Int × Int × Int) : Option ((Int × Int × (List Int) × Int × Int × Int) ⊕ ((Int × Int × (List Int) × Int × Int))) :=
if (decide (s.2.2.2.2.2 < (8 : Int))) then
(
let x10 := shrI .u32 s.2.1 (1 : Int)
if ((andI .u32 s.2.1 (1 : Int)) == (1 : Int)) then
(
some (Sum.inl (s.1, (xorI .u32 x10 s.1), s.2.2.1, s.2.2.2.1, s.2.2.2.2.1, (IntKind.i64.wrap (s.2.2.2.2.2 + (1 : Int))))))
else
(
some (Sum.inl (s.1, x10, s.2.2.1, s.2.2.2.1, s.2.2.2.2.1, (IntKind.i64.wrap (s.2.2.2.2.2 + (1 : Int)))))))
else
(some (Sum.inr (s.1, s.2.1, s.2.2.1, s.2.2.2.1, s.2.2.2.2.1)))
noncomputable def g50x1 (s : Int × Int × (List Int) × Int × Int) : Option ((Int × Int × (List Int) × Int × Int) ⊕ (Int)) :=
if (decide (s.2.2.2.2 < s.2.2.2.1)) then
((idx s.2.2.1 s.2.2.2.2).bind fun y5 =>
(lpU g50x0 (s.1, (xorI .u32 s.2.1 (IntKind.u32.wrap y5)), s.2.2.1, s.2.2.2.1, s.2.2.2.2, (0 : Int))).bind fun z15 =>
some (Sum.inl (z15.1, z15.2.1, z15.2.2.1, z15.2.2.2.1, (IntKind.i64.wrap (z15.2.2.2.2 + (1 : Int))))))
else
(some (Sum.inr s.2.1))
noncomputable def g50 (a0 : List Int) (a1 : Int) : Option Int :=
(lpU g50x1 (a1, (xorI .u32 IntKind.u32.max (IntKind.u32.wrap (0 : Int))), a0, (a0.length : Int), (0 : Int))).bind fun z17 =>
some (xorI .u32 IntKind.u32.max z17)
noncomputable def tf50 : TF := .par ⟨[.v (.l .ro (.i .u8)), .v (.i .u32)], (.i .u32)⟩ (fun x => g50 x.1 x.2)
theorem e50 : evFn (tabU []) ⟨F50.res, F50.keep, tf50.sg⟩ T50 = fun x => g50 x.1 x.2 := by kernel_rfl
theorem o50 : TOK (EF pg) 50 tf50 := tok_of p50 rfl (tabU_nil) ⟨rfl, rfl, by decide⟩ rfl (rndOk_of rfl) trivial fun x y h => (congrFun e50 x).trans h
noncomputable def g26 (a0 : List Int) : Option Int :=
(g50 a0 (2197175160 : Int)).bind fun y1 =>
some y1
noncomputable def tf26 : TF := .par ⟨[.v (.l .ro (.i .u8))], (.i .u32)⟩ (fun x => g26 x)
theorem e26 : evFn (tabU [(50, tf50)]) ⟨F26.res, F26.keep, tf26.sg⟩ T26 = fun x => g26 x := by kernel_rfl
theorem o26 : TOK (EF pg) 26 tf26 := tok_of p26 rfl (tabU_cons o50 (tabU_nil)) ⟨rfl, rfl, by decide⟩ rfl (rndOk_of rfl) trivial fun x y h => (congrFun e26 x).trans h
noncomputable def g53x0 (s : (Message -> Option Bool) × Int × Int × Int × (List Int) × (List Int) × Int × Int) : Option (((Message -> Option Bool) × Int × Int × Int × (List Int) × (List Int) × Int × Int) ⊕ (((Message -> Option Bool) × Int × Int × (List Int) × (List Int) × Int × Int) ⊕ Unit)) :=
if (decide (s.2.1 < (s.2.2.2.2.2.1.length : Int))) then
(let x6 := IntKind.i64.wrap (s.2.1 + (256 : Int))
let x7 := (s.2.2.2.2.2.1.length : Int)
(cut s.2.2.2.2.2.1 s.2.1 (if x7 < x6 then x7 else x6)).bind fun y9 =>
(g41 y9).bind fun y10 =>
(s.1 ((2 : Int), s.2.2.1, [], (0 : Int), s.2.1, (0 : Int), (0 : Int), y10)).bind fun y11 =>
if (!y11) then
(some (Sum.inr (Sum.inr (()))))
else
(
some (Sum.inl (s.1, (IntKind.i64.wrap (s.2.1 + (256 : Int))), s.2.2.1, s.2.2.2.1, s.2.2.2.2.1, s.2.2.2.2.2.1, s.2.2.2.2.2.2.1, s.2.2.2.2.2.2.2))))
else
(some (Sum.inr (Sum.inl (s.1, s.2.2.1, s.2.2.2.1, s.2.2.2.2.1, s.2.2.2.2.2.1, s.2.2.2.2.2.2.1, s.2.2.2.2.2.2.2))))
noncomputable def g53 (a0 : Message -> Option Bool) (a1 : Outgoing) : Option Unit :=
(a0 ((1 : Int), a1.1, a1.2.2.1, (a1.2.2.2.1.length : Int), (0 : Int), (0 : Int), (0 : Int), [])).bind fun y2 =>
if (!y2) then
(some ())
else
((lpU g53x0 (a0, (0 : Int), a1.1, a1.2.1, a1.2.2.1, a1.2.2.2.1, a1.2.2.2.2.1, a1.2.2.2.2.2)).bind fun z14 =>
match z14 with
| Sum.inl z15 => (let x17 := (z15.2.2.2.2.1.length : Int)
(g26 z15.2.2.2.2.1).bind fun y18 =>
(z15.1 ((3 : Int), z15.2.1, [], x17, (0 : Int), y18, (0 : Int), [])).bind fun y19 =>
some ())
| Sum.inr z16 => (some z16))
noncomputable def tf53 : TF := .par ⟨[.v (.fn YMessage .b), .o (.p (.i .u32) (.p (.i .i64) (.p .s (.p (.l .ro (.i .u8)) (.p (.i .i64) (.i .i64))))))], .n⟩ (fun x => g53 x.1 x.2)
theorem e53 : evFn (tabU [(26, tf26), (41, tf41)]) ⟨F53.res, F53.keep, tf53.sg⟩ T53 = fun x => g53 x.1 x.2 := by kernel_rfl
theorem o53 : TOK (EF pg) 53 tf53 := tok_of p53 rfl (tabU_cons o26 (tabU_cons o41 (tabU_nil))) ⟨rfl, rfl, by decide⟩ rfl (rndOk_of rfl) trivial fun x y h => (congrFun e53 x).trans h
noncomputable def g54x0 (s : (List Int) × Int × Int × Int × Int × Int) : Option (((List Int) × Int × Int × Int × Int × Int) ⊕ (((List Int) × Int × Int × Int × Int))) :=
if (decide (s.2.2.2.2.2 < (8 : Int))) then
(
if ((s.2.2.2.1.tmod (2 : Int)) == (1 : Int)) then
(
some (Sum.inl (s.1, s.2.1, s.2.2.1, (xorI .u64 (IntKind.u64.wrap ((IntKind.u64.wrap (s.2.2.2.1 - (1 : Int))).tdiv (2 : Int))) s.2.2.1), s.2.2.2.2.1, (IntKind.i64.wrap (s.2.2.2.2.2 + (1 : Int))))))
else
(
some (Sum.inl (s.1, s.2.1, s.2.2.1, (IntKind.u64.wrap (s.2.2.2.1.tdiv (2 : Int))), s.2.2.2.2.1, (IntKind.i64.wrap (s.2.2.2.2.2 + (1 : Int)))))))
else
(some (Sum.inr (s.1, s.2.1, s.2.2.1, s.2.2.2.1, s.2.2.2.2.1)))
noncomputable def g54x1 (s : (List Int) × Int × Int × Int × Int) : Option (((List Int) × Int × Int × Int × Int) ⊕ ((Int × Int))) :=
if (decide (s.2.2.2.2 < (s.1.length : Int))) then
((idx s.1 s.2.2.2.2).bind fun y5 =>
(lpU g54x0 (s.1, s.2.1, s.2.2.1, (xorI .u64 s.2.2.2.1 (IntKind.u64.wrap y5)), s.2.2.2.2, (0 : Int))).bind fun z17 =>
some (Sum.inl (z17.1, z17.2.1, z17.2.2.1, z17.2.2.2.1, (IntKind.i64.wrap (z17.2.2.2.2 + (1 : Int))))))
else
(some (Sum.inr (s.2.1, s.2.2.2.1)))
noncomputable def g54 (a0 : List Int) (a1 : Int) : Option Int :=
(
if (a1 == (32 : Int)) then
(some ((a0, (4294967295 : Int), (2197175160 : Int))))
else
(some ((a0, (65535 : Int), (33800 : Int))))).bind fun z2 =>
(lpU g54x1 (z2.1, z2.2.1, z2.2.2, z2.2.1, (0 : Int))).bind fun z19 =>
some (xorI .u64 z19.2 z19.1)
noncomputable def tf54 : TF := .par ⟨[.v (.l .ro (.i .u8)), .v (.i .i64)], (.i .u64)⟩ (fun x => g54 x.1 x.2)
theorem e54 : evFn (tabU []) ⟨F54.res, F54.keep, tf54.sg⟩ T54 = fun x => g54 x.1 x.2 := by kernel_rfl
theorem o54 : TOK (EF pg) 54 tf54 := tok_of p54 rfl (tabU_nil) ⟨rfl, rfl, by decide⟩ rfl (rndOk_of rfl) trivial fun x y h => (congrFun e54 x).trans h
noncomputable def g31 (a0 : List Int) : Option Int :=
(g54 a0 (32 : Int)).bind fun y1 =>
some (IntKind.u32.wrap y1)
noncomputable def tf31 : TF := .par ⟨[.v (.l .ro (.i .u8))], (.i .u32)⟩ (fun x => g31 x)
theorem e31 : evFn (tabU [(54, tf54)]) ⟨F31.res, F31.keep, tf31.sg⟩ T31 = fun x => g31 x := by kernel_rfl
theorem o31 : TOK (EF pg) 31 tf31 := tok_of p31 rfl (tabU_cons o54 (tabU_nil)) ⟨rfl, rfl, by decide⟩ rfl (rndOk_of rfl) trivial fun x y h => (congrFun e31 x).trans h
noncomputable def g10x0 (s : (List Message) × Int × Int × Int × (List Int) × (List Int) × Int × Int) : Option (((List Message) × Int × Int × Int × (List Int) × (List Int) × Int × Int) ⊕ (((List Message) × Int × Int × (List Int) × (List Int) × Int × Int))) :=
if (decide (s.2.1 < (s.2.2.2.2.2.1.length : Int))) then
(let x4 := IntKind.i64.wrap (s.2.1 + (256 : Int))
(
if (decide (x4 > (s.2.2.2.2.2.1.length : Int))) then
(
some ((s.1, s.2.1, (s.2.2.2.2.2.1.length : Int), s.2.2.1, s.2.2.2.1, s.2.2.2.2.1, s.2.2.2.2.2.1, s.2.2.2.2.2.2.1, s.2.2.2.2.2.2.2)))
else
(some ((s.1, s.2.1, x4, s.2.2.1, s.2.2.2.1, s.2.2.2.2.1, s.2.2.2.2.2.1, s.2.2.2.2.2.2.1, s.2.2.2.2.2.2.2)))).bind fun z8 =>
(cut z8.2.2.2.2.2.2.1 z8.2.1 z8.2.2.1).bind fun y9 =>
(apd 88 z8.1 ([((2 : Int), z8.2.2.2.1, [], (0 : Int), z8.2.1, (0 : Int), (0 : Int), y9)])).bind fun y10 =>
some (Sum.inl (y10, (IntKind.i64.wrap (z8.2.1 + (256 : Int))), z8.2.2.2.1, z8.2.2.2.2.1, z8.2.2.2.2.2.1, z8.2.2.2.2.2.2.1, z8.2.2.2.2.2.2.2.1, z8.2.2.2.2.2.2.2.2)))
else
(some (Sum.inr (s.1, s.2.2.1, s.2.2.2.1, s.2.2.2.2.1, s.2.2.2.2.2.1, s.2.2.2.2.2.2.1, s.2.2.2.2.2.2.2)))
noncomputable def g10 (a0 : Outgoing) : Option (List Message) :=
(lpU g10x0 ([((1 : Int), a0.1, a0.2.2.1, (a0.2.2.2.1.length : Int), (0 : Int), (0 : Int), (0 : Int), [])], (0 : Int), a0.1, a0.2.1, a0.2.2.1, a0.2.2.2.1, a0.2.2.2.2.1, a0.2.2.2.2.2)).bind fun z12 =>
(g31 z12.2.2.2.2.1).bind fun y14 =>
(apd 88 z12.1 ([((3 : Int), z12.2.1, [], (z12.2.2.2.2.1.length : Int), (0 : Int), y14, (0 : Int), [])])).bind fun y15 =>
some y15
noncomputable def tf10 : TF := .par ⟨[.v YOutgoing], (.l .ro YMessage)⟩ (fun x => g10 x)
theorem e10 : evFn (tabU [(31, tf31)]) ⟨F10.res, F10.keep, tf10.sg⟩ T10 = fun x => g10 x := by kernel_rfl
theorem o10 : TOK (EF pg) 10 tf10 := tok_of p10 rfl (tabU_cons o31 (tabU_nil)) ⟨rfl, rfl, by decide⟩ rfl (rndOk_of rfl) trivial fun x y h => (congrFun e10 x).trans h
noncomputable def g14x0 (s : Int × Int × (List Outgoing) × List Ended) : Option ((Int × Int × (List Outgoing) × List Ended) ⊕ ((Int × (List Outgoing) × List Ended) ⊕ Bool)) :=
if (decide (s.1 < (s.2.2.1.length : Int))) then
((idx s.2.2.1 s.1).bind fun y10 =>
let x18 := if (if (if (!(h21 y10)) then true else (y10.1 == (0 : Int))) then true else (decide (y10.1 >= s.2.1))) then true else (decide (y10.2.2.2.2.1 < (0 : Int)))
(if (!x18) then g10 y10 else some []).bind fun y19 =>
let x22 := if x18 then true else (decide (y10.2.2.2.2.1 > (y19.length : Int)))
let x23 := decide (s.1 > (0 : Int))
(if ((!x22) && x23) then idx s.2.2.1 (IntKind.i64.wrap (s.1 - (1 : Int))) else some ((0 : Int), ((0 : Int), ([], ([], ((0 : Int), (0 : Int))))))).bind fun y25 =>
if (if x22 then true else (if x23 then (decide (y10.1 <= y25.1)) else false)) then
(some (Sum.inr (Sum.inr (false))))
else
(
some (Sum.inl ((IntKind.i64.wrap (s.1 + (1 : Int))), s.2.1, s.2.2.1, s.2.2.2))))
else
(some (Sum.inr (Sum.inl (s.2.1, s.2.2.1, s.2.2.2))))
noncomputable def g14x1 (s : Int × Int × (List Outgoing) × List Ended) : Option ((Int × Int × (List Outgoing) × List Ended) ⊕ (Unit ⊕ Bool)) :=
if (decide (s.1 < (s.2.2.2.length : Int))) then
((idx s.2.2.2 s.1).bind fun y35 =>
if (if (if (if (y35.1 == (0 : Int)) then true else (decide (y35.1 >= s.2.1))) then true else (decide (y35.2 < (0 : Int)))) then true else (decide (y35.2 > (255 : Int)))) then
(some (Sum.inr (Sum.inr (false))))
else
(
some (Sum.inl ((IntKind.i64.wrap (s.1 + (1 : Int))), s.2.1, s.2.2.1, s.2.2.2))))
else
(some (Sum.inr (Sum.inl ())))
noncomputable def g14 (a0 : FileOut) : Option Bool :=
if (if (if (a0.1 == (0 : Int)) then true else (decide ((a0.2.1.length : Int) > (4 : Int)))) then true else (decide ((a0.2.2.length : Int) > (16 : Int)))) then
(some false)
else
((lpU g14x0 ((0 : Int), a0.1, a0.2.1, a0.2.2)).bind fun z30 =>
match z30 with
| Sum.inl z31 => ((lpU g14x1 ((0 : Int), z31.1, z31.2.1, z31.2.2)).bind fun z44 =>
match z44 with
| Sum.inl z45 => (some true)
| Sum.inr z46 => (some z46))
| Sum.inr z32 => (some z32))
noncomputable def tf14 : TF := .par ⟨[.v YFileOut], .b⟩ (fun x => g14 x)
theorem e14 : evFn (tabU [(10, tf10), (21, tf21)]) ⟨F14.res, F14.keep, tf14.sg⟩ T14 = fun x => g14 x := by kernel_rfl
theorem o14 : TOK (EF pg) 14 tf14 := tok_of p14 rfl (tabU_cons o10 (tabU_cons o21 (tabU_nil))) ⟨rfl, rfl, by decide⟩ rfl (rndOk_of rfl) trivial fun x y h => (congrFun e14 x).trans h
noncomputable def g55 (a0 : List Ended) : Option (List Ended) :=
amb (List.isEmpty a0) false fun y1 =>
if y1 then
(some [])
else
((apd 16 [] a0).bind fun y2 =>
some y2)
noncomputable def tf55 : TF := .par ⟨[.v (.l .ro YEnded)], (.l .mu YEnded)⟩ (fun x => g55 x)
theorem e55 : evFn (tabU []) ⟨F55.res, F55.keep, tf55.sg⟩ T55 = fun x => g55 x := by kernel_rfl
theorem o55 : TOK (EF pg) 55 tf55 := tok_of p55 rfl (tabU_nil) ⟨rfl, rfl, by decide⟩ rfl (rndOk_of rfl) trivial fun x y h => (congrFun e55 x).trans h
noncomputable def g33x0 (s : (List Outgoing) × Int × Int × Int × (List Outgoing) × (List Ended) × Int) : Option (((List Outgoing) × Int × Int × Int × (List Outgoing) × (List Ended) × Int) ⊕ ((Int × (List Outgoing) × (List Ended) × Int))) :=
if (decide (s.2.2.1 < s.2.1)) then
((idx s.1 s.2.2.1).bind fun y4 =>
(g41 y4.2.2.2.1).bind fun y5 =>
(apd 72 s.2.2.2.2.1 ([(y4.1, y4.2.1, y4.2.2.1, y5, y4.2.2.2.2.1, y4.2.2.2.2.2)])).bind fun y6 =>
some (Sum.inl (s.1, s.2.1, (IntKind.i64.wrap (s.2.2.1 + (1 : Int))), s.2.2.2.1, y6, s.2.2.2.2.2.1, s.2.2.2.2.2.2)))
else
(some (Sum.inr (s.2.2.2.1, s.2.2.2.2.1, s.2.2.2.2.2.1, s.2.2.2.2.2.2)))
noncomputable def g33 (a0 : FileOut) : Option (Int × (List Outgoing) × List Ended) :=
(g55 a0.2.2).bind fun y1 =>
(lpU g33x0 (a0.2.1, (a0.2.1.length : Int), (0 : Int), a0.1, [], y1, (0 : Int))).bind fun z8 =>
some (z8.1, z8.2.1, z8.2.2.1)
noncomputable def tf33 : TF := .par ⟨[.v YFileOut], (.g (.p (.i .u32) (.p (.l .mu YOutgoing) (.l .mu YEnded))))⟩ (fun x => g33 x)
theorem e33 : evFn (tabU [(41, tf41), (55, tf55)]) ⟨F33.res, F33.keep, tf33.sg⟩ T33 = fun x => g33 x := by kernel_rfl
theorem o33 : TOK (EF pg) 33 tf33 := tok_of p33 rfl (tabU_cons o41 (tabU_cons o55 (tabU_nil))) ⟨rfl, rfl, by decide⟩ rfl (rndOk_of rfl) trivial fun x y h => (congrFun e33 x).trans h
noncomputable def g18 (a0 : FileOut) (a1 : Outgoing) : Option (FileOut × Int × Int) :=
(g20 a0).bind fun y1 =>
if (y1 != (0 : Int)) then
(some (((0 : Int), [], []), (0 : Int), (310 : Int)))
else
(
if (!(h40 a1)) then
(some (((0 : Int), [], []), (0 : Int), (2 : Int)))
else
(
if (if ((a0.2.1.length : Int) == (4 : Int)) then true else (a0.1 == (4294967295 : Int))) then
(some (((0 : Int), [], []), (0 : Int), (6 : Int)))
else
((g33 a0).bind fun y9 =>
(g41 a1.2.2.2.1).bind fun y10 =>
(apd 72 y9.2.1 ([(y9.1, a1.2.1, a1.2.2.1, y10, (0 : Int), a1.2.2.2.2.2)])).bind fun y11 =>
some (((IntKind.u32.wrap (y9.1 + (1 : Int))), y11, y9.2.2), y9.1, (0 : Int)))))
noncomputable def tf18 : TF := .par ⟨[.v YFileOut, .v YOutgoing], (.t YFileOut (.t (.i .u32) (.i .i64)))⟩ (fun x => g18 x.1 x.2)
theorem e18 : evFn (tabU [(20, tf20), (33, tf33), (40, tf40), (41, tf41)]) ⟨F18.res, F18.keep, tf18.sg⟩ T18 = fun x => g18 x.1 x.2 := by kernel_rfl
theorem o18 : TOK (EF pg) 18 tf18 := tok_of p18 rfl (tabU_cons o20 (tabU_cons o33 (tabU_cons o40 (tabU_cons o41 (tabU_nil))))) ⟨rfl, rfl, by decide⟩ rfl (rndOk_of rfl) trivial fun x y h => (congrFun e18 x).trans h
noncomputable def g56x0 (s : (List Outgoing) × (Outgoing -> Option Bool) × Int × Int) : Option (((List Outgoing) × (Outgoing -> Option Bool) × Int × Int) ⊕ (Unit ⊕ Int)) :=
if (decide (s.2.2.2 < s.2.2.1)) then
((idx s.1 s.2.2.2).bind fun y3 =>
(s.2.1 y3).bind fun y4 =>
if y4 then
(some (Sum.inr (Sum.inr (s.2.2.2))))
else
(
some (Sum.inl (s.1, s.2.1, s.2.2.1, (IntKind.i64.wrap (s.2.2.2 + (1 : Int)))))))
else
(some (Sum.inr (Sum.inl ())))
noncomputable def g56 (a0 : List Outgoing) (a1 : Outgoing -> Option Bool) : Option Int :=
(lpU g56x0 (a0, a1, (a0.length : Int), (0 : Int))).bind fun z6 =>
match z6 with
| Sum.inl z7 => (some (-1 : Int))
| Sum.inr z8 => (some z8)
noncomputable def tf56 : TF := .par ⟨[.v (.l .ro YOutgoing), .v (.fn YOutgoing .b)], (.i .i64)⟩ (fun x => g56 x.1 x.2)
theorem e56 : evFn (tabU []) ⟨F56.res, F56.keep, tf56.sg⟩ T56 = fun x => g56 x.1 x.2 := by kernel_rfl
theorem o56 : TOK (EF pg) 56 tf56 := tok_of p56 rfl (tabU_nil) ⟨rfl, rfl, by decide⟩ rfl (rndOk_of rfl) trivial fun x y h => (congrFun e56 x).trans h
noncomputable def g34 (a0 : List Outgoing) (a1 : Outgoing -> Option Bool) : Option Int :=
(g56 a0 a1).bind fun y1 =>
some y1
noncomputable def tf34 : TF := .par ⟨[.v (.l .ro YOutgoing), .v (.fn YOutgoing .b)], (.i .i64)⟩ (fun x => g34 x.1 x.2)
theorem e34 : evFn (tabU [(56, tf56)]) ⟨F34.res, F34.keep, tf34.sg⟩ T34 = fun x => g34 x.1 x.2 := by kernel_rfl
theorem o34 : TOK (EF pg) 34 tf34 := tok_of p34 rfl (tabU_cons o56 (tabU_nil)) ⟨rfl, rfl, by decide⟩ rfl (rndOk_of rfl) trivial fun x y h => (congrFun e34 x).trans h
end Go.Proofs.Ytlhjdikklmkihaa.Ev.U
set_option maxRecDepth 100000
namespace Go.Proofs.Ytlhjdikklmkihaa.Ev.U
open Go
theorem x57 {xs : List D} {j : Int} (h0 : 0 <= j) (hj : j <= xs.length) (B : List Bx) : EF pg 57 [.sl .mu 2 xs, .v (.int .i64 0), .v (.int .i64 j)] B = some (.sl .mu 2 (xs.drop j.toNat), B) := by
 rw [EF_eq]
 simp [runF, evC, evOps, evStp, evOp, rd, rdL, rds, get, put, putO, argE, res1, resL, mkRes, doCall, unsnoc_append, S.wl, S.wo, lk, ins, sb, bx, sbx, pick, over, D.strip, D.strip2, D.strip1, D.tupB, D.cells, D.bnd2, D.bnd1, D.frz2, D.frz1, D.frzP, D.sto1, Value.oneCell', zc, bz, Tc.er, TStp.er, u_, ug_, s_, g_, n_, List.map_cons, List.map_nil, List.all_cons, List.all_nil, List.length_cons, List.length_nil, List.drop_succ_cons, List.drop_zero, List.take_succ_cons, List.take_zero, List.nil_append, List.cons_append, List.append_nil, List.getElem?_cons_succ, List.getElem?_cons_zero, Option.bind_some, Option.map_some, D.capB, dwnA, Nat.reduceEqDiff, Nat.reduceAdd, Nat.reduceLeDiff, Nat.reduceSub, Nat.reduceLT, Nat.reduceMul, Nat.zero_add, Nat.add_zero, reduceCtorEq, ↓reduceIte, Bool.and_true, Bool.true_and, Bool.and_self, Bool.not_false, Bool.not_true, decide_true, decide_false, and_self, and_true, true_and, Bool.false_eq_true, ge_iff_le, gt_iff_lt, p57, F57, h0, hj]
theorem x58 {xs : List D} {i j : Int} (h0 : 0 <= i) (hij : i <= j) (hj : j <= xs.length) (B : List Bx) : EF pg 58 [.sl .mu 6 xs, .v (.int .i64 i), .v (.int .i64 j)] B = some (.sl .mu 6 (xs.take i.toNat ++ xs.drop j.toNat), B) := by
 rw [EF_eq]
 simp [runF, evC, evOps, evStp, evOp, rd, rdL, rds, get, put, putO, argE, res1, resL, mkRes, doCall, unsnoc_append, S.wl, S.wo, lk, ins, sb, bx, sbx, pick, over, D.strip, D.strip2, D.strip1, D.tupB, D.cells, D.bnd2, D.bnd1, D.frz2, D.frz1, D.frzP, D.sto1, Value.oneCell', zc, bz, Tc.er, TStp.er, u_, ug_, s_, g_, n_, List.map_cons, List.map_nil, List.all_cons, List.all_nil, List.length_cons, List.length_nil, List.drop_succ_cons, List.drop_zero, List.take_succ_cons, List.take_zero, List.nil_append, List.cons_append, List.append_nil, List.getElem?_cons_succ, List.getElem?_cons_zero, Option.bind_some, Option.map_some, D.capB, dwnA, Nat.reduceEqDiff, Nat.reduceAdd, Nat.reduceLeDiff, Nat.reduceSub, Nat.reduceLT, Nat.reduceMul, Nat.zero_add, Nat.add_zero, reduceCtorEq, ↓reduceIte, Bool.and_true, Bool.true_and, Bool.and_self, Bool.not_false, Bool.not_true, decide_true, decide_false, and_self, and_true, true_and, Bool.false_eq_true, ge_iff_le, gt_iff_lt, p58, F58, h0, hij, hj]
theorem rm_ins {id : Nat} {F : List D} : ∀ {L : Bx}, lk id L = none -> rmL id (ins id F L) = L
 | [], _ => by simp [ins, rmL]
 | (b, ds) :: r, h => by
  simp only [lk] at h
  split at h
  ·cases h
  ·rename_i hne
   unfold ins
   split
   ·have : rmL id r = r := rm_none h
    simp [rmL, hne, this]
   ·simp [rmL, hne, rm_ins h]
where rm_none {id : Nat} : ∀ {L : Bx}, lk id L = none -> rmL id L = L
 | [], _ => rfl
 | (b, ds) :: r, h => by
  simp only [lk] at h
  split at h
  ·cases h
  ·rename_i hne
   simp [rmL, hne, rm_none h]
theorem sb_self {b : Nat} {X : List D} : ∀ {L : Bx}, lk b L = some X -> sb b X L = L
 | [], h => by cases h
 | (c, ds) :: r, h => by
  by_cases e : b = c
  ·subst e
   simp only [lk, if_true] at h
   injection h with h
   simp [sb, h]
  ·simp only [lk, if_neg e] at h
   simp [sb, e, sb_self h]
theorem kl_sb' {f id b : Nat} {X : List D} : ∀ {L : Bx}, klL f id (sb b X L) = sb b (X.map (D.kl1 f id)) (klL f id L)
 | [] => rfl
 | (c, ds) :: r => by
  have ih := kl_sb' (f := f) (id := id) (b := b) (X := X) (L := r)
  by_cases h : b = c
  ·simp [sb, klL, h]
  ·simp only [sb, if_neg h, klL, List.map_cons]
   exact congrArg _ ih
theorem set_last {B : List Bx} {L X : Bx} : (B ++ [L]).set B.length X = B ++ [X] := by
 induction B with
 | nil => rfl
 | cons b r ih => simp [ih]
theorem mod_last {B : List Bx} {L : Bx} {g : Bx -> Bx} : (B ++ [L]).modify B.length g = B ++ [g L] := by
 induction B with
 | nil => rfl
 | cons b r ih => simp [ih]
theorem get_last {B : List Bx} {L : Bx} : (B ++ [L])[B.length]? = some L := by simp
theorem unsnoc2 {α : Type} {B : List α} {x y : α} : unsnoc (B ++ [x, y]) = some (B ++ [x], y) := by
 rw [show B ++ [x, y] = (B ++ [x]) ++ [y] by simp, unsnoc_append]
theorem w64 {n : Int} (h : -9223372036854775808 <= n ∧ n <= 9223372036854775807) : IntKind.i64.wrap n = n := by
 simp only [IntKind.wrap, IntKind.bits, IntKind.signed]
 simp
 omega
theorem lso_eq {e : Env} {l L : Bx} {B : List Bx} {b c id z : Nat} {ds xs : List D} (hb : lk b L = some ds) (hc : ds[c]? = some (.sl .mu z xs)) (h1 : lk id L = none) (ha : xs.all (fun d => d.cells.all D.rf1) = true) :
  lso B.length b c id ⟨e, l, B ++ [L]⟩ = some ⟨e, l, B ++ [ins id (xs.flatMap D.cells) (sb b (ds.set c (.ref B.length id 0 xs.length z)) L)]⟩ := by
 unfold lso
 simp only [get_last, h1, hb, hc]
 rw [if_pos (by rfl), if_pos ha]
 simp only [S.wo, set_last]
theorem uso_eq {e : Env} {L : Bx} {B : List Bx} {b c id z : Nat} {ds xs : List D} (hb : lk b L = some ds) (hc : ds[c]? = some (.ref B.length id 0 xs.length z)) (h1 : lk id L = none) (hl : xs.length * z = (xs.flatMap D.cells).length) (ha : (xs.flatMap D.cells).all D.rf1 = true) (hx : chunks z xs.length (xs.flatMap D.cells) = xs) :
  uso B.length b c id ⟨e, [], B ++ [ins id (xs.flatMap D.cells) L]⟩ = some ⟨klE B.length id e, [], B ++ [sb b ((ds.map (D.kl1 B.length id)).set c (.sl .mu z xs)) (klL B.length id L)]⟩ := by
 have hne : b ≠ id := fun e => by rw [e, h1] at hb; cases hb
 unfold uso
 simp only [get_last, lk_ins h1, if_true, if_neg hne, hb, hc]
 rw [if_pos ⟨trivial, trivial, trivial, hl, ha, hne⟩, rm_ins h1, hx]
 simp [klL]
structure ElZ (z : Nat) (es : List D) : Prop where
 el : ∀ d ∈ es, ∃ cs, d = .agg cs ∧ cs.length = z ∧ cs.all D.rf1 = true
theorem ElZ.tail {z : Nat} {d : D} {es : List D} (h : ElZ z (d :: es)) : ElZ z es := ⟨fun x hx => h.el x (by simp [hx])⟩
theorem ElZ.all {z : Nat} {es : List D} (h : ElZ z es) : es.all (fun d => d.cells.all D.rf1) = true := List.all_eq_true.2 fun d hd => by
 obtain ⟨cs, rfl, h2, h3⟩ := h.el d hd
 exact h3
theorem ElZ.flatAll {z : Nat} {es : List D} (h : ElZ z es) : (es.flatMap D.cells).all D.rf1 = true := by
 rw [List.all_flatMap]; exact h.all
theorem ElZ.len {z : Nat} {es : List D} (h : ElZ z es) : (es.flatMap D.cells).length = es.length * z := flat_len fun i d hi => by
 obtain ⟨cs, rfl, h2, h3⟩ := h.el d (List.mem_of_getElem? hi)
 exact h2
theorem ElZ.chunks {z : Nat} {es : List D} (hz : 2 <= z) : ElZ z es -> chunks z es.length (es.flatMap D.cells) = es := by
 induction es with
 | nil => intro _; rfl
 | cons d es ih =>
  intro h
  obtain ⟨cs, rfl, h2, h3⟩ := h.el d (by simp)
  have h6 : (D.agg cs).cells.length = z := h2
  rw [List.length_cons, List.flatMap_cons]
  simp only [Ev.chunks]
  rw [List.take_left' h6, List.drop_left' h6, ih h.tail]
  congr 1
  match cs, h2 with
  | [], h2 => simp at h2; omega
  | [c], h2 => simp at h2; omega
  | c :: c' :: cs, _ => rfl
theorem ElZ.num {z : Nat} {c : D} {cs : List D} : ∀ {es : List D} {i : Nat}, ElZ z es -> es[i]? = some (.agg (c :: cs)) -> (es.flatMap D.cells)[i * z]? = some c
 | [], i, _, hi => by simp at hi
 | d :: es, 0, h, hi => by
  simp at hi
  subst hi
  simp [D.cells]
 | d :: es, i + 1, h, hi => by
  obtain ⟨cs', rfl, h2, h3⟩ := h.el d (by simp)
  have h6 : (D.agg cs').cells.length = z := h2
  rw [List.flatMap_cons, List.getElem?_append_right (by rw [h6, Nat.add_mul]; omega), h6, show (i + 1) * z - z = i * z by rw [Nat.add_mul]; omega]
  exact ElZ.num h.tail (by simpa using hi)
end Go.Proofs.Ytlhjdikklmkihaa.Ev.U
set_option maxRecDepth 100000
namespace Go.Proofs.Ytlhjdikklmkihaa.Ev.U
open Go
theorem st_v {x : Value} : (D.v x).strip = .v x := rfl
theorem st_v1 {x : Value} : (D.v x).strip1 = .v x := rfl
theorem st_v2 {x : Value} : (D.v x).strip2 = .v x := rfl
theorem st_p {f s o : Nat} : (D.ptr f s o).strip = .ptr f s o := rfl
theorem st_p2 {f s o : Nat} : (D.ptr f s o).strip2 = .ptr f s o := rfl
theorem st_r {f s o n z : Nat} : (D.ref f s o n z).strip = .ref f s o n z := rfl
theorem st_c {f : Nat} {cs : List D} : (D.clo f cs).strip = .clo f cs := rfl
theorem st_c2 {f : Nat} {cs : List D} : (D.clo f cs).strip2 = .clo f cs := rfl
theorem st_u : D.u.strip = .u := rfl
theorem st_a {cs : List D} : (D.agg cs).strip = .agg (cs.map D.strip1) := rfl
theorem st_a2 {cs : List D} : (D.agg cs).strip2 = .agg (cs.map D.strip1) := rfl
theorem st_mu {z : Nat} {xs : List D} : (D.sl .mu z xs).strip = .u := rfl
theorem st_mu1 {z : Nat} {xs : List D} : (D.sl .mu z xs).strip1 = .u := rfl
theorem st_app {z : Nat} {xs : List D} : (D.sl .app z xs).strip = .sl .ro z xs := rfl
theorem st_app1 {z : Nat} {xs : List D} : (D.sl .app z xs).strip1 = .sl .ro z xs := rfl
theorem st_nl {z : Nat} {xs : List D} : (D.sl .nl z xs).strip = .sl .nl z xs := rfl
theorem st_nl1 {z : Nat} {xs : List D} : (D.sl .nl z xs).strip1 = .sl .nl z xs := rfl
theorem st_ro {z : Nat} {xs : List D} : (D.sl .ro z xs).strip = .sl .ro z xs := rfl
theorem st_ro1 {z : Nat} {xs : List D} : (D.sl .ro z xs).strip1 = .sl .ro z xs := rfl
theorem rf_v {x : Value} : (D.v x).rf1 = x.oneCell' := rfl
theorem ce_v {x : Value} : (D.v x).cells = [.v x] := rfl
theorem ce_a {cs : List D} : (D.agg cs).cells = cs := rfl
theorem ce_s {m : Mode} {z : Nat} {xs : List D} : (D.sl m z xs).cells = [.sl m z xs] := rfl
theorem ce_u : D.u.cells = [.u] := rfl
noncomputable def kD (c : Caller) (r : List (Stp × List Nat)) (un : List Nat) (acts : List Ba) (p : Stp) (s : S) (i : Ins) : Option S := if un.all (fun m => (acts.getD m .no).co s.o.length i.a) = true then evDr c r (acts ++ [i.a]) (i.ap p.t s) else none
theorem dr_c {c : Caller} {p : Stp} {un : List Nat} {r : List (Stp × List Nat)} {acts : List Ba} {s : S} : evDr c ((p, un) :: r) acts s = (instS c p s).bind (kD c r un acts p s) := by
 simp only [evDr]
 cases instS c p s <;> rfl
theorem dr_n {c : Caller} {acts : List Ba} {s : S} : evDr c [] acts s = some s := rfl
theorem kD_m {c : Caller} {r : List (Stp × List Nat)} {un : List Nat} {acts : List Ba} {p : Stp} {s : S} {d : D} {mv : Option Nat} {a : Ba} : kD c r un acts p s ⟨d, mv, a⟩ = if un.all (fun m => (acts.getD m .no).co s.o.length a) = true then evDr c r (acts ++ [a]) (Ins.ap ⟨d, mv, a⟩ p.t s) else none := rfl
theorem sq_nm {c : Caller} {a b : Cd} {s s1 : S} (h : evC c a s = some (.nm, s1)) : evC c (.sq a b) s = evC c b s1 := by simp only [evC, h]
theorem rg_ok {c : Caller} {l : List Stp} {s s1 : S} (h : evOps c l s = some s1) : evC c (.rg l) s = some (.nm, s1) := by simp only [evC, h]; rfl
theorem ls_ok {c : Caller} {t off id : Nat} {a : Cd} {s s1 s2 s3 : S} {f b o : Nat} {x : Ex} (h0 : get t s.e = .ptr f b o) (h1 : lso f b (o + off) id s = some s1) (h2 : evC c a s1 = some (x, s2)) (h3 : uso f b (o + off) id s2 = some s3) : evC c (.ls t off id a) s = some (x, s3) := by
 simp only [evC, h0, h1, h2, h3]; rfl
theorem ops_n {c : Caller} {s : S} : evOps c [] s = some s := rfl
theorem ops_c {c : Caller} {p : Stp} {r : List Stp} {s : S} : evOps c (p :: r) s = (evStp c p s).bind (evOps c r) := rfl
section
variable {B : List Bx} {L : Bx} {b : Nat} {nx num code : Int} {es hs cs : List D} {i : Nat} {e : Env}
theorem r45a (hb : lk b L = some [.v (.int .u32 nx), .sl .mu 6 es, .sl .mu 2 hs]) (h1 : lk 500001 L = none) (hk1 : klL B.length 500001 L = L) (he : ElZ 6 es) (hi : es[i]? = some (.agg (.v (.int .u32 num) :: cs))) (hlen : (hs.length + 1) * 16 <= 140737488355328) :
  ∃ e, evC (EF pg) (.ls 0 1 500001 (.dr [(s_ 7 (.mv (.t 0)), []), (s_ 8 (.mv (.t 0)), []), (s_ 9 (.nck (.t 8)), []), (s_ 10 (.fa (.t 9) 2), []), (s_ 11 (.ldm none (.t 10)), []), (s_ 12 (.mv (.t 0)), []), (s_ 13 (.nck (.t 12)), []), (s_ 14 (.fa (.t 13) 1), []), (s_ 15 (.ld none (.t 14)), [4]), (s_ 16 (.mv (.t 1)), []), (s_ 17 (.ia (.t 15) (.t 16) 6), []), (s_ 18 (.fa (.t 17) 0), []), (s_ 19 (.ld none (.t 18)), [4]), (s_ 20 (.mv (.t 2)), []), (s_ 21 (.bd [.int .u32 0, .int .i64 0] [(0, 1, (.t 19)), (1, 1, (.t 20))]), []), (s_ 22 (.bs false 2 [(.t 21)]), []), (s_ 23 (.ap true 2 16 (.m 11) (.t 22)), []), (s_ 24 (.nck (.t 7)), []), (s_ 25 (.fa (.t 24) 2), []), (n_ (.st 1 (.t 25) (.m 23)), [])])) ⟨[(0, .ptr B.length b 0), (1, .v (.int .i64 i)), (2, .v (.int .i64 code))], [], B ++ [L]⟩ =
   some (.nm, ⟨e, [], B ++ [sb b [.v (.int .u32 nx), .sl .mu 6 es, .sl .mu 2 (hs ++ [.agg [.v (.int .u32 num), .v (.int .i64 code)]])] L]⟩) ∧ get 0 e = .ptr B.length b 0 ∧ get 1 e = .v (.int .i64 i) := by
 have hne : b ≠ 500001 := fun e => by rw [e, h1] at hb; cases hb
 have hne' : ¬ 500001 = b := fun e => hne e.symm
 have hlt := getq_lt hi
 have hq := he.num hi
 have hi2 : (i : Int) < es.length := by omega
 have hF : ∀ X, lk 500001 (sb b X L) = none := fun X => by rw [lk_sb, if_neg hne']; exact h1
 have hfl : es.length * 6 = (es.flatMap D.cells).length := he.len.symm
 obtain ⟨E, hdr, g0, g1⟩ : ∃ E, evC (EF pg) (.dr [(s_ 7 (.mv (.t 0)), []), (s_ 8 (.mv (.t 0)), []), (s_ 9 (.nck (.t 8)), []), (s_ 10 (.fa (.t 9) 2), []), (s_ 11 (.ldm none (.t 10)), []), (s_ 12 (.mv (.t 0)), []), (s_ 13 (.nck (.t 12)), []), (s_ 14 (.fa (.t 13) 1), []), (s_ 15 (.ld none (.t 14)), [4]), (s_ 16 (.mv (.t 1)), []), (s_ 17 (.ia (.t 15) (.t 16) 6), []), (s_ 18 (.fa (.t 17) 0), []), (s_ 19 (.ld none (.t 18)), [4]), (s_ 20 (.mv (.t 2)), []), (s_ 21 (.bd [.int .u32 0, .int .i64 0] [(0, 1, (.t 19)), (1, 1, (.t 20))]), []), (s_ 22 (.bs false 2 [(.t 21)]), []), (s_ 23 (.ap true 2 16 (.m 11) (.t 22)), []), (s_ 24 (.nck (.t 7)), []), (s_ 25 (.fa (.t 24) 2), []), (n_ (.st 1 (.t 25) (.m 23)), [])]) ⟨[(0, .ptr B.length b 0), (1, .v (.int .i64 i)), (2, .v (.int .i64 code))], [], B ++ [ins 500001 (es.flatMap D.cells) (sb b [.v (.int .u32 nx), .ref B.length 500001 0 es.length 6, .sl .mu 2 hs] L)]⟩ =
   some (.nm, ⟨E, [], B ++ [ins 500001 (es.flatMap D.cells) (sb b [.v (.int .u32 nx), .ref B.length 500001 0 es.length 6, .sl .mu 2 (hs ++ [.agg [.v (.int .u32 num), .v (.int .i64 code)]])] L)]⟩) ∧ get 0 E = .ptr B.length b 0 ∧ get 1 E = .v (.int .i64 i) := by
  refine ⟨[(23, .u), (25, .ptr B.length b 2), (24, .ptr B.length b 0), (23, .sl .mu 2 (hs ++ [.agg [.v (.int .u32 num), .v (.int .i64 code)]])), (11, .u), (22, .sl .app 2 [.agg [.v (.int .u32 num), .v (.int .i64 code)]]), (21, .agg [.v (.int .u32 num), .v (.int .i64 code)]), (20, .v (.int .i64 code)), (19, .v (.int .u32 num)), (18, .ptr B.length 500001 (i * 6)), (17, .ptr B.length 500001 (i * 6)), (16, .v (.int .i64 i)), (15, .ref B.length 500001 0 es.length 6), (14, .ptr B.length b 1), (13, .ptr B.length b 0), (12, .ptr B.length b 0), (11, .sl .mu 2 hs), (10, .ptr B.length b 2), (9, .ptr B.length b 0), (8, .ptr B.length b 0), (7, .ptr B.length b 0), (0, .ptr B.length b 0), (1, .v (.int .i64 i)), (2, .v (.int .i64 code))], ?_, by simp [get], by simp [get]⟩
  simp only [evC, s_, n_]
  simp [runF, evC, evOps, evStp, evOp, rd, rdL, rds, get, put, putO, argE, res1, resL, mkRes, doCall, unsnoc_append, S.wl, S.wo, lk, ins, sb, bx, sbx, pick, over, D.tupB, D.bnd2, D.bnd1, D.frz2, D.frz1, D.frzP, D.sto1, Value.oneCell', zc, bz, Tc.er, TStp.er, u_, ug_, s_, g_, n_, List.map_cons, List.map_nil, List.all_cons, List.all_nil, List.length_cons, List.length_nil, List.drop_succ_cons, List.drop_zero, List.take_succ_cons, List.take_zero, List.nil_append, List.cons_append, List.append_nil, List.getElem?_cons_succ, List.getElem?_cons_zero, Option.bind_some, Option.map_some, D.capB, dwnA, Nat.reduceEqDiff, Nat.reduceAdd, Nat.reduceLeDiff, Nat.reduceSub, Nat.reduceLT, Nat.reduceMul, Nat.zero_add, Nat.add_zero, reduceCtorEq, ↓reduceIte, Bool.and_true, Bool.true_and, Bool.and_self, Bool.not_false, Bool.not_true, decide_true, decide_false, and_self, and_true, true_and, Bool.false_eq_true, ge_iff_le, gt_iff_lt, st_v, st_v1, st_v2, st_p, st_p2, st_r, st_mu, st_mu1, st_app, st_app1, st_u, st_a, st_a2, ce_v, ce_a, ce_s, ce_u, dr_c, dr_n, kD_m, hb, h1, lk_ins (hF _), lk_sb, hne, hne', sb_ins hne, sb_sb, instS, inst, Op.neut, Ins.ap, Ba.ap, moved, Op.ms, Opd.ms, Opd.ot, Ba.co, Ba.dj, Ba.loc, Ba.w, hlt, hi2, hq, lay, get, hlen, mod_last, rf_v]
 have hls : lso B.length b (0 + 1) 500001 ⟨[(0, .ptr B.length b 0), (1, .v (.int .i64 i)), (2, .v (.int .i64 code))], [], B ++ [L]⟩ = some ⟨[(0, .ptr B.length b 0), (1, .v (.int .i64 i)), (2, .v (.int .i64 code))], [], B ++ [ins 500001 (es.flatMap D.cells) (sb b [.v (.int .u32 nx), .ref B.length 500001 0 es.length 6, .sl .mu 2 hs] L)]⟩ := by
  exact lso_eq (c := 1) hb rfl h1 he.all
 have hus : uso B.length b (0 + 1) 500001 ⟨E, [], B ++ [ins 500001 (es.flatMap D.cells) (sb b [.v (.int .u32 nx), .ref B.length 500001 0 es.length 6, .sl .mu 2 (hs ++ [.agg [.v (.int .u32 num), .v (.int .i64 code)]])] L)]⟩ = some ⟨klE B.length 500001 E, [], B ++ [sb b [.v (.int .u32 nx), .sl .mu 6 es, .sl .mu 2 (hs ++ [.agg [.v (.int .u32 num), .v (.int .i64 code)]])] L]⟩ := by
  refine (uso_eq (c := 1) (b := b) (z := 6) (xs := es) (ds := _) (by rw [lk_sb, if_pos rfl, hb]; rfl) rfl (hF _) hfl he.flatAll (he.chunks (by decide))).trans ?_
  rw [kl_sb', hk1, sb_sb]; rfl
 refine ⟨klE B.length 500001 E, ls_ok (f := B.length) (b := b) (o := 0) rfl hls hdr hus, ?_, ?_⟩
 ·rw [get_kl, g0]; simp [D.kl3, D.kl2, D.kl1, D.klP, hne]
 ·rw [get_kl, g1]; rfl
theorem r45n {zz : Nat} (hb : lk b L = some [.v (.int .u32 nx), .sl .mu 6 es, .sl .nl zz []]) (h1 : lk 500001 L = none) (hk1 : klL B.length 500001 L = L) (he : ElZ 6 es) (hi : es[i]? = some (.agg (.v (.int .u32 num) :: cs))) :
  ∃ e, evC (EF pg) (.ls 0 1 500001 (.dr [(s_ 7 (.mv (.t 0)), []), (s_ 8 (.mv (.t 0)), []), (s_ 9 (.nck (.t 8)), []), (s_ 10 (.fa (.t 9) 2), []), (s_ 11 (.ldm none (.t 10)), []), (s_ 12 (.mv (.t 0)), []), (s_ 13 (.nck (.t 12)), []), (s_ 14 (.fa (.t 13) 1), []), (s_ 15 (.ld none (.t 14)), [4]), (s_ 16 (.mv (.t 1)), []), (s_ 17 (.ia (.t 15) (.t 16) 6), []), (s_ 18 (.fa (.t 17) 0), []), (s_ 19 (.ld none (.t 18)), [4]), (s_ 20 (.mv (.t 2)), []), (s_ 21 (.bd [.int .u32 0, .int .i64 0] [(0, 1, (.t 19)), (1, 1, (.t 20))]), []), (s_ 22 (.bs false 2 [(.t 21)]), []), (s_ 23 (.ap true 2 16 (.m 11) (.t 22)), []), (s_ 24 (.nck (.t 7)), []), (s_ 25 (.fa (.t 24) 2), []), (n_ (.st 1 (.t 25) (.m 23)), [])])) ⟨[(0, .ptr B.length b 0), (1, .v (.int .i64 i)), (2, .v (.int .i64 code))], [], B ++ [L]⟩ =
   some (.nm, ⟨e, [], B ++ [sb b [.v (.int .u32 nx), .sl .mu 6 es, .sl .mu 2 ([] ++ [.agg [.v (.int .u32 num), .v (.int .i64 code)]])] L]⟩) ∧ get 0 e = .ptr B.length b 0 ∧ get 1 e = .v (.int .i64 i) := by
 have hne : b ≠ 500001 := fun e => by rw [e, h1] at hb; cases hb
 have hne' : ¬ 500001 = b := fun e => hne e.symm
 have hlt := getq_lt hi
 have hq := he.num hi
 have hi2 : (i : Int) < es.length := by omega
 have hF : ∀ X, lk 500001 (sb b X L) = none := fun X => by rw [lk_sb, if_neg hne']; exact h1
 have hfl : es.length * 6 = (es.flatMap D.cells).length := he.len.symm
 obtain ⟨E, hdr, g0, g1⟩ : ∃ E, evC (EF pg) (.dr [(s_ 7 (.mv (.t 0)), []), (s_ 8 (.mv (.t 0)), []), (s_ 9 (.nck (.t 8)), []), (s_ 10 (.fa (.t 9) 2), []), (s_ 11 (.ldm none (.t 10)), []), (s_ 12 (.mv (.t 0)), []), (s_ 13 (.nck (.t 12)), []), (s_ 14 (.fa (.t 13) 1), []), (s_ 15 (.ld none (.t 14)), [4]), (s_ 16 (.mv (.t 1)), []), (s_ 17 (.ia (.t 15) (.t 16) 6), []), (s_ 18 (.fa (.t 17) 0), []), (s_ 19 (.ld none (.t 18)), [4]), (s_ 20 (.mv (.t 2)), []), (s_ 21 (.bd [.int .u32 0, .int .i64 0] [(0, 1, (.t 19)), (1, 1, (.t 20))]), []), (s_ 22 (.bs false 2 [(.t 21)]), []), (s_ 23 (.ap true 2 16 (.m 11) (.t 22)), []), (s_ 24 (.nck (.t 7)), []), (s_ 25 (.fa (.t 24) 2), []), (n_ (.st 1 (.t 25) (.m 23)), [])]) ⟨[(0, .ptr B.length b 0), (1, .v (.int .i64 i)), (2, .v (.int .i64 code))], [], B ++ [ins 500001 (es.flatMap D.cells) (sb b [.v (.int .u32 nx), .ref B.length 500001 0 es.length 6, .sl .nl zz []] L)]⟩ =
   some (.nm, ⟨E, [], B ++ [ins 500001 (es.flatMap D.cells) (sb b [.v (.int .u32 nx), .ref B.length 500001 0 es.length 6, .sl .mu 2 ([] ++ [.agg [.v (.int .u32 num), .v (.int .i64 code)]])] L)]⟩) ∧ get 0 E = .ptr B.length b 0 ∧ get 1 E = .v (.int .i64 i) := by
  refine ⟨[(23, .u), (25, .ptr B.length b 2), (24, .ptr B.length b 0), (23, .sl .mu 2 ([] ++ [.agg [.v (.int .u32 num), .v (.int .i64 code)]])), (11, .sl .nl zz []), (22, .sl .app 2 [.agg [.v (.int .u32 num), .v (.int .i64 code)]]), (21, .agg [.v (.int .u32 num), .v (.int .i64 code)]), (20, .v (.int .i64 code)), (19, .v (.int .u32 num)), (18, .ptr B.length 500001 (i * 6)), (17, .ptr B.length 500001 (i * 6)), (16, .v (.int .i64 i)), (15, .ref B.length 500001 0 es.length 6), (14, .ptr B.length b 1), (13, .ptr B.length b 0), (12, .ptr B.length b 0), (11, .sl .nl zz []), (10, .ptr B.length b 2), (9, .ptr B.length b 0), (8, .ptr B.length b 0), (7, .ptr B.length b 0), (0, .ptr B.length b 0), (1, .v (.int .i64 i)), (2, .v (.int .i64 code))], ?_, by simp [get], by simp [get]⟩
  simp only [evC, s_, n_]
  simp [runF, evC, evOps, evStp, evOp, rd, rdL, rds, get, put, putO, argE, res1, resL, mkRes, doCall, unsnoc_append, S.wl, S.wo, lk, ins, sb, bx, sbx, pick, over, D.tupB, D.bnd2, D.bnd1, D.frz2, D.frz1, D.frzP, D.sto1, Value.oneCell', zc, bz, Tc.er, TStp.er, u_, ug_, s_, g_, n_, List.map_cons, List.map_nil, List.all_cons, List.all_nil, List.length_cons, List.length_nil, List.drop_succ_cons, List.drop_zero, List.take_succ_cons, List.take_zero, List.nil_append, List.cons_append, List.append_nil, List.getElem?_cons_succ, List.getElem?_cons_zero, Option.bind_some, Option.map_some, D.capB, dwnA, Nat.reduceEqDiff, Nat.reduceAdd, Nat.reduceLeDiff, Nat.reduceSub, Nat.reduceLT, Nat.reduceMul, Nat.zero_add, Nat.add_zero, reduceCtorEq, ↓reduceIte, Bool.and_true, Bool.true_and, Bool.and_self, Bool.not_false, Bool.not_true, decide_true, decide_false, and_self, and_true, true_and, Bool.false_eq_true, ge_iff_le, gt_iff_lt, st_v, st_v1, st_v2, st_p, st_p2, st_r, st_mu, st_mu1, st_app, st_app1, st_u, st_a, st_a2, ce_v, ce_a, ce_s, ce_u, dr_c, dr_n, kD_m, hb, h1, lk_ins (hF _), lk_sb, hne, hne', sb_ins hne, sb_sb, instS, inst, Op.neut, Ins.ap, Ba.ap, moved, Op.ms, Opd.ms, Opd.ot, Ba.co, Ba.dj, Ba.loc, Ba.w, hlt, hi2, hq, lay, get, st_nl, st_nl1, mod_last, rf_v]
 have hls : lso B.length b (0 + 1) 500001 ⟨[(0, .ptr B.length b 0), (1, .v (.int .i64 i)), (2, .v (.int .i64 code))], [], B ++ [L]⟩ = some ⟨[(0, .ptr B.length b 0), (1, .v (.int .i64 i)), (2, .v (.int .i64 code))], [], B ++ [ins 500001 (es.flatMap D.cells) (sb b [.v (.int .u32 nx), .ref B.length 500001 0 es.length 6, .sl .nl zz []] L)]⟩ := by
  exact lso_eq (c := 1) hb rfl h1 he.all
 have hus : uso B.length b (0 + 1) 500001 ⟨E, [], B ++ [ins 500001 (es.flatMap D.cells) (sb b [.v (.int .u32 nx), .ref B.length 500001 0 es.length 6, .sl .mu 2 ([] ++ [.agg [.v (.int .u32 num), .v (.int .i64 code)]])] L)]⟩ = some ⟨klE B.length 500001 E, [], B ++ [sb b [.v (.int .u32 nx), .sl .mu 6 es, .sl .mu 2 ([] ++ [.agg [.v (.int .u32 num), .v (.int .i64 code)]])] L]⟩ := by
  refine (uso_eq (c := 1) (b := b) (z := 6) (xs := es) (ds := _) (by rw [lk_sb, if_pos rfl, hb]; rfl) rfl (hF _) hfl he.flatAll (he.chunks (by decide))).trans ?_
  rw [kl_sb', hk1, sb_sb]; rfl
 refine ⟨klE B.length 500001 E, ls_ok (f := B.length) (b := b) (o := 0) rfl hls hdr hus, ?_, ?_⟩
 ·rw [get_kl, g0]; simp [D.kl3, D.kl2, D.kl1, D.klP, hne]
 ·rw [get_kl, g1]; rfl
theorem r45b {M : Bx} {n : Int} (hn : n = (hs.length : Int) - 16) (g0 : get 0 e = .ptr B.length b 0) (g1 : get 1 e = .v (.int .i64 i)) (hb : lk b M = some [.v (.int .u32 nx), .sl .mu 6 es, .sl .mu 2 hs]) (h1 : lk 500002 M = none) (hk1 : klL B.length 500002 M = M) (he : ElZ 2 hs) (hlen : (hs.length : Int) <= 140737488355328) :
  ∃ E, evC (EF pg) (.ls 0 2 500002 (.rg [s_ 26 (.mv (.t 0)), s_ 27 (.nck (.t 26)), s_ 28 (.fa (.t 27) 2), s_ 29 (.ld none (.t 28)), s_ 30 (.len (.t 29)), s_ 31 (.bin .sub (.t 30) (I 16)), s_ 6 (.mv (.t 31))])) ⟨e, [], B ++ [M]⟩ = some (.nm, ⟨E, [], B ++ [M]⟩) ∧ get 0 E = .ptr B.length b 0 ∧ get 1 E = .v (.int .i64 i) ∧ get 6 E = .v (.int .i64 n) := by
 have hne : b ≠ 500002 := fun e => by rw [e, h1] at hb; cases hb
 have hne' : ¬ 500002 = b := fun e => hne e.symm
 have hF : ∀ X, lk 500002 (sb b X M) = none := fun X => by rw [lk_sb, if_neg hne']; exact h1
 have hfl : hs.length * 2 = (hs.flatMap D.cells).length := he.len.symm
 have hw : IntKind.i64.wrap ((hs.length : Int) - 16) = n := by rw [hn]; exact w64 (by omega)
 obtain ⟨E, hrg, q0, q1, q6⟩ : ∃ E, evC (EF pg) (.rg [s_ 26 (.mv (.t 0)), s_ 27 (.nck (.t 26)), s_ 28 (.fa (.t 27) 2), s_ 29 (.ld none (.t 28)), s_ 30 (.len (.t 29)), s_ 31 (.bin .sub (.t 30) (I 16)), s_ 6 (.mv (.t 31))]) ⟨e, [], B ++ [ins 500002 (hs.flatMap D.cells) (sb b [.v (.int .u32 nx), .sl .mu 6 es, .ref B.length 500002 0 hs.length 2] M)]⟩ =
   some (.nm, ⟨E, [], B ++ [ins 500002 (hs.flatMap D.cells) (sb b [.v (.int .u32 nx), .sl .mu 6 es, .ref B.length 500002 0 hs.length 2] M)]⟩) ∧ get 0 E = .ptr B.length b 0 ∧ get 1 E = .v (.int .i64 i) ∧ get 6 E = .v (.int .i64 n) := by
  refine ⟨(6, .v (.int .i64 n)) :: (31, .v (.int .i64 n)) :: (30, .v (.int .i64 hs.length)) :: (29, .ref B.length 500002 0 hs.length 2) :: (28, .ptr B.length b 2) :: (27, .ptr B.length b 0) :: (26, .ptr B.length b 0) :: e, ?_, by simp [get, g0], by simp [get, g1], by simp [get]⟩
  refine rg_ok ?_
  simp only [ops_c, ops_n, s_]
  simp [runF, evC, evOps, evStp, evOp, rd, rdL, rds, get, put, putO, argE, res1, resL, mkRes, doCall, unsnoc_append, S.wl, S.wo, lk, ins, sb, bx, sbx, pick, over, D.tupB, D.bnd2, D.bnd1, D.frz2, D.frz1, D.frzP, D.sto1, Value.oneCell', zc, bz, Tc.er, TStp.er, u_, ug_, s_, g_, n_, List.map_cons, List.map_nil, List.all_cons, List.all_nil, List.length_cons, List.length_nil, List.drop_succ_cons, List.drop_zero, List.take_succ_cons, List.take_zero, List.nil_append, List.cons_append, List.append_nil, List.getElem?_cons_succ, List.getElem?_cons_zero, Option.bind_some, Option.map_some, D.capB, dwnA, Nat.reduceEqDiff, Nat.reduceAdd, Nat.reduceLeDiff, Nat.reduceSub, Nat.reduceLT, Nat.reduceMul, Nat.zero_add, Nat.add_zero, reduceCtorEq, ↓reduceIte, Bool.and_true, Bool.true_and, Bool.and_self, Bool.not_false, Bool.not_true, decide_true, decide_false, and_self, and_true, true_and, Bool.false_eq_true, ge_iff_le, gt_iff_lt, st_v, st_p, st_r, hw, hb, g0, g1, lk_ins (hF _), lk_sb, hne, hne', get]
 have hus := uso_eq (e := E) (B := B) (c := 2) (b := b) (id := 500002) (z := 2) (xs := hs) (L := sb b [.v (.int .u32 nx), .sl .mu 6 es, .ref B.length 500002 0 hs.length 2] M) (ds := [.v (.int .u32 nx), .sl .mu 6 es, .ref B.length 500002 0 hs.length 2]) (by rw [lk_sb, if_pos rfl, hb]; rfl) rfl (hF _) hfl he.flatAll (he.chunks (by decide))
 rw [kl_sb', hk1, sb_sb, show (([D.v (.int .u32 nx), .sl .mu 6 es, .ref B.length 500002 0 hs.length 2].map (D.kl1 B.length 500002)).set 2 (.sl .mu 2 hs)) = [.v (.int .u32 nx), .sl .mu 6 es, .sl .mu 2 hs] from rfl, sb_self hb] at hus
 refine ⟨klE B.length 500002 E, ls_ok (f := B.length) (b := b) (o := 0) g0 (lso_eq (c := 2) hb rfl h1 he.all) hrg hus, ?_, ?_, ?_⟩
 ·rw [get_kl, q0]; simp [D.kl3, D.kl2, D.kl1, D.klP, hne]
 ·rw [get_kl, q1]; rfl
 ·rw [get_kl, q6]; rfl
theorem r45c {M : Bx} {n : Int} (g0 : get 0 e = .ptr B.length b 0) (g6 : get 6 e = .v (.int .i64 n)) (hn0 : 0 < n) (hn : n <= hs.length) (hb : lk b M = some [.v (.int .u32 nx), .sl .mu 6 es, .sl .mu 2 hs]) :
  evOps (EF pg) [s_ 34 (.mv (.t 0)), s_ 35 (.mv (.t 0)), s_ 36 (.nck (.t 35)), s_ 37 (.fa (.t 36) 2), s_ 38 (.ldm none (.t 37)), s_ 39 (.mv (.t 6)), s_ 40 (.call 57 [(.m 38), (I 0), (.t 39)]), s_ 41 (.nck (.t 34)), s_ 42 (.fa (.t 41) 2), n_ (.st 1 (.t 42) (.m 40))] ⟨e, [], B ++ [M]⟩ =
   some ⟨(40, .u) :: (42, .ptr B.length b 2) :: (41, .ptr B.length b 0) :: (40, .sl .mu 2 (hs.drop n.toNat)) :: (38, .u) :: (39, .v (.int .i64 n)) :: (38, .sl .mu 2 hs) :: (37, .ptr B.length b 2) :: (36, .ptr B.length b 0) :: (35, .ptr B.length b 0) :: (34, .ptr B.length b 0) :: e, [], B ++ [sb b [.v (.int .u32 nx), .sl .mu 6 es, .sl .mu 2 (hs.drop n.toNat)] M]⟩ := by
 have hx := fun B => x57 (Int.le_of_lt hn0) hn B
 simp only [ops_c, ops_n, s_, n_]
 simp [runF, evC, evOps, evStp, evOp, rd, rdL, rds, get, put, putO, argE, res1, resL, mkRes, doCall, unsnoc_append, S.wl, S.wo, lk, ins, sb, bx, sbx, pick, over, D.tupB, D.bnd2, D.bnd1, D.frz2, D.frz1, D.frzP, D.sto1, Value.oneCell', zc, bz, Tc.er, TStp.er, u_, ug_, s_, g_, n_, List.map_cons, List.map_nil, List.all_cons, List.all_nil, List.length_cons, List.length_nil, List.drop_succ_cons, List.drop_zero, List.take_succ_cons, List.take_zero, List.nil_append, List.cons_append, List.append_nil, List.getElem?_cons_succ, List.getElem?_cons_zero, Option.bind_some, Option.map_some, D.capB, dwnA, Nat.reduceEqDiff, Nat.reduceAdd, Nat.reduceLeDiff, Nat.reduceSub, Nat.reduceLT, Nat.reduceMul, Nat.zero_add, Nat.add_zero, reduceCtorEq, ↓reduceIte, Bool.and_true, Bool.true_and, Bool.and_self, Bool.not_false, Bool.not_true, decide_true, decide_false, and_self, and_true, true_and, Bool.false_eq_true, ge_iff_le, gt_iff_lt, st_v, st_p, st_r, st_mu, st_mu1, st_u, ce_u, ce_s, hb, g0, g6, lk_sb, get, mod_last, hx, sb_sb, unsnoc2]
theorem r45d {M : Bx} (g0 : get 0 e = .ptr B.length b 0) (g1 : get 1 e = .v (.int .i64 i)) (hi : i < es.length) (hlen : (es.length : Int) <= 140737488355328) (hb : lk b M = some [.v (.int .u32 nx), .sl .mu 6 es, .sl .mu 2 hs]) :
  ∃ E, evOps (EF pg) [s_ 43 (.mv (.t 0)), s_ 44 (.mv (.t 0)), s_ 45 (.nck (.t 44)), s_ 46 (.fa (.t 45) 1), s_ 47 (.ldm none (.t 46)), s_ 48 (.mv (.t 1)), s_ 49 (.mv (.t 1)), s_ 50 (.bin .add (.t 49) (I 1)), s_ 51 (.call 58 [(.m 47), (.t 48), (.t 50)]), s_ 52 (.nck (.t 43)), s_ 53 (.fa (.t 52) 1), n_ (.st 1 (.t 53) (.m 51))] ⟨e, [], B ++ [M]⟩ =
   some ⟨E, [], B ++ [sb b [.v (.int .u32 nx), .sl .mu 6 (es.take i ++ es.drop (i + 1)), .sl .mu 2 hs] M]⟩ := by
 have hw : IntKind.i64.wrap ((i : Int) + 1) = (i : Int) + 1 := w64 (by omega)
 have hx := fun B => x58 (xs := es) (i := i) (j := (i : Int) + 1) (by omega) (by omega) (by omega) B
 rw [show ((i : Int) + 1).toNat = i + 1 by omega, Int.toNat_natCast] at hx
 refine ⟨(51, .u) :: (53, .ptr B.length b 1) :: (52, .ptr B.length b 0) :: (51, .sl .mu 6 (es.take i ++ es.drop (i + 1))) :: (47, .u) :: (50, .v (.int .i64 ((i : Int) + 1))) :: (49, .v (.int .i64 i)) :: (48, .v (.int .i64 i)) :: (47, .sl .mu 6 es) :: (46, .ptr B.length b 1) :: (45, .ptr B.length b 0) :: (44, .ptr B.length b 0) :: (43, .ptr B.length b 0) :: e, ?_⟩
 simp only [ops_c, ops_n, s_, n_]
 simp [runF, evC, evOps, evStp, evOp, rd, rdL, rds, get, put, putO, argE, res1, resL, mkRes, doCall, unsnoc_append, S.wl, S.wo, lk, ins, sb, bx, sbx, pick, over, D.tupB, D.bnd2, D.bnd1, D.frz2, D.frz1, D.frzP, D.sto1, Value.oneCell', zc, bz, Tc.er, TStp.er, u_, ug_, s_, g_, n_, List.map_cons, List.map_nil, List.all_cons, List.all_nil, List.length_cons, List.length_nil, List.drop_succ_cons, List.drop_zero, List.take_succ_cons, List.take_zero, List.nil_append, List.cons_append, List.append_nil, List.getElem?_cons_succ, List.getElem?_cons_zero, Option.bind_some, Option.map_some, D.capB, dwnA, Nat.reduceEqDiff, Nat.reduceAdd, Nat.reduceLeDiff, Nat.reduceSub, Nat.reduceLT, Nat.reduceMul, Nat.zero_add, Nat.add_zero, reduceCtorEq, ↓reduceIte, Bool.and_true, Bool.true_and, Bool.and_self, Bool.not_false, Bool.not_true, decide_true, decide_false, and_self, and_true, true_and, Bool.false_eq_true, ge_iff_le, gt_iff_lt, st_v, st_p, st_r, st_mu, st_mu1, st_u, ce_u, ce_s, hb, g0, g1, lk_sb, get, mod_last, hw, hx, sb_sb, unsnoc2]
theorem ff_t {c : Caller} {q : Opd} {a a' : Cd} {s : S} (h : (rd q s).1 = .v (.bool true)) : evC c (.ff q a a') s = evC c a s := by simp only [evC, h]; rfl
theorem ff_f {c : Caller} {q : Opd} {a a' : Cd} {s : S} (h : (rd q s).1 = .v (.bool false)) : evC c (.ff q a a') s = evC c a' s := by simp only [evC, h]; rfl
def cutE {α : Type} (l : List α) : List α := l.drop (l.length - 16)
theorem b45 {H : D} (hH : H = .sl .mu 2 hs ∨ (hs = [] ∧ ∃ zz, H = .sl .nl zz [])) (hb : lk b L = some [.v (.int .u32 nx), .sl .mu 6 es, H]) (h1 : lk 500001 L = none) (h2 : lk 500002 L = none) (hk1 : klL B.length 500001 L = L) (hk2 : klL B.length 500002 L = L) (he : ElZ 6 es) (hh : ElZ 2 hs) (hi : es[i]? = some (.agg (.v (.int .u32 num) :: cs))) (hlen : (hs.length + 1) * 16 <= 140737488355328) (hle : (es.length : Int) <= 140737488355328) :
  ∃ E, evC (EF pg) c45 ⟨[(0, .ptr B.length b 0), (1, .v (.int .i64 i)), (2, .v (.int .i64 code))], [], B ++ [L]⟩ = some (.nm, ⟨E, [], B ++ [sb b [.v (.int .u32 nx), .sl .mu 6 (es.take i ++ es.drop (i + 1)), .sl .mu 2 (cutE (hs ++ [.agg [.v (.int .u32 num), .v (.int .i64 code)]]))] L]⟩) := by
 obtain ⟨e1, ha, g0, g1⟩ : ∃ e, evC (EF pg) (.ls 0 1 500001 (.dr [(s_ 7 (.mv (.t 0)), []), (s_ 8 (.mv (.t 0)), []), (s_ 9 (.nck (.t 8)), []), (s_ 10 (.fa (.t 9) 2), []), (s_ 11 (.ldm none (.t 10)), []), (s_ 12 (.mv (.t 0)), []), (s_ 13 (.nck (.t 12)), []), (s_ 14 (.fa (.t 13) 1), []), (s_ 15 (.ld none (.t 14)), [4]), (s_ 16 (.mv (.t 1)), []), (s_ 17 (.ia (.t 15) (.t 16) 6), []), (s_ 18 (.fa (.t 17) 0), []), (s_ 19 (.ld none (.t 18)), [4]), (s_ 20 (.mv (.t 2)), []), (s_ 21 (.bd [.int .u32 0, .int .i64 0] [(0, 1, (.t 19)), (1, 1, (.t 20))]), []), (s_ 22 (.bs false 2 [(.t 21)]), []), (s_ 23 (.ap true 2 16 (.m 11) (.t 22)), []), (s_ 24 (.nck (.t 7)), []), (s_ 25 (.fa (.t 24) 2), []), (n_ (.st 1 (.t 25) (.m 23)), [])])) ⟨[(0, .ptr B.length b 0), (1, .v (.int .i64 i)), (2, .v (.int .i64 code))], [], B ++ [L]⟩ =
   some (.nm, ⟨e, [], B ++ [sb b [.v (.int .u32 nx), .sl .mu 6 es, .sl .mu 2 (hs ++ [.agg [.v (.int .u32 num), .v (.int .i64 code)]])] L]⟩) ∧ get 0 e = .ptr B.length b 0 ∧ get 1 e = .v (.int .i64 i) := by
  rcases hH with rfl | ⟨rfl, zz, rfl⟩
  ·exact r45a hb h1 hk1 he hi hlen
  ·exact r45n hb h1 hk1 he hi
 have hlt := getq_lt hi
 generalize hhs : hs ++ [.agg [.v (.int .u32 num), .v (.int .i64 code)]] = hs1 at ha
 have hl1 : hs1.length = hs.length + 1 := by rw [<- hhs]; simp
 have hh1 : ElZ 2 hs1 := ⟨fun d hd => by
  rw [<- hhs, List.mem_append] at hd
  rcases hd with hd | hd
  ·exact hh.el d hd
  ·simp at hd
   exact ⟨_, hd, rfl, rfl⟩⟩
 have hbM : lk b (sb b [.v (.int .u32 nx), .sl .mu 6 es, .sl .mu 2 hs1] L) = some [.v (.int .u32 nx), .sl .mu 6 es, .sl .mu 2 hs1] := by rw [lk_sb, if_pos rfl, hb]; rfl
 have hne2 : ¬ 500002 = b := fun e => by rw [<- e, h2] at hb; cases hb
 have hM2 : lk 500002 (sb b [.v (.int .u32 nx), .sl .mu 6 es, .sl .mu 2 hs1] L) = none := by rw [lk_sb, if_neg hne2]; exact h2
 have hMk : klL B.length 500002 (sb b [.v (.int .u32 nx), .sl .mu 6 es, .sl .mu 2 hs1] L) = sb b [.v (.int .u32 nx), .sl .mu 6 es, .sl .mu 2 hs1] L := by rw [kl_sb', hk2]; rfl
 obtain ⟨e2, hb2, q0, q1, q6⟩ := r45b (n := (hs1.length : Int) - 16) rfl g0 g1 hbM hM2 hMk hh1 (by omega)
 -- whether too many
 obtain ⟨e3, h3, p0, p1⟩ : ∃ e3, evC (EF pg) (.sq (.rg [s_ 32 (.mv (.t 6)), s_ 33 (.bin .gtr (.t 32) (I 0))]) (.ff (.t 33) (.rg [s_ 34 (.mv (.t 0)), s_ 35 (.mv (.t 0)), s_ 36 (.nck (.t 35)), s_ 37 (.fa (.t 36) 2), s_ 38 (.ldm none (.t 37)), s_ 39 (.mv (.t 6)), s_ 40 (.call 57 [(.m 38), (I 0), (.t 39)]), s_ 41 (.nck (.t 34)), s_ 42 (.fa (.t 41) 2), n_ (.st 1 (.t 42) (.m 40))]) .sk)) ⟨e2, [], B ++ [sb b [.v (.int .u32 nx), .sl .mu 6 es, .sl .mu 2 hs1] L]⟩ =
   some (.nm, ⟨e3, [], B ++ [sb b [.v (.int .u32 nx), .sl .mu 6 es, .sl .mu 2 (cutE hs1)] L]⟩) ∧ get 0 e3 = .ptr B.length b 0 ∧ get 1 e3 = .v (.int .i64 i) := by
  have hrg : evOps (EF pg) [s_ 32 (.mv (.t 6)), s_ 33 (.bin .gtr (.t 32) (I 0))] ⟨e2, [], B ++ [sb b [.v (.int .u32 nx), .sl .mu 6 es, .sl .mu 2 hs1] L]⟩ = some ⟨(33, .v (.bool (decide ((hs1.length : Int) - 16 > 0)))) :: (32, .v (.int .i64 ((hs1.length : Int) - 16))) :: e2, [], B ++ [sb b [.v (.int .u32 nx), .sl .mu 6 es, .sl .mu 2 hs1] L]⟩ := by
   simp only [ops_c, ops_n, s_]
   simp [runF, evC, evOps, evStp, evOp, rd, rdL, rds, get, put, putO, argE, res1, resL, mkRes, doCall, unsnoc_append, S.wl, S.wo, lk, ins, sb, bx, sbx, pick, over, D.tupB, D.bnd2, D.bnd1, D.frz2, D.frz1, D.frzP, D.sto1, Value.oneCell', zc, bz, Tc.er, TStp.er, u_, ug_, s_, g_, n_, List.map_cons, List.map_nil, List.all_cons, List.all_nil, List.length_cons, List.length_nil, List.drop_succ_cons, List.drop_zero, List.take_succ_cons, List.take_zero, List.nil_append, List.cons_append, List.append_nil, List.getElem?_cons_succ, List.getElem?_cons_zero, Option.bind_some, Option.map_some, D.capB, dwnA, Nat.reduceEqDiff, Nat.reduceAdd, Nat.reduceLeDiff, Nat.reduceSub, Nat.reduceLT, Nat.reduceMul, Nat.zero_add, Nat.add_zero, reduceCtorEq, ↓reduceIte, Bool.and_true, Bool.true_and, Bool.and_self, Bool.not_false, Bool.not_true, decide_true, decide_false, and_self, and_true, true_and, Bool.false_eq_true, ge_iff_le, gt_iff_lt, st_v, q6, get]
  rw [sq_nm (rg_ok hrg)]
  by_cases hgt : (hs1.length : Int) - 16 > 0
  ·rw [ff_t (by simp [rd, get, st_v]; omega), rg_ok (r45c (n := (hs1.length : Int) - 16) (by simp [get, q0]) (by simp [get, q6]) hgt (by omega) hbM), sb_sb, show ((hs1.length : Int) - 16).toNat = hs1.length - 16 by omega]
   exact ⟨_, rfl, by simp [get, q0], by simp [get, q1]⟩
  ·rw [ff_f (by simp [rd, get, st_v]; omega)]
   have hcut : cutE hs1 = hs1 := by unfold cutE; rw [show hs1.length - 16 = 0 by omega]; rfl
   rw [hcut]
   exact ⟨_, rfl, by simp [get, q0], by simp [get, q1]⟩
 have hbN : lk b (sb b [.v (.int .u32 nx), .sl .mu 6 es, .sl .mu 2 (cutE hs1)] L) = some [.v (.int .u32 nx), .sl .mu 6 es, .sl .mu 2 (cutE hs1)] := by rw [lk_sb, if_pos rfl, hb]; rfl
 obtain ⟨e4, h4⟩ := r45d p0 p1 hlt hle hbN
 rw [sb_sb] at h4
 refine ⟨e4, ?_⟩
 unfold c45
 rw [sq_nm ha, sq_nm ((sq_nm hb2).trans h3), rg_ok h4]
theorem x45 {H : D} (hH : H = .sl .mu 2 hs ∨ (hs = [] ∧ ∃ zz, H = .sl .nl zz [])) (hb : lk b L = some [.v (.int .u32 nx), .sl .mu 6 es, H]) (h1 : lk 500001 L = none) (h2 : lk 500002 L = none) (hk1 : klL B.length 500001 L = L) (hk2 : klL B.length 500002 L = L) (he : ElZ 6 es) (hh : ElZ 2 hs) (hi : es[i]? = some (.agg (.v (.int .u32 num) :: cs))) (hlen : (hs.length + 1) * 16 <= 140737488355328) (hle : (es.length : Int) <= 140737488355328) :
  EF pg 45 [.ptr B.length b 0, .v (.int .i64 i), .v (.int .i64 code)] (B ++ [L]) = some (.tup [], B ++ [sb b [.v (.int .u32 nx), .sl .mu 6 (es.take i ++ es.drop (i + 1)), .sl .mu 2 (cutE (hs ++ [.agg [.v (.int .u32 num), .v (.int .i64 code)]]))] L]) := by
 obtain ⟨E, hE⟩ := b45 (code := code) hH hb h1 h2 hk1 hk2 he hh hi hlen hle
 rw [EF_eq]
 have hE' : evC (EF pg) F45.body ⟨argE 0 [.ptr B.length b 0, .v (.int .i64 i), .v (.int .i64 code)], [], B ++ [L]⟩ = _ := hE
 simp only [runF, p45]
 rw [show F45.rnd = none from rfl]
 simp only
 rw [if_pos ⟨by simp [F45], by rfl⟩, hE']
 simp [F45, resL, mkRes, D.strip]
end
end Go.Proofs.Ytlhjdikklmkihaa.Ev.U
set_option maxRecDepth 100000
namespace Go.Proofs.Ytlhjdikklmkihaa.Ev.U
open Go
theorem call_v {k : Nat} {a : AK} {ak : List AK} {r : Ty} {f : (Sg.mk (a :: ak) r).aT.T -> Option (Sg.mk (a :: ak) r).oT.T} (o : TOK (EF pg) k (.par ⟨a :: ak, r⟩ f)) (hv : ∀ b ∈ a :: ak, ∃ τ, b = .v τ) (ht : (Sg.mk (a :: ak) r).aT.tupk = true)
  {F : List Fx} (n : Nat) (hlt : ∀ x ∈ F, x.f < n) {x : (Sg.mk (a :: ak) r).aT.T} {ds : List D} (hl : ds.length = (a :: ak).length) (hr : RepL (EF pg) (Sg.mk (a :: ak) r).aT F x ds) {y : (Sg.mk (a :: ak) r).oT.T} (hy : f x = some y) :
  ∃ d, Rep4 (c0 (EF pg)) (outW r (xsOf (a :: ak)) y).1 d ∧ ∀ B : List Bx, B.length = n -> Sat F B -> EF pg k ds B = some (d, B) := by
 have hok : Cx.ok ⟨EF pg, F, n, [], fun _ => []⟩ := ⟨(fun r h => by cases h), (fun i j r q h => by simp at h), fun x h => ⟨hlt x h, fun r h => by cases h⟩⟩
 have hw := tupW_ok (c := ⟨EF pg, F, n, [], fun _ => []⟩) ht hr
 have harg := argl_v (c' := ⟨EF pg, F, n, [], fun _ => []⟩) hv (by rw [<- hl, hw.length]) hw
 obtain ⟨d, Y', r1, r2, r3⟩ := o.1 F n [] (fun _ => []) [] hok (fun i r ys h => by simp at h) x ds harg y hy
 refine ⟨d, r1, fun B hB hF => ?_⟩
 have := r3 B ⟨hB, hF, (fun r h => by cases h), (fun i r h => by simp at h)⟩ (fun i r ys h => by simp at h)
 rw [this]
 cases Y' <;> rfl
theorem c20 {x : FileOut} {d : D} (hd : RepL (EF pg) YFileOut [] x [d]) {y : Int} (hy : g20 x = some y) (B : List Bx) : EF pg 20 [d] B = some (.v (.int .i64 y), B) := by
 obtain ⟨d', h1, h2⟩ := call_v (r := .i .i64) o20 (by simp) rfl B.length (fun x h => by cases h) (x := x) rfl hd hy
 obtain ⟨rfl, _⟩ := i_d h1.2
 exact h2 B rfl (Sat.nil B)
theorem c20k {x : FileOut} {d : D} (hd : RepL (EF pg) YFileOut [] x [d]) {y : Int} (hy : g20 x = some y) : inK .i64 y = true := by
 obtain ⟨d', h1, h2⟩ := call_v (r := .i .i64) o20 (by simp) rfl 0 (fun x h => by cases h) (x := x) rfl hd hy
 exact (i_d h1.2).2
theorem c33 {x : FileOut} {d : D} (hd : RepL (EF pg) YFileOut [] x [d]) {y : Int × List Outgoing × List Ended} (hy : g33 x = some y) (n : Nat) :
  ∃ d', RepL (EF pg) (.g (.p (.i .u32) (.p (.l .mu YOutgoing) (.l .mu YEnded)))) [] y [d'] ∧ ∀ B : List Bx, B.length = n -> EF pg 33 [d] B = some (d', B) := by
 obtain ⟨d', h1, h2⟩ := call_v (r := .g (.p (.i .u32) (.p (.l .mu YOutgoing) (.l .mu YEnded)))) o33 (by simp) rfl n (fun x h => by cases h) (x := x) rfl hd hy
 exact ⟨d', val_inv (c := c0 (EF pg)) (τ := .g (.p (.i .u32) (.p (.l .mu YOutgoing) (.l .mu YEnded)))) rfl h1, fun B hB => h2 B hB (Sat.nil B)⟩
theorem c42 {x lo hi : Int} (B : List Bx) : EF pg 42 [.v (.int .i64 x), .v (.int .i64 lo), .v (.int .i64 hi)] B = some (.v (.bool (h42 x lo hi)), B) := by
 rw [EF_eq]
 by_cases h : lo <= x
 ·simp [runF, evC, evOps, evStp, evOp, rd, rdL, rds, get, put, putO, argE, res1, resL, mkRes, doCall, unsnoc_append, S.wl, S.wo, lk, ins, sb, bx, sbx, pick, over, D.strip, D.strip2, D.strip1, D.tupB, D.cells, D.bnd2, D.bnd1, D.frz2, D.frz1, D.frzP, D.sto1, Value.oneCell', zc, bz, Tc.er, TStp.er, u_, ug_, s_, g_, n_, List.map_cons, List.map_nil, List.all_cons, List.all_nil, List.length_cons, List.length_nil, List.drop_succ_cons, List.drop_zero, List.take_succ_cons, List.take_zero, List.nil_append, List.cons_append, List.append_nil, List.getElem?_cons_succ, List.getElem?_cons_zero, Option.bind_some, Option.map_some, D.capB, dwnA, Nat.reduceEqDiff, Nat.reduceAdd, Nat.reduceLeDiff, Nat.reduceSub, Nat.reduceLT, Nat.reduceMul, Nat.zero_add, Nat.add_zero, reduceCtorEq, ↓reduceIte, Bool.and_true, Bool.true_and, Bool.and_self, Bool.not_false, Bool.not_true, decide_true, decide_false, and_self, and_true, true_and, Bool.false_eq_true, ge_iff_le, gt_iff_lt, p42, F42, T42, h42, h]
 ·simp [runF, evC, evOps, evStp, evOp, rd, rdL, rds, get, put, putO, argE, res1, resL, mkRes, doCall, unsnoc_append, S.wl, S.wo, lk, ins, sb, bx, sbx, pick, over, D.strip, D.strip2, D.strip1, D.tupB, D.cells, D.bnd2, D.bnd1, D.frz2, D.frz1, D.frzP, D.sto1, Value.oneCell', zc, bz, Tc.er, TStp.er, u_, ug_, s_, g_, n_, List.map_cons, List.map_nil, List.all_cons, List.all_nil, List.length_cons, List.length_nil, List.drop_succ_cons, List.drop_zero, List.take_succ_cons, List.take_zero, List.nil_append, List.cons_append, List.append_nil, List.getElem?_cons_succ, List.getElem?_cons_zero, Option.bind_some, Option.map_some, D.capB, dwnA, Nat.reduceEqDiff, Nat.reduceAdd, Nat.reduceLeDiff, Nat.reduceSub, Nat.reduceLT, Nat.reduceMul, Nat.zero_add, Nat.add_zero, reduceCtorEq, ↓reduceIte, Bool.and_true, Bool.true_and, Bool.and_self, Bool.not_false, Bool.not_true, decide_true, decide_false, and_self, and_true, true_and, Bool.false_eq_true, ge_iff_le, gt_iff_lt, p42, F42, T42, h42, h]
theorem x44 {k : Nat} {B : List Bx} {L : Bx} {n d s u num fr : Int} {nm : ByteArray} {m : Mode} {z : Nat} {xs : List D} (hk : k < B.length) (hL : B[k]? = some L) {q6 q5 : List D} (h6 : lk 6 L = some (.v (.int .u32 num) :: q6)) (h5 : lk 5 L = some (.v (.int .i64 fr) :: q5)) (hm : m = .ro ∨ m = .nl) :
  EF pg 44 [.agg [.v (.int .u32 n), .v (.int .i64 d), .v (.string nm), .sl m z xs, .v (.int .i64 s), .v (.int .i64 u)], .ptr k 6 0, .ptr k 5 0] B = some (.v (.bool (if n == num then d == fr else false)), B) := by
 have hne : ¬ k = B.length := by omega
 rw [EF_eq]
 by_cases h : n = num
 ·rcases hm with rfl | rfl <;> simp [runF, evC, evOps, evStp, evOp, rd, rdL, rds, get, put, putO, argE, res1, resL, mkRes, doCall, unsnoc_append, S.wl, S.wo, lk, ins, sb, bx, sbx, pick, over, D.strip, D.strip2, D.strip1, D.tupB, D.cells, D.bnd2, D.bnd1, D.frz2, D.frz1, D.frzP, D.sto1, Value.oneCell', zc, bz, Tc.er, TStp.er, u_, ug_, s_, g_, n_, List.map_cons, List.map_nil, List.all_cons, List.all_nil, List.length_cons, List.length_nil, List.drop_succ_cons, List.drop_zero, List.take_succ_cons, List.take_zero, List.nil_append, List.cons_append, List.append_nil, List.getElem?_cons_succ, List.getElem?_cons_zero, Option.bind_some, Option.map_some, D.capB, dwnA, Nat.reduceEqDiff, Nat.reduceAdd, Nat.reduceLeDiff, Nat.reduceSub, Nat.reduceLT, Nat.reduceMul, Nat.zero_add, Nat.add_zero, reduceCtorEq, ↓reduceIte, Bool.and_true, Bool.true_and, Bool.and_self, Bool.not_false, Bool.not_true, decide_true, decide_false, and_self, and_true, true_and, Bool.false_eq_true, ge_iff_le, gt_iff_lt, p44, F44, T44, hne, hL, h6, h5, h]
 ·rcases hm with rfl | rfl <;> simp [runF, evC, evOps, evStp, evOp, rd, rdL, rds, get, put, putO, argE, res1, resL, mkRes, doCall, unsnoc_append, S.wl, S.wo, lk, ins, sb, bx, sbx, pick, over, D.strip, D.strip2, D.strip1, D.tupB, D.cells, D.bnd2, D.bnd1, D.frz2, D.frz1, D.frzP, D.sto1, Value.oneCell', zc, bz, Tc.er, TStp.er, u_, ug_, s_, g_, n_, List.map_cons, List.map_nil, List.all_cons, List.all_nil, List.length_cons, List.length_nil, List.drop_succ_cons, List.drop_zero, List.take_succ_cons, List.take_zero, List.nil_append, List.cons_append, List.append_nil, List.getElem?_cons_succ, List.getElem?_cons_zero, Option.bind_some, Option.map_some, D.capB, dwnA, Nat.reduceEqDiff, Nat.reduceAdd, Nat.reduceLeDiff, Nat.reduceSub, Nat.reduceLT, Nat.reduceMul, Nat.zero_add, Nat.add_zero, reduceCtorEq, ↓reduceIte, Bool.and_true, Bool.true_and, Bool.and_self, Bool.not_false, Bool.not_true, decide_true, decide_false, and_self, and_true, true_and, Bool.false_eq_true, ge_iff_le, gt_iff_lt, p44, F44, T44, hne, hL, h6, h5, h]
theorem x46 {B : List Bx} {n d s u now : Int} {nm : ByteArray} {m : Mode} {z : Nat} {xs : List D} (hm : m = .ro ∨ m = .nl) :
  EF pg 46 [.agg [.v (.int .u32 n), .v (.int .i64 d), .v (.string nm), .sl m z xs, .v (.int .i64 s), .v (.int .i64 u)], .fptr [.v (.int .i64 now)] 0] B = some (.v (.bool (decide (u <= now))), B) := by
 rw [EF_eq]
 rcases hm with rfl | rfl <;> simp [runF, evC, evOps, evStp, evOp, rd, rdL, rds, get, put, putO, argE, res1, resL, mkRes, doCall, unsnoc_append, S.wl, S.wo, lk, ins, sb, bx, sbx, pick, over, D.strip, D.strip2, D.strip1, D.tupB, D.cells, D.bnd2, D.bnd1, D.frz2, D.frz1, D.frzP, D.sto1, Value.oneCell', zc, bz, Tc.er, TStp.er, u_, ug_, s_, g_, n_, List.map_cons, List.map_nil, List.all_cons, List.all_nil, List.length_cons, List.length_nil, List.drop_succ_cons, List.drop_zero, List.take_succ_cons, List.take_zero, List.nil_append, List.cons_append, List.append_nil, List.getElem?_cons_succ, List.getElem?_cons_zero, Option.bind_some, Option.map_some, D.capB, dwnA, Nat.reduceEqDiff, Nat.reduceAdd, Nat.reduceLeDiff, Nat.reduceSub, Nat.reduceLT, Nat.reduceMul, Nat.zero_add, Nat.add_zero, reduceCtorEq, ↓reduceIte, Bool.and_true, Bool.true_and, Bool.and_self, Bool.not_false, Bool.not_true, decide_true, decide_false, and_self, and_true, true_and, Bool.false_eq_true, ge_iff_le, gt_iff_lt, p46, F46, T46]
theorem out_rep {o : Outgoing} {F : List Fx} {d : D} (h : RepL (EF pg) YOutgoing F o [d]) : ∃ nm m z xs, d = .agg [.v (.int .u32 o.1), .v (.int .i64 o.2.1), .v (.string nm), .sl m z xs, .v (.int .i64 o.2.2.2.2.1), .v (.int .i64 o.2.2.2.2.2)] ∧ (m = .ro ∨ m = .nl) := by
 obtain ⟨_, cs, hcs, hrow⟩ := h
 injection hcs with hcs
 subst hcs
 obtain ⟨a, b, c, e, f, g⟩ := o
 obtain ⟨_, d1, q, rfl, r1, hrow⟩ := hrow
 obtain ⟨_, d2, q, rfl, r2, hrow⟩ := hrow
 obtain ⟨_, d3, q, rfl, r3, hrow⟩ := hrow
 obtain ⟨_, d4, q, rfl, r4, hrow⟩ := hrow
 obtain ⟨_, d5, q, rfl, r5, hrow⟩ := hrow
 obtain ⟨d6, hd6⟩ : ∃ d, q = [d] := one_sing rfl hrow
 subst hd6
 obtain ⟨rfl, _⟩ := i_d r1
 obtain ⟨rfl, _⟩ := i_d r2
 obtain ⟨rfl, _⟩ := s_d r3
 obtain ⟨rfl, _⟩ := i_d r5
 obtain ⟨rfl, _⟩ := i_d hrow
 obtain ⟨_, es, _, h4⟩ := l_d r4
 rcases h4 with rfl | ⟨rfl, z, rfl⟩
 ·exact ⟨_, _, _, _, rfl, .inl rfl⟩
 ·exact ⟨_, _, _, _, rfl, .inr rfl⟩
theorem end_rep {o : Ended} {F : List Fx} {d : D} (h : RepL (EF pg) YEnded F o [d]) : d = .agg [.v (.int .u32 o.1), .v (.int .i64 o.2)] ∧ inK .u32 o.1 = true ∧ inK .i64 o.2 = true := by
 obtain ⟨_, cs, hcs, hrow⟩ := h
 injection hcs with hcs
 subst hcs
 obtain ⟨a, b⟩ := o
 obtain ⟨_, d1, q, rfl, r1, hrow⟩ := hrow
 obtain ⟨d6, hd6⟩ : ∃ d, q = [d] := one_sing rfl hrow
 subst hd6
 obtain ⟨rfl, k1⟩ := i_d r1
 obtain ⟨rfl, k2⟩ := i_d hrow
 exact ⟨rfl, k1, k2⟩
theorem All2.mem_r {α β : Type} {R : α -> β -> Prop} : ∀ {xs : List α} {ys : List β}, All2 R xs ys -> ∀ y ∈ ys, ∃ x, x ∈ xs ∧ R x y
 | [], [], _, y, h => by cases h
 | [], _ :: _, h, _, _ => h.elim
 | _ :: _, [], h, _, _ => h.elim
 | a :: xs, b :: ys, h, y, hy => by
  rcases List.mem_cons.1 hy with rfl | hy
  ·exact ⟨a, by simp, h.1⟩
  ·obtain ⟨x, q1, q2⟩ := All2.mem_r h.2 y hy
   exact ⟨x, by simp [q1], q2⟩
theorem out_el {F : List Fx} {ys : List Outgoing} {es : List D} (h : All2 (fun y e => RepL (EF pg) YOutgoing F y [e]) ys es) : ElZ 6 es := ⟨fun d hd => by
 obtain ⟨o, _, ho⟩ := All2.mem_r h d hd
 obtain ⟨nm, m, z, xs, rfl, hm⟩ := out_rep ho
 exact ⟨_, rfl, rfl, by rcases hm with rfl | rfl <;> rfl⟩⟩
theorem end_el {F : List Fx} {ys : List Ended} {es : List D} (h : All2 (fun y e => RepL (EF pg) YEnded F y [e]) ys es) : ElZ 2 es := ⟨fun d hd => by
 obtain ⟨o, _, ho⟩ := All2.mem_r h d hd
 obtain ⟨rfl, _⟩ := end_rep ho
 exact ⟨_, rfl, rfl, rfl⟩⟩
theorem c34a {ys : List Outgoing} {dl : D} (hd : RepL (EF pg) (.l .ro YOutgoing) [] ys [dl]) {num fr : Int} {B : List Bx} {L : Bx} (h6 : lk 6 L = some [.v (.int .u32 num)]) (h5 : lk 5 L = some [.v (.int .i64 fr)]) {y : Int} (hy : g34 ys (fun o => some (h44 o num fr)) = some y) :
  EF pg 34 [dl, .clo 44 [.ptr B.length 6 0, .ptr B.length 5 0]] (B ++ [L]) = some (.v (.int .i64 y), B ++ [L]) := by
 let F : List Fx := [⟨B.length, 6, 0, [.v (.int .u32 num)]⟩, ⟨B.length, 5, 0, [.v (.int .i64 fr)]⟩]
 have hF : Sat F (B ++ [L]) := by
  intro x hx
  simp only [F, List.mem_cons, List.not_mem_nil, or_false] at hx
  rcases hx with rfl | rfl
  ·exact ⟨L, _, get_last, h6, by simp, rfl⟩
  ·exact ⟨L, _, get_last, h5, by simp, rfl⟩
 have hfn : RepL (EF pg) (.fn YOutgoing .b) F (fun o => some (h44 o num fr)) [.clo 44 [.ptr B.length 6 0, .ptr B.length 5 0]] := by
  refine ⟨44, _, rfl, fun d hd => ?_, fun x ak hak yy hyy n hn => ?_⟩
  ·simp only [List.mem_cons, List.not_mem_nil, or_false] at hd
   rcases hd with rfl | rfl
   ·exact ⟨_, List.mem_cons_self, rfl⟩
   ·exact ⟨_, List.mem_cons_self, rfl⟩
  ·obtain ⟨d, rfl⟩ : ∃ d, ak = [d] := by obtain ⟨_, cs, q, _⟩ := hak; exact ⟨_, q⟩
   obtain ⟨nm, m, z, xs, rfl, hm⟩ := out_rep hak
   have hyy := Option.some.inj hyy
   subst hyy
   refine ⟨_, [.v (.bool (h44 x num fr))], rfl, rfl, fun B' hB' hs => ?_⟩
   obtain ⟨L1, cs1, a1, a2, a3, a4⟩ := hs ⟨B.length, 6, 0, [.v (.int .u32 num)]⟩ (by simp [F])
   obtain ⟨L2, cs2, b1, b2, b3, b4⟩ := hs ⟨B.length, 5, 0, [.v (.int .i64 fr)]⟩ (by simp [F])
   have := a1.symm.trans b1
   injection this with this
   subst this
   have hk : B.length < B'.length := getq_lt a1
   obtain ⟨q6, rfl⟩ : ∃ q, cs1 = .v (.int .u32 num) :: q := by
    cases cs1 with
    | nil => cases a4
    | cons c r => simp at a4; exact ⟨r, by rw [a4]⟩
   obtain ⟨q5, rfl⟩ : ∃ q, cs2 = .v (.int .i64 fr) :: q := by
    cases cs2 with
    | nil => cases b4
    | cons c r => simp at b4; exact ⟨r, by rw [b4]⟩
   exact x44 hk a1 a2 b2 hm
 obtain ⟨d', h1, h2⟩ := call_v (r := .i .i64) o34 (by simp) rfl (B ++ [L]).length (fun x h => by simp [F] at h; rcases h with rfl | rfl <;> simp) (x := (ys, fun o => some (h44 o num fr))) (ds := [dl, .clo 44 [.ptr B.length 6 0, .ptr B.length 5 0]]) rfl ⟨⟨rfl, rfl⟩, dl, _, rfl, RepL.up (fun x h => by cases h) hd, hfn⟩ hy
 obtain ⟨rfl, _⟩ := i_d h1.2
 exact h2 _ rfl hF
theorem c34b {ys : List Outgoing} {dl : D} (hd : RepL (EF pg) (.l .ro YOutgoing) [] ys [dl]) {now : Int} {B : List Bx} {y : Int} (hy : g34 ys (fun o => some (h46 o now)) = some y) :
  EF pg 34 [dl, .clo 46 [.fptr [.v (.int .i64 now)] 0]] B = some (.v (.int .i64 y), B) := by
 have hfn : RepL (EF pg) (.fn YOutgoing .b) [] (fun o => some (h46 o now)) [.clo 46 [.fptr [.v (.int .i64 now)] 0]] := by
  refine ⟨46, _, rfl, fun d hd => ?_, fun x ak hak yy hyy n hn => ?_⟩
  ·simp only [List.mem_cons, List.not_mem_nil, or_false] at hd
   subst hd
   trivial
  ·obtain ⟨d, rfl⟩ : ∃ d, ak = [d] := by obtain ⟨_, cs, q, _⟩ := hak; exact ⟨_, q⟩
   obtain ⟨nm, m, z, xs, rfl, hm⟩ := out_rep hak
   have hyy := Option.some.inj hyy
   subst hyy
   exact ⟨_, [.v (.bool (h46 x now))], rfl, rfl, fun B' hB' hs => x46 hm⟩
 obtain ⟨d', h1, h2⟩ := call_v (r := .i .i64) o34 (by simp) rfl B.length (fun x h => by cases h) (x := (ys, fun o => some (h46 o now))) (ds := [dl, .clo 46 [.fptr [.v (.int .i64 now)] 0]]) rfl ⟨⟨rfl, rfl⟩, dl, _, rfl, hd, hfn⟩ hy
 obtain ⟨rfl, _⟩ := i_d h1.2
 exact h2 _ rfl (Sat.nil B)
end Go.Proofs.Ytlhjdikklmkihaa.Ev.U
