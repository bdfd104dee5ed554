/- The functions as plain ones. Conditions: none. -/
import Derived.Test.YtmbhpchkhilheaaFt15
set_option linter.all false
namespace Go.Proofs.Ytmbhpchkhilheaa.Ev.U
open Go
/-- heliograph/heliographlaw15.large -/
noncomputable def h9 (a0 : Taking) (a1 : Segment) : Bool :=
(if (if (if (decide ((a0.2.2.2.1.length : Int) > (5000 : Int))) then true else (decide ((a0.2.2.2.2.1.length : Int) > (2000 : Int)))) then true else (decide ((a1.2.2.2.2.2.2.2.2.2.2.2.1.length : Int) > (5000 : Int)))) then true else (decide ((a1.2.2.2.2.2.2.2.2.2.2.2.2.length : Int) > (2000 : Int))))
noncomputable def tf9 : TF := .tot ⟨[.v YTaking, .v YSegment], .b⟩ (fun x => h9 x.1 x.2)
theorem e9 : evFn (tabU []) ⟨F9.res, F9.keep, tf9.sg⟩ T9 = fun x => some (h9 x.1 x.2) := by kernel_rfl
theorem o9 : TOK (EF pg) 9 tf9 := tok_of p9 rfl (tabU_nil) ⟨rfl, rfl, by decide⟩ rfl fun x y h => (congrFun e9 x).trans h
/-- heliograph/heliographlaw15.copied -/
noncomputable def g12 (a0 : Taking) : Option Taking :=
(apd 1 [] a0.2.2.2.1).bind fun y1 =>
(apd 16 [] a0.2.2.2.2.1).bind fun y2 =>
some (a0.1, a0.2.1, a0.2.2.1, y1, y2, a0.2.2.2.2.2.1, a0.2.2.2.2.2.2.1, a0.2.2.2.2.2.2.2.1, a0.2.2.2.2.2.2.2.2)
noncomputable def tf12 : TF := .par ⟨[.v YTaking], YTaking⟩ (fun x => g12 x)
theorem e12 : evFn (tabU []) ⟨F12.res, F12.keep, tf12.sg⟩ T12 = fun x => g12 x := by kernel_rfl
theorem o12 : TOK (EF pg) 12 tf12 := tok_of p12 rfl (tabU_nil) ⟨rfl, rfl, by decide⟩ rfl fun x y h => (congrFun e12 x).trans h
/-- heliograph/heliographref15.In -/
noncomputable def g17x0 (s : (List Claim) × Int × Int) : Option (((List Claim) × Int × Int) ⊕ (Unit ⊕ Bool)) :=
if (decide (s.2.2 < (s.1.length : Int))) then
((idx s.1 s.2.2).bind fun y3 =>
let x4 := decide (s.2.1 ≥ y3.1)
(if x4 then idx s.1 s.2.2 else some ((0 : Int), (0 : Int))).bind fun y5 =>
(if x4 then idx s.1 s.2.2 else some ((0 : Int), (0 : Int))).bind fun y6 =>
if (if x4 then (decide (s.2.1 < (IntKind.i64.wrap (y5.1 + y6.2)))) else false) then
(some (Sum.inr (Sum.inr (true))))
else
(
some (Sum.inl (s.1, s.2.1, (IntKind.i64.wrap (s.2.2 + (1 : Int)))))))
else
(some (Sum.inr (Sum.inl ())))
noncomputable def g17 (a0 : List Claim) (a1 : Int) : Option Bool :=
(lpU g17x0 (a0, a1, (0 : Int))).bind fun z11 =>
match z11 with
| Sum.inl z12 => (some false)
| Sum.inr z13 => (some z13)
noncomputable def tf17 : TF := .par ⟨[.v (.l .ro YClaim), .v (.i .i64)], .b⟩ (fun x => g17 x.1 x.2)
theorem e17 : evFn (tabU []) ⟨F17.res, F17.keep, tf17.sg⟩ T17 = fun x => g17 x.1 x.2 := by kernel_rfl
theorem o17 : TOK (EF pg) 17 tf17 := tok_of p17 rfl (tabU_nil) ⟨rfl, rfl, by decide⟩ rfl fun x y h => (congrFun e17 x).trans h
/-- heliograph/heliographref01.Same -/
noncomputable def g18x0 (s : (List Int) × (List Int) × Int) : Option (((List Int) × (List Int) × Int) ⊕ (Unit ⊕ Bool)) :=
if (decide (s.2.2 < (s.1.length : Int))) then
((idx s.1 s.2.2).bind fun y6 =>
(idx s.2.1 s.2.2).bind fun y7 =>
if (y6 != y7) then
(some (Sum.inr (Sum.inr (false))))
else
(
some (Sum.inl (s.1, s.2.1, (IntKind.i64.wrap (s.2.2 + (1 : Int)))))))
else
(some (Sum.inr (Sum.inl ())))
noncomputable def g18 (a0 : List Int) (a1 : List Int) : Option Bool :=
if ((a0.length : Int) != (a1.length : Int)) then
(some false)
else
((lpU g18x0 (a0, a1, (0 : Int))).bind fun z10 =>
match z10 with
| Sum.inl z11 => (some true)
| Sum.inr z12 => (some z12))
noncomputable def tf18 : TF := .par ⟨[.v (.l .ro (.i .u8)), .v (.l .ro (.i .u8))], .b⟩ (fun x => g18 x.1 x.2)
theorem e18 : evFn (tabU []) ⟨F18.res, F18.keep, tf18.sg⟩ T18 = fun x => g18 x.1 x.2 := by kernel_rfl
theorem o18 : TOK (EF pg) 18 tf18 := tok_of p18 rfl (tabU_nil) ⟨rfl, rfl, by decide⟩ rfl fun x y h => (congrFun e18 x).trans h
/-- heliograph/heliographref15.Same -/
noncomputable def g11x0 (s : Int × Int × Int × Int × (List Int) × (List Claim) × Int × Int × Int × Int × Int × Int × Int × (List Int) × (List Claim) × Int × Int × Int × Int) : Option ((Int × Int × Int × Int × (List Int) × (List Claim) × Int × Int × Int × Int × Int × Int × Int × (List Int) × (List Claim) × Int × Int × Int × Int) ⊕ (Unit ⊕ Bool)) :=
if (decide (s.1 < (s.2.2.2.2.2.1.length : Int))) then
((idx s.2.2.2.2.2.1 s.1).bind fun y23 =>
(idx s.2.2.2.2.2.2.2.2.2.2.2.2.2.2.1 s.1).bind fun y24 =>
if (!((y23.1 == y24.1) && ((y23.2 == y24.2) && (true)))) then
(some (Sum.inr (Sum.inr (false))))
else
(
some (Sum.inl ((IntKind.i64.wrap (s.1 + (1 : Int))), s.2.1, s.2.2.1, s.2.2.2.1, s.2.2.2.2.1, s.2.2.2.2.2.1, s.2.2.2.2.2.2.1, s.2.2.2.2.2.2.2.1, s.2.2.2.2.2.2.2.2.1, s.2.2.2.2.2.2.2.2.2.1, s.2.2.2.2.2.2.2.2.2.2.1, s.2.2.2.2.2.2.2.2.2.2.2.1, s.2.2.2.2.2.2.2.2.2.2.2.2.1, s.2.2.2.2.2.2.2.2.2.2.2.2.2.1, s.2.2.2.2.2.2.2.2.2.2.2.2.2.2.1, s.2.2.2.2.2.2.2.2.2.2.2.2.2.2.2.1, s.2.2.2.2.2.2.2.2.2.2.2.2.2.2.2.2.1, s.2.2.2.2.2.2.2.2.2.2.2.2.2.2.2.2.2.1, s.2.2.2.2.2.2.2.2.2.2.2.2.2.2.2.2.2.2))))
else
(some (Sum.inr (Sum.inl ())))
noncomputable def g11 (a0 : Taking) (a1 : Taking) : Option Bool :=
let x5 := if (if (a0.1 != a1.1) then true else (a0.2.1 != a1.2.1)) then true else (a0.2.2.1 != a1.2.2.1)
(if (!x5) then g18 a0.2.2.2.1 a1.2.2.2.1 else some false).bind fun y6 =>
if (if (if (if (if (if (if x5 then true else (!y6)) then true else ((a0.2.2.2.2.1.length : Int) != (a1.2.2.2.2.1.length : Int))) then true else (a0.2.2.2.2.2.1 != a1.2.2.2.2.2.1)) then true else (a0.2.2.2.2.2.2.1 != a1.2.2.2.2.2.2.1)) then true else (a0.2.2.2.2.2.2.2.1 != a1.2.2.2.2.2.2.2.1)) then true else (a0.2.2.2.2.2.2.2.2 != a1.2.2.2.2.2.2.2.2)) then
(some false)
else
((lpU g11x0 ((0 : Int), a0.1, a0.2.1, a0.2.2.1, a0.2.2.2.1, a0.2.2.2.2.1, a0.2.2.2.2.2.1, a0.2.2.2.2.2.2.1, a0.2.2.2.2.2.2.2.1, a0.2.2.2.2.2.2.2.2, a1.1, a1.2.1, a1.2.2.1, a1.2.2.2.1, a1.2.2.2.2.1, a1.2.2.2.2.2.1, a1.2.2.2.2.2.2.1, a1.2.2.2.2.2.2.2.1, a1.2.2.2.2.2.2.2.2)).bind fun z27 =>
match z27 with
| Sum.inl z28 => (some true)
| Sum.inr z29 => (some z29))
noncomputable def tf11 : TF := .par ⟨[.v YTaking, .v YTaking], .b⟩ (fun x => g11 x.1 x.2)
theorem e11 : evFn (tabU [(18, tf18)]) ⟨F11.res, F11.keep, tf11.sg⟩ T11 = fun x => g11 x.1 x.2 := by kernel_rfl
theorem o11 : TOK (EF pg) 11 tf11 := tok_of p11 rfl (tabU_cons o18 (tabU_nil)) ⟨rfl, rfl, by decide⟩ rfl fun x y h => (congrFun e11 x).trans h
/-- heliograph/segment.Forward -/
noncomputable def g21 (a0 : Segment) : Option Bool :=
let x1 := a0.1 == (1 : Int)
if x1 then
(if x1 then
(some true)
else
(some false))
else
(let x2 := a0.1 == (3 : Int)
if x2 then
(if x2 then
(some true)
else
(some false))
else
(let x3 := a0.1 == (4 : Int)
if x3 then
(if x3 then
(some true)
else
(some false))
else
(
if (a0.1 == (7 : Int)) then
(some true)
else
(some false))))
noncomputable def tf21 : TF := .par ⟨[.v YSegment], .b⟩ (fun x => g21 x)
theorem e21 : evFn (tabU []) ⟨F21.res, F21.keep, tf21.sg⟩ T21 = fun x => g21 x := by kernel_rfl
theorem o21 : TOK (EF pg) 21 tf21 := tok_of p21 rfl (tabU_nil) ⟨rfl, rfl, by decide⟩ rfl fun x y h => (congrFun e21 x).trans h
/-- slices.Equal[[]heliograph/api.Claim,heliograph/api.Claim] -/
noncomputable def g31x0 (s : (List Claim) × (List Claim) × Int × Int) : Option (((List Claim) × (List Claim) × Int × Int) ⊕ (Unit ⊕ Bool)) :=
if (decide (s.2.2.2 < s.2.2.1)) then
((idx s.1 s.2.2.2).bind fun y6 =>
(idx s.2.1 s.2.2.2).bind fun y7 =>
if (!((y6.1 == y7.1) && ((y6.2 == y7.2) && (true)))) then
(some (Sum.inr (Sum.inr (false))))
else
(
some (Sum.inl (s.1, s.2.1, s.2.2.1, (IntKind.i64.wrap (s.2.2.2 + (1 : Int)))))))
else
(some (Sum.inr (Sum.inl ())))
noncomputable def g31 (a0 : List Claim) (a1 : List Claim) : Option Bool :=
if ((a0.length : Int) != (a1.length : Int)) then
(some false)
else
(
(lpU g31x0 (a0, a1, (a0.length : Int), (0 : Int))).bind fun z10 =>
match z10 with
| Sum.inl z11 => (some true)
| Sum.inr z12 => (some z12))
noncomputable def tf31 : TF := .par ⟨[.v (.l .ro YClaim), .v (.l .ro YClaim)], .b⟩ (fun x => g31 x.1 x.2)
theorem e31 : evFn (tabU []) ⟨F31.res, F31.keep, tf31.sg⟩ T31 = fun x => g31 x.1 x.2 := by kernel_rfl
theorem o31 : TOK (EF pg) 31 tf31 := tok_of p31 rfl (tabU_nil) ⟨rfl, rfl, by decide⟩ rfl fun x y h => (congrFun e31 x).trans h
/-- heliograph/receiver.whole -/
noncomputable def g32 (a0 : Taking) : Option Bool :=
let x2 := (a0.2.2.2.2.1.length : Int) == (1 : Int)
(if x2 then idx a0.2.2.2.2.1 (0 : Int) else some ((0 : Int), (0 : Int))).bind fun y3 =>
some (if x2 then ((y3.1 == (0 : Int)) && ((y3.2 == a0.2.2.1) && (true))) else false)
noncomputable def tf32 : TF := .par ⟨[.v YTaking], .b⟩ (fun x => g32 x)
theorem e32 : evFn (tabU []) ⟨F32.res, F32.keep, tf32.sg⟩ T32 = fun x => g32 x := by kernel_rfl
theorem o32 : TOK (EF pg) 32 tf32 := tok_of p32 rfl (tabU_nil) ⟨rfl, rfl, by decide⟩ rfl fun x y h => (congrFun e32 x).trans h
/-- slices.Clone[[]byte,byte] -/
noncomputable def g33 (a0 : List Int) : Option (List Int) :=
amb (List.isEmpty a0) false fun y1 =>
if y1 then
(some [])
else
((apd 1 [] a0).bind fun y2 =>
some y2)
noncomputable def tf33 : TF := .par ⟨[.v (.l .ro (.i .u8))], (.l .mu (.i .u8))⟩ (fun x => g33 x)
theorem e33 : evFn (tabU []) ⟨F33.res, F33.keep, tf33.sg⟩ T33 = fun x => g33 x := by kernel_rfl
theorem o33 : TOK (EF pg) 33 tf33 := tok_of p33 rfl (tabU_nil) ⟨rfl, rfl, by decide⟩ rfl fun x y h => (congrFun e33 x).trans h
/-- heliograph/heliographref15.Whole -/
noncomputable def g34 (a0 : Taking) : Option Bool :=
let x2 := (a0.2.2.2.2.1.length : Int) == (1 : Int)
(if x2 then idx a0.2.2.2.2.1 (0 : Int) else some ((0 : Int), (0 : Int))).bind fun y3 =>
let x5 := if x2 then (y3.1 == (0 : Int)) else false
(if x5 then idx a0.2.2.2.2.1 (0 : Int) else some ((0 : Int), (0 : Int))).bind fun y6 =>
some (if x5 then (y6.2 == a0.2.2.1) else false)
noncomputable def tf34 : TF := .par ⟨[.v YTaking], .b⟩ (fun x => g34 x)
theorem e34 : evFn (tabU []) ⟨F34.res, F34.keep, tf34.sg⟩ T34 = fun x => g34 x := by kernel_rfl
theorem o34 : TOK (EF pg) 34 tf34 := tok_of p34 rfl (tabU_nil) ⟨rfl, rfl, by decide⟩ rfl fun x y h => (congrFun e34 x).trans h
/-- heliograph/heliographref15.Right -/
noncomputable def g15x0 (s : Int × Int × Int × Int × (List Int) × (List Claim) × Int × Int × Int × Int) : Option ((Int × Int × Int × Int × (List Int) × (List Claim) × Int × Int × Int × Int) ⊕ ((Int × Int × Int × (List Int) × (List Claim) × Int × Int × Int × Int) ⊕ Bool)) :=
if (decide (s.1 < (s.2.2.2.2.2.1.length : Int))) then
((idx s.2.2.2.2.2.1 s.1).bind fun y23 =>
let x33 := if (if (if (if (decide (y23.2 < (1 : Int))) then true else (decide (y23.2 > (512 : Int)))) then true else (decide (y23.1 < (0 : Int)))) then true else (decide (y23.1 > (512 : Int)))) then true else (decide ((IntKind.i64.wrap (y23.1 + y23.2)) > s.2.2.2.1))
let x34 := decide (s.1 > (0 : Int))
(if ((!x33) && x34) then idx s.2.2.2.2.2.1 (IntKind.i64.wrap (s.1 - (1 : Int))) else some ((0 : Int), (0 : Int))).bind fun y36 =>
(if ((!x33) && x34) then idx s.2.2.2.2.2.1 (IntKind.i64.wrap (s.1 - (1 : Int))) else some ((0 : Int), (0 : Int))).bind fun y38 =>
if (if x33 then true else (if x34 then (decide (y23.1 ≤ (IntKind.i64.wrap (y36.1 + y38.2)))) else false)) then
(some (Sum.inr (Sum.inr (false))))
else
(
some (Sum.inl ((IntKind.i64.wrap (s.1 + (1 : Int))), s.2.1, s.2.2.1, s.2.2.2.1, s.2.2.2.2.1, s.2.2.2.2.2.1, s.2.2.2.2.2.2.1, s.2.2.2.2.2.2.2.1, s.2.2.2.2.2.2.2.2.1, s.2.2.2.2.2.2.2.2.2))))
else
(some (Sum.inr (Sum.inl (s.2.1, s.2.2.1, s.2.2.2.1, s.2.2.2.2.1, s.2.2.2.2.2.1, s.2.2.2.2.2.2.1, s.2.2.2.2.2.2.2.1, s.2.2.2.2.2.2.2.2.1, s.2.2.2.2.2.2.2.2.2))))
noncomputable def g15 (a0 : Taking) : Option Bool :=
if (if (if (if (if (if (if (if (if (if (decide (a0.1 < (1 : Int))) then true else (decide (a0.1 > (6 : Int)))) then true else (a0.2.1 == (0 : Int))) then true else (decide (a0.2.2.1 < (1 : Int)))) then true else (decide (a0.2.2.1 > (512 : Int)))) then true else ((a0.2.2.2.1.length : Int) != a0.2.2.1)) then true else (decide (a0.2.2.2.2.2.2.2.1 < (1 : Int)))) then true else (decide (a0.2.2.2.2.2.2.2.1 > (65536 : Int)))) then true else (decide (a0.2.2.2.2.2.2.2.2 < (0 : Int)))) then true else (decide (a0.2.2.2.2.2.2.2.2 > (1114112 : Int)))) then
(some false)
else
((lpU g15x0 ((0 : Int), a0.1, a0.2.1, a0.2.2.1, a0.2.2.2.1, a0.2.2.2.2.1, a0.2.2.2.2.2.1, a0.2.2.2.2.2.2.1, a0.2.2.2.2.2.2.2.1, a0.2.2.2.2.2.2.2.2)).bind fun z44 =>
match z44 with
| Sum.inl z45 => (let x47 := z45.2.2.2.2.2.2.1 == (1 : Int)
(if x47 then g34 z45 else some false).bind fun y48 =>
let x50 := if x47 then (!y48) else false
let x51 := z45.2.2.2.2.2.2.1 == (2 : Int)
(if ((!x50) && x51) then g34 z45 else some false).bind fun y52 =>
some (if (if x50 then true else (if x51 then y52 else false)) then true else (z45.2.2.2.2.2.2.1 == (4 : Int))))
| Sum.inr z46 => (some z46))
noncomputable def tf15 : TF := .par ⟨[.v YTaking], .b⟩ (fun x => g15 x)
theorem e15 : evFn (tabU [(34, tf34)]) ⟨F15.res, F15.keep, tf15.sg⟩ T15 = fun x => g15 x := by kernel_rfl
theorem o15 : TOK (EF pg) 15 tf15 := tok_of p15 rfl (tabU_cons o34 (tabU_nil)) ⟨rfl, rfl, by decide⟩ rfl fun x y h => (congrFun e15 x).trans h
/-- heliograph/receiver.within -/
noncomputable def h35 (a0 : Int) (a1 : Int) (a2 : Int) : Bool :=
(if (decide (a0 ≥ a1)) then (decide (a0 ≤ a2)) else false)
noncomputable def tf35 : TF := .tot ⟨[.v (.i .i64), .v (.i .i64), .v (.i .i64)], .b⟩ (fun x => h35 x.1 x.2.1 x.2.2)
theorem e35 : evFn (tabU []) ⟨F35.res, F35.keep, tf35.sg⟩ T35 = fun x => some (h35 x.1 x.2.1 x.2.2) := by kernel_rfl
theorem o35 : TOK (EF pg) 35 tf35 := tok_of p35 rfl (tabU_nil) ⟨rfl, rfl, by decide⟩ rfl fun x y h => (congrFun e35 x).trans h
/-- heliograph/receiver.Check -/
noncomputable def g16x0 (s : Bool × Int × (List Claim) × Int × Int × Int × Int × Int × (List Int) × (List Claim) × Int × Int × Int × Int) : Option ((Bool × Int × (List Claim) × Int × Int × Int × Int × Int × (List Int) × (List Claim) × Int × Int × Int × Int) ⊕ ((Bool × Int × Int × Int × (List Int) × (List Claim) × Int × Int × Int × Int) ⊕ Int)) :=
if (decide (s.2.2.2.2.1 < s.2.2.2.1)) then
((idx s.2.2.1 s.2.2.2.2.1).bind fun y11 =>
let x20 := if (if (if (if s.1 then (decide (y11.2 > (0 : Int))) else false) then (decide (y11.1 > s.2.1)) else false) then (decide (y11.1 ≤ s.2.2.2.2.2.2.2.1)) else false) then (decide (y11.2 ≤ (IntKind.i64.wrap (s.2.2.2.2.2.2.2.1 - y11.1)))) else false
if (!x20) then
(some (Sum.inr (Sum.inr ((250 : Int)))))
else
(
some (Sum.inl (x20, (IntKind.i64.wrap (y11.1 + y11.2)), s.2.2.1, s.2.2.2.1, (IntKind.i64.wrap (s.2.2.2.2.1 + (1 : Int))), s.2.2.2.2.2.1, s.2.2.2.2.2.2.1, s.2.2.2.2.2.2.2.1, s.2.2.2.2.2.2.2.2.1, s.2.2.2.2.2.2.2.2.2.1, s.2.2.2.2.2.2.2.2.2.2.1, s.2.2.2.2.2.2.2.2.2.2.2.1, s.2.2.2.2.2.2.2.2.2.2.2.2.1, s.2.2.2.2.2.2.2.2.2.2.2.2.2))))
else
(some (Sum.inr (Sum.inl (s.1, s.2.2.2.2.2.1, s.2.2.2.2.2.2.1, s.2.2.2.2.2.2.2.1, s.2.2.2.2.2.2.2.2.1, s.2.2.2.2.2.2.2.2.2.1, s.2.2.2.2.2.2.2.2.2.2.1, s.2.2.2.2.2.2.2.2.2.2.2.1, s.2.2.2.2.2.2.2.2.2.2.2.2.1, s.2.2.2.2.2.2.2.2.2.2.2.2.2))))
noncomputable def g16 (a0 : Taking) : Option Int :=
(lpU g16x0 ((if (if (if (h35 a0.1 (1 : Int) (6 : Int)) then (decide (a0.2.1 > (0 : Int))) else false) then (h35 a0.2.2.1 (1 : Int) (512 : Int)) else false) then ((a0.2.2.2.1.length : Int) == a0.2.2.1) else false), (-1 : Int), a0.2.2.2.2.1, (a0.2.2.2.2.1.length : Int), (0 : Int), a0.1, a0.2.1, a0.2.2.1, a0.2.2.2.1, a0.2.2.2.2.1, a0.2.2.2.2.2.1, a0.2.2.2.2.2.2.1, a0.2.2.2.2.2.2.2.1, a0.2.2.2.2.2.2.2.2)).bind fun z24 =>
match z24 with
| Sum.inl z25 => (let x27 := h35 z25.2.2.2.2.2.2.2.2.1 (1 : Int) (65536 : Int)
let x30 := if (if z25.1 then x27 else false) then (h35 z25.2.2.2.2.2.2.2.2.2 (0 : Int) (1114112 : Int)) else false
if (z25.2.2.2.2.2.2.2.1 == (1 : Int)) then
((if x30 then g32 z25.2 else some false).bind fun y32 =>
if (!(if x30 then (!y32) else false)) then
(some (250 : Int))
else
(some (0 : Int)))
else
(
if (z25.2.2.2.2.2.2.2.1 == (2 : Int)) then
((if x30 then g32 z25.2 else some false).bind fun y37 =>
if (!(if x30 then y37 else false)) then
(some (250 : Int))
else
(some (0 : Int)))
else
(
if (z25.2.2.2.2.2.2.2.1 == (4 : Int)) then
(
if (!x30) then
(some (250 : Int))
else
(some (0 : Int)))
else
(
if (!false) then
(some (250 : Int))
else
(some (0 : Int))))))
| Sum.inr z26 => (some z26)
noncomputable def tf16 : TF := .par ⟨[.v YTaking], (.i .i64)⟩ (fun x => g16 x)
theorem e16 : evFn (tabU [(32, tf32), (35, tf35)]) ⟨F16.res, F16.keep, tf16.sg⟩ T16 = fun x => g16 x := by kernel_rfl
theorem o16 : TOK (EF pg) 16 tf16 := tok_of p16 rfl (tabU_cons o32 (tabU_cons o35 (tabU_nil))) ⟨rfl, rfl, by decide⟩ rfl fun x y h => (congrFun e16 x).trans h
/-- heliograph/receiver.Block -/
noncomputable def g13 (a0 : Taking) : Option ((List Int) × Int) :=
(g16 a0).bind fun y1 =>
if (y1 != (0 : Int)) then
(some ([], y1))
else
((g32 a0).bind fun y3 =>
if (!y3) then
(some ([], (4 : Int)))
else
((g33 a0.2.2.2.1).bind fun y5 =>
some (y5, (0 : Int))))
noncomputable def tf13 : TF := .par ⟨[.v YTaking], (.t (.l .ro (.i .u8)) (.i .i64))⟩ (fun x => g13 x)
theorem e13 : evFn (tabU [(16, tf16), (32, tf32), (33, tf33)]) ⟨F13.res, F13.keep, tf13.sg⟩ T13 = fun x => g13 x := by kernel_rfl
theorem o13 : TOK (EF pg) 13 tf13 := tok_of p13 rfl (tabU_cons o16 (tabU_cons o32 (tabU_cons o33 (tabU_nil)))) ⟨rfl, rfl, by decide⟩ rfl fun x y h => (congrFun e13 x).trans h
/-- heliograph/receiver.Missing -/
noncomputable def g14x0 (s : Int × (List Claim) × Int × Int) : Option ((Int × (List Claim) × Int × Int) ⊕ (Int)) :=
if (decide (s.2.2.2 < s.2.2.1)) then
((idx s.2.1 s.2.2.2).bind fun y5 =>
some (Sum.inl ((IntKind.i64.wrap (s.1 - y5.2)), s.2.1, s.2.2.1, (IntKind.i64.wrap (s.2.2.2 + (1 : Int))))))
else
(some (Sum.inr s.1))
noncomputable def g14 (a0 : Taking) : Option Int :=
(g16 a0).bind fun y1 =>
if (y1 != (0 : Int)) then
(some (0 : Int))
else
(
(lpU g14x0 (a0.2.2.1, a0.2.2.2.2.1, (a0.2.2.2.2.1.length : Int), (0 : Int))).bind fun z8 =>
some z8)
noncomputable def tf14 : TF := .par ⟨[.v YTaking], (.i .i64)⟩ (fun x => g14 x)
theorem e14 : evFn (tabU [(16, tf16)]) ⟨F14.res, F14.keep, tf14.sg⟩ T14 = fun x => g14 x := by kernel_rfl
theorem o14 : TOK (EF pg) 14 tf14 := tok_of p14 rfl (tabU_cons o16 (tabU_nil)) ⟨rfl, rfl, by decide⟩ rfl fun x y h => (congrFun e14 x).trans h
/-- heliograph/heliographref10.Same -/
noncomputable def g37x0 (s : Int × Int × Int × Int × Int × Int × Int × Int × Int × Int × Int × Int × Bool × (List Int) × (List Claim) × Int × Int × Int × Int × Int × Int × Int × Int × Int × Int × Bool × (List Int) × List Claim) : Option ((Int × Int × Int × Int × Int × Int × Int × Int × Int × Int × Int × Int × Bool × (List Int) × (List Claim) × Int × Int × Int × Int × Int × Int × Int × Int × Int × Int × Bool × (List Int) × List Claim) ⊕ ((Int × Int × Int × Int × Int × Int × Int × Int × Int × Int × Bool × (List Int) × (List Claim) × Int × Int × Int × Int × Int × Int × Int × Int × Int × Int × Bool × (List Int) × List Claim) ⊕ Bool)) :=
if (decide (s.2.1 < s.1)) then
((idx s.2.2.2.2.2.2.2.2.2.2.2.2.2.2.1 s.2.1).bind fun y6 =>
(idx s.2.2.2.2.2.2.2.2.2.2.2.2.2.2.2.2.2.2.2.2.2.2.2.2.2.2.2 s.2.1).bind fun y7 =>
if (!((y6.1 == y7.1) && ((y6.2 == y7.2) && (true)))) then
(some (Sum.inr (Sum.inr (false))))
else
(
some (Sum.inl (s.1, (IntKind.i64.wrap (s.2.1 + (1 : Int))), s.2.2.1, s.2.2.2.1, s.2.2.2.2.1, s.2.2.2.2.2.1, s.2.2.2.2.2.2.1, s.2.2.2.2.2.2.2.1, s.2.2.2.2.2.2.2.2.1, s.2.2.2.2.2.2.2.2.2.1, s.2.2.2.2.2.2.2.2.2.2.1, s.2.2.2.2.2.2.2.2.2.2.2.1, s.2.2.2.2.2.2.2.2.2.2.2.2.1, s.2.2.2.2.2.2.2.2.2.2.2.2.2.1, s.2.2.2.2.2.2.2.2.2.2.2.2.2.2.1, s.2.2.2.2.2.2.2.2.2.2.2.2.2.2.2.1, s.2.2.2.2.2.2.2.2.2.2.2.2.2.2.2.2.1, s.2.2.2.2.2.2.2.2.2.2.2.2.2.2.2.2.2.1, s.2.2.2.2.2.2.2.2.2.2.2.2.2.2.2.2.2.2.1, s.2.2.2.2.2.2.2.2.2.2.2.2.2.2.2.2.2.2.2.1, s.2.2.2.2.2.2.2.2.2.2.2.2.2.2.2.2.2.2.2.2.1, s.2.2.2.2.2.2.2.2.2.2.2.2.2.2.2.2.2.2.2.2.2.1, s.2.2.2.2.2.2.2.2.2.2.2.2.2.2.2.2.2.2.2.2.2.2.1, s.2.2.2.2.2.2.2.2.2.2.2.2.2.2.2.2.2.2.2.2.2.2.2.1, s.2.2.2.2.2.2.2.2.2.2.2.2.2.2.2.2.2.2.2.2.2.2.2.2.1, s.2.2.2.2.2.2.2.2.2.2.2.2.2.2.2.2.2.2.2.2.2.2.2.2.2.1, s.2.2.2.2.2.2.2.2.2.2.2.2.2.2.2.2.2.2.2.2.2.2.2.2.2.2.1, s.2.2.2.2.2.2.2.2.2.2.2.2.2.2.2.2.2.2.2.2.2.2.2.2.2.2.2))))
else
(some (Sum.inr (Sum.inl (s.2.2.1, s.2.2.2.1, s.2.2.2.2.1, s.2.2.2.2.2.1, s.2.2.2.2.2.2.1, s.2.2.2.2.2.2.2.1, s.2.2.2.2.2.2.2.2.1, s.2.2.2.2.2.2.2.2.2.1, s.2.2.2.2.2.2.2.2.2.2.1, s.2.2.2.2.2.2.2.2.2.2.2.1, s.2.2.2.2.2.2.2.2.2.2.2.2.1, s.2.2.2.2.2.2.2.2.2.2.2.2.2.1, s.2.2.2.2.2.2.2.2.2.2.2.2.2.2.1, s.2.2.2.2.2.2.2.2.2.2.2.2.2.2.2.1, s.2.2.2.2.2.2.2.2.2.2.2.2.2.2.2.2.1, s.2.2.2.2.2.2.2.2.2.2.2.2.2.2.2.2.2.1, s.2.2.2.2.2.2.2.2.2.2.2.2.2.2.2.2.2.2.1, s.2.2.2.2.2.2.2.2.2.2.2.2.2.2.2.2.2.2.2.1, s.2.2.2.2.2.2.2.2.2.2.2.2.2.2.2.2.2.2.2.2.1, s.2.2.2.2.2.2.2.2.2.2.2.2.2.2.2.2.2.2.2.2.2.1, s.2.2.2.2.2.2.2.2.2.2.2.2.2.2.2.2.2.2.2.2.2.2.1, s.2.2.2.2.2.2.2.2.2.2.2.2.2.2.2.2.2.2.2.2.2.2.2.1, s.2.2.2.2.2.2.2.2.2.2.2.2.2.2.2.2.2.2.2.2.2.2.2.2.1, s.2.2.2.2.2.2.2.2.2.2.2.2.2.2.2.2.2.2.2.2.2.2.2.2.2.1, s.2.2.2.2.2.2.2.2.2.2.2.2.2.2.2.2.2.2.2.2.2.2.2.2.2.2.1, s.2.2.2.2.2.2.2.2.2.2.2.2.2.2.2.2.2.2.2.2.2.2.2.2.2.2.2))))
noncomputable def g37 (a0 : Segment) (a1 : Segment) : Option Bool :=
if ((a0.2.2.2.2.2.2.2.2.2.2.2.2.length : Int) != (a1.2.2.2.2.2.2.2.2.2.2.2.2.length : Int)) then
(some false)
else
(
(lpU g37x0 ((a0.2.2.2.2.2.2.2.2.2.2.2.2.length : Int), (0 : Int), a0.1, a0.2.1, a0.2.2.1, a0.2.2.2.1, a0.2.2.2.2.1, a0.2.2.2.2.2.1, a0.2.2.2.2.2.2.1, a0.2.2.2.2.2.2.2.1, a0.2.2.2.2.2.2.2.2.1, a0.2.2.2.2.2.2.2.2.2.1, a0.2.2.2.2.2.2.2.2.2.2.1, a0.2.2.2.2.2.2.2.2.2.2.2.1, a0.2.2.2.2.2.2.2.2.2.2.2.2, a1.1, a1.2.1, a1.2.2.1, a1.2.2.2.1, a1.2.2.2.2.1, a1.2.2.2.2.2.1, a1.2.2.2.2.2.2.1, a1.2.2.2.2.2.2.2.1, a1.2.2.2.2.2.2.2.2.1, a1.2.2.2.2.2.2.2.2.2.1, a1.2.2.2.2.2.2.2.2.2.2.1, a1.2.2.2.2.2.2.2.2.2.2.2.1, a1.2.2.2.2.2.2.2.2.2.2.2.2)).bind fun z10 =>
match z10 with
| Sum.inl z11 => (let x13 := z11.1 == z11.2.2.2.2.2.2.2.2.2.2.2.2.2.1
some (if (if (if (if (if (if (if (if (if (if (if x13 then (z11.2.1 == z11.2.2.2.2.2.2.2.2.2.2.2.2.2.2.1) else false) then (z11.2.2.1 == z11.2.2.2.2.2.2.2.2.2.2.2.2.2.2.2.1) else false) then (z11.2.2.2.1 == z11.2.2.2.2.2.2.2.2.2.2.2.2.2.2.2.2.1) else false) then (z11.2.2.2.2.1 == z11.2.2.2.2.2.2.2.2.2.2.2.2.2.2.2.2.2.1) else false) then (z11.2.2.2.2.2.1 == z11.2.2.2.2.2.2.2.2.2.2.2.2.2.2.2.2.2.2.1) else false) then (z11.2.2.2.2.2.2.1 == z11.2.2.2.2.2.2.2.2.2.2.2.2.2.2.2.2.2.2.2.1) else false) then (z11.2.2.2.2.2.2.2.1 == z11.2.2.2.2.2.2.2.2.2.2.2.2.2.2.2.2.2.2.2.2.1) else false) then (z11.2.2.2.2.2.2.2.2.1 == z11.2.2.2.2.2.2.2.2.2.2.2.2.2.2.2.2.2.2.2.2.2.1) else false) then (z11.2.2.2.2.2.2.2.2.2.1 == z11.2.2.2.2.2.2.2.2.2.2.2.2.2.2.2.2.2.2.2.2.2.2.1) else false) then ((z11.2.2.2.2.2.2.2.2.2.2.1 == z11.2.2.2.2.2.2.2.2.2.2.2.2.2.2.2.2.2.2.2.2.2.2.2.1) != false) else false) then (decide (z11.2.2.2.2.2.2.2.2.2.2.2.1 = z11.2.2.2.2.2.2.2.2.2.2.2.2.2.2.2.2.2.2.2.2.2.2.2.2.1)) else false))
| Sum.inr z12 => (some z12))
noncomputable def tf37 : TF := .par ⟨[.v YSegment, .v YSegment], .b⟩ (fun x => g37 x.1 x.2)
theorem e37 : evFn (tabU []) ⟨F37.res, F37.keep, tf37.sg⟩ T37 = fun x => g37 x.1 x.2 := by kernel_rfl
theorem o37 : TOK (EF pg) 37 tf37 := tok_of p37 rfl (tabU_nil) ⟨rfl, rfl, by decide⟩ rfl fun x y h => (congrFun e37 x).trans h
/-- heliograph/heliographref10.Only -/
noncomputable def g38 (a0 : Segment) : Option Segment :=
if (a0.1 == (1 : Int)) then
(some (a0.1, a0.2.1, a0.2.2.1, a0.2.2.2.1, (0 : Int), a0.2.2.2.2.2.1, a0.2.2.2.2.2.2.1, (0 : Int), (0 : Int), (0 : Int), a0.2.2.2.2.2.2.2.2.2.2.1, a0.2.2.2.2.2.2.2.2.2.2.2.1, []))
else
(
if (a0.1 == (2 : Int)) then
(some (a0.1, a0.2.1, a0.2.2.1, a0.2.2.2.1, a0.2.2.2.2.1, (0 : Int), (0 : Int), a0.2.2.2.2.2.2.2.1, a0.2.2.2.2.2.2.2.2.1, (0 : Int), false, [], a0.2.2.2.2.2.2.2.2.2.2.2.2))
else
(
if (a0.1 == (3 : Int)) then
(some (a0.1, a0.2.1, a0.2.2.1, a0.2.2.2.1, (0 : Int), (0 : Int), (0 : Int), (0 : Int), (0 : Int), (0 : Int), false, [], []))
else
(let x4 := a0.1 == (4 : Int)
if x4 then
(if x4 then
(some (a0.1, a0.2.1, a0.2.2.1, (0 : Int), (0 : Int), (0 : Int), (0 : Int), (0 : Int), (0 : Int), a0.2.2.2.2.2.2.2.2.2.1, false, [], []))
else
(some (a0.1, a0.2.1, a0.2.2.1, (0 : Int), (0 : Int), (0 : Int), (0 : Int), (0 : Int), (0 : Int), (0 : Int), false, [], [])))
else
(
if (a0.1 == (6 : Int)) then
(some (a0.1, a0.2.1, a0.2.2.1, (0 : Int), (0 : Int), (0 : Int), (0 : Int), (0 : Int), (0 : Int), a0.2.2.2.2.2.2.2.2.2.1, false, [], []))
else
(some (a0.1, a0.2.1, a0.2.2.1, (0 : Int), (0 : Int), (0 : Int), (0 : Int), (0 : Int), (0 : Int), (0 : Int), false, [], []))))))
noncomputable def tf38 : TF := .par ⟨[.v YSegment], YSegment⟩ (fun x => g38 x)
theorem e38 : evFn (tabU []) ⟨F38.res, F38.keep, tf38.sg⟩ T38 = fun x => g38 x := by kernel_rfl
theorem o38 : TOK (EF pg) 38 tf38 := tok_of p38 rfl (tabU_nil) ⟨rfl, rfl, by decide⟩ rfl fun x y h => (congrFun e38 x).trans h
/-- heliograph/heliographref10.claims -/
noncomputable def g39x0 (s : Int × Int × (List Claim) × Int × Int) : Option ((Int × Int × (List Claim) × Int × Int) ⊕ (Unit ⊕ Bool)) :=
if (decide (s.2.2.2.2 < s.2.2.2.1)) then
((idx s.2.2.1 s.2.2.2.2).bind fun y6 =>
if (if (if (if (if (decide (y6.2 < (1 : Int))) then true else (decide (y6.1 ≤ s.2.1))) then true else (decide (y6.2 > (512 : Int)))) then true else (decide (y6.1 > (512 : Int)))) then true else (decide ((IntKind.i64.wrap (y6.1 + y6.2)) > s.1))) then
(some (Sum.inr (Sum.inr (false))))
else
(
some (Sum.inl (s.1, (IntKind.i64.wrap (y6.1 + y6.2)), s.2.2.1, s.2.2.2.1, (IntKind.i64.wrap (s.2.2.2.2 + (1 : Int)))))))
else
(some (Sum.inr (Sum.inl ())))
noncomputable def g39 (a0 : List Claim) (a1 : Int) (a2 : Int) : Option Bool :=
if (decide ((a0.length : Int) > (20 : Int))) then
(some false)
else
(
(lpU g39x0 (a2, (IntKind.i64.wrap (a1 - (1 : Int))), a0, (a0.length : Int), (0 : Int))).bind fun z19 =>
match z19 with
| Sum.inl z20 => (some true)
| Sum.inr z21 => (some z21))
noncomputable def tf39 : TF := .par ⟨[.v (.l .ro YClaim), .v (.i .i64), .v (.i .i64)], .b⟩ (fun x => g39 x.1 x.2.1 x.2.2)
theorem e39 : evFn (tabU []) ⟨F39.res, F39.keep, tf39.sg⟩ T39 = fun x => g39 x.1 x.2.1 x.2.2 := by kernel_rfl
theorem o39 : TOK (EF pg) 39 tf39 := tok_of p39 rfl (tabU_nil) ⟨rfl, rfl, by decide⟩ rfl fun x y h => (congrFun e39 x).trans h
/-- heliograph/heliographref10.Right -/
noncomputable def g20 (a0 : Segment) : Option Bool :=
let x5 := if (if (decide (a0.2.1 < (1 : Int))) then true else (decide (a0.2.1 > (6 : Int)))) then true else (a0.2.2.1 == (0 : Int))
(if (!x5) then g38 a0 else some ((0 : Int), ((0 : Int), ((0 : Int), ((0 : Int), ((0 : Int), ((0 : Int), ((0 : Int), ((0 : Int), ((0 : Int), ((0 : Int), (false, ([], []))))))))))))).bind fun y6 =>
(if (!x5) then g37 a0 y6 else some false).bind fun y7 =>
if (if x5 then true else (!y7)) then
(some false)
else
(
if (a0.1 == (1 : Int)) then
(let x11 := (a0.2.2.2.2.2.2.2.2.2.2.2.1.length : Int)
some (if (if (if (if (if (if (decide (a0.2.2.2.2.2.2.1 ≥ (1 : Int))) then (decide (a0.2.2.2.2.2.2.1 ≤ (512 : Int))) else false) then (decide (x11 ≥ (1 : Int))) else false) then (decide (x11 ≤ (100 : Int))) else false) then (decide (a0.2.2.2.2.2.1 ≥ (0 : Int))) else false) then (decide (a0.2.2.2.2.2.1 ≤ (IntKind.i64.wrap (a0.2.2.2.2.2.2.1 - x11)))) else false) then ((a0.2.2.2.2.2.2.2.2.2.2.1 == (decide (a0.2.2.2.1 > (0 : Int)))) != false) else false))
else
(
if (a0.1 == (2 : Int)) then
(
let x36 := if (if (if (if (decide (a0.2.2.2.1 > (0 : Int))) then (decide (a0.2.2.2.2.1 > (0 : Int))) else false) then (decide (a0.2.2.2.2.2.2.2.1 ≥ (0 : Int))) else false) then (decide (a0.2.2.2.2.2.2.2.1 < a0.2.2.2.2.2.2.2.2.1)) else false) then (decide (a0.2.2.2.2.2.2.2.2.1 ≤ (512 : Int))) else false
(if x36 then g39 a0.2.2.2.2.2.2.2.2.2.2.2.2 a0.2.2.2.2.2.2.2.1 a0.2.2.2.2.2.2.2.2.1 else some false).bind fun y37 =>
some (if x36 then y37 else false))
else
(
if (a0.1 == (3 : Int)) then
(
some (decide (a0.2.2.2.1 > (0 : Int))))
else
((let x41 := a0.1 == (4 : Int)
if x41 then
(some ((a0.1, x41, a0.1, a0.2.1, a0.2.2.1, a0.2.2.2.1, a0.2.2.2.2.1, a0.2.2.2.2.2.1, a0.2.2.2.2.2.2.1, a0.2.2.2.2.2.2.2.1, a0.2.2.2.2.2.2.2.2.1, a0.2.2.2.2.2.2.2.2.2.1, a0.2.2.2.2.2.2.2.2.2.2.1, a0.2.2.2.2.2.2.2.2.2.2.2.1, a0.2.2.2.2.2.2.2.2.2.2.2.2)))
else
(
some ((a0.1, (a0.1 == (6 : Int)), a0.1, a0.2.1, a0.2.2.1, a0.2.2.2.1, a0.2.2.2.2.1, a0.2.2.2.2.2.1, a0.2.2.2.2.2.2.1, a0.2.2.2.2.2.2.2.1, a0.2.2.2.2.2.2.2.2.1, a0.2.2.2.2.2.2.2.2.2.1, a0.2.2.2.2.2.2.2.2.2.2.1, a0.2.2.2.2.2.2.2.2.2.2.2.1, a0.2.2.2.2.2.2.2.2.2.2.2.2)))).bind fun z43 =>
if z43.2.1 then
(
some (if (decide (z43.2.2.2.2.2.2.2.2.2.2.2.1 ≥ (0 : Int))) then (decide (z43.2.2.2.2.2.2.2.2.2.2.2.1 ≤ (255 : Int))) else false))
else
(let x47 := z43.1 == (5 : Int)
if x47 then
(if x47 then
(some true)
else
(some false))
else
(
if (z43.1 == (7 : Int)) then
(some true)
else
(some false)))))))
noncomputable def tf20 : TF := .par ⟨[.v YSegment], .b⟩ (fun x => g20 x)
theorem e20 : evFn (tabU [(37, tf37), (38, tf38), (39, tf39)]) ⟨F20.res, F20.keep, tf20.sg⟩ T20 = fun x => g20 x := by kernel_rfl
theorem o20 : TOK (EF pg) 20 tf20 := tok_of p20 rfl (tabU_cons o37 (tabU_cons o38 (tabU_cons o39 (tabU_nil)))) ⟨rfl, rfl, by decide⟩ rfl fun x y h => (congrFun e20 x).trans h
/-- slices.Clone[[]heliograph/api.Claim,heliograph/api.Claim] -/
noncomputable def g41 (a0 : List Claim) : Option (List Claim) :=
amb (List.isEmpty a0) false fun y1 =>
if y1 then
(some [])
else
((apd 16 [] a0).bind fun y2 =>
some y2)
noncomputable def tf41 : TF := .par ⟨[.v (.l .ro YClaim)], (.l .app YClaim)⟩ (fun x => g41 x)
theorem e41 : evFn (tabU []) ⟨F41.res, F41.keep, tf41.sg⟩ T41 = fun x => g41 x := by kernel_rfl
theorem o41 : TOK (EF pg) 41 tf41 := tok_of p41 rfl (tabU_nil) ⟨rfl, rfl, by decide⟩ rfl fun x y h => (congrFun e41 x).trans h
/-- heliograph/heliographlaw15.pieces$1 -/
noncomputable def g43 (a0 : Int) (a1 : Int) (a2 : Bool) (a3 : List Int) (a4 : List Segment) : Option (List Segment) :=
let x1 := (a3.length : Int)
(cut a3 a0 (IntKind.i64.wrap (a0 + a1))).bind fun y3 =>
if a2 then
(
(apd 128 a4 ([((1 : Int), (3 : Int), (9 : Int), (IntKind.u32.wrap (IntKind.i64.wrap ((a4.length : Int) + (1 : Int)))), (0 : Int), a0, x1, (0 : Int), (0 : Int), (0 : Int), true, y3, [])])).bind fun y7 =>
some y7)
else
((apd 128 a4 ([((1 : Int), (3 : Int), (9 : Int), (0 : Int), (0 : Int), a0, x1, (0 : Int), (0 : Int), (0 : Int), false, y3, [])])).bind fun y8 =>
some y8)
noncomputable def tf43 : TF := .par ⟨[.v (.i .i64), .v (.i .i64), .v .b, .o (.l .ro (.i .u8)), .x (.l .app YSegment)], .n⟩ (fun x => g43 x.1 x.2.1 x.2.2.1 x.2.2.2.1 x.2.2.2.2)
theorem e43 : evFn (tabU []) ⟨F43.res, F43.keep, tf43.sg⟩ T43 = fun x => g43 x.1 x.2.1 x.2.2.1 x.2.2.2.1 x.2.2.2.2 := by kernel_rfl
theorem o43 : TOK (EF pg) 43 tf43 := tok_of p43 rfl (tabU_nil) ⟨rfl, rfl, by decide⟩ rfl fun x y h => (congrFun e43 x).trans h
/-- heliograph/heliographlaw15.pieces -/
noncomputable def g28x0 (s : (List Cut) × Int × Int × (List Int) × List Segment) : Option (((List Cut) × Int × Int × (List Int) × List Segment) ⊕ (((List Int) × List Segment))) :=
if (decide (s.2.2.1 < s.2.1)) then
((idx s.1 s.2.2.1).bind fun y3 =>
if (s.2.2.1 == (40 : Int)) then
(some (Sum.inr (s.2.2.2.1, s.2.2.2.2)))
else
(
(rem (if (0 : Int) > y3.1 then (0 : Int) else y3.1) (s.2.2.2.1.length : Int)).bind fun y7 =>
let x10 := IntKind.i64.wrap ((s.2.2.2.1.length : Int) - y7)
(rem (if (0 : Int) > y3.2.1 then (0 : Int) else y3.2.1) (if x10 < (100 : Int) then x10 else (100 : Int))).bind fun y12 =>
(g43 y7 (IntKind.i64.wrap ((1 : Int) + y12)) y3.2.2 s.2.2.2.1 s.2.2.2.2).bind fun y14 =>
some (Sum.inl (s.1, s.2.1, (IntKind.i64.wrap (s.2.2.1 + (1 : Int))), s.2.2.2.1, y14))))
else
(some (Sum.inr (s.2.2.2.1, s.2.2.2.2)))
noncomputable def g28x1 (s : Int × (List Int) × List Segment) : Option ((Int × (List Int) × List Segment) ⊕ ((List Segment))) :=
if (decide (s.1 < (s.2.1.length : Int))) then
(
let x20 := IntKind.i64.wrap ((s.2.1.length : Int) - s.1)
let x21 := if x20 < (100 : Int) then x20 else (100 : Int)
(g43 s.1 x21 ((IntKind.i64.wrap (s.1 + x21)) == (s.2.1.length : Int)) s.2.1 s.2.2).bind fun y25 =>
some (Sum.inl ((IntKind.i64.wrap (s.1 + (100 : Int))), s.2.1, y25)))
else
(some (Sum.inr s.2.2))
noncomputable def g28 (a0 : List Int) (a1 : List Cut) : Option (List Segment) :=
(lpU g28x0 (a1, (a1.length : Int), (0 : Int), a0, [])).bind fun z16 =>
(lpU g28x1 ((0 : Int), z16.1, z16.2)).bind fun z27 =>
some z27
noncomputable def tf28 : TF := .par ⟨[.v (.l .ro (.i .u8)), .v (.l .ro YCut)], (.l .ro YSegment)⟩ (fun x => g28 x.1 x.2)
theorem e28 : evFn (tabU [(43, tf43)]) ⟨F28.res, F28.keep, tf28.sg⟩ T28 = fun x => g28 x.1 x.2 := by kernel_rfl
theorem o28 : TOK (EF pg) 28 tf28 := tok_of p28 rfl (tabU_cons o43 (tabU_nil)) ⟨rfl, rfl, by decide⟩ rfl fun x y h => (congrFun e28 x).trans h
/-- slices.Equal[[]byte,byte] -/
noncomputable def g44x0 (s : (List Int) × (List Int) × Int × Int) : Option (((List Int) × (List Int) × Int × Int) ⊕ (Unit ⊕ Bool)) :=
if (decide (s.2.2.2 < s.2.2.1)) then
((idx s.1 s.2.2.2).bind fun y6 =>
(idx s.2.1 s.2.2.2).bind fun y7 =>
if (y6 != y7) then
(some (Sum.inr (Sum.inr (false))))
else
(
some (Sum.inl (s.1, s.2.1, s.2.2.1, (IntKind.i64.wrap (s.2.2.2 + (1 : Int)))))))
else
(some (Sum.inr (Sum.inl ())))
noncomputable def g44 (a0 : List Int) (a1 : List Int) : Option Bool :=
if ((a0.length : Int) != (a1.length : Int)) then
(some false)
else
(
(lpU g44x0 (a0, a1, (a0.length : Int), (0 : Int))).bind fun z10 =>
match z10 with
| Sum.inl z11 => (some true)
| Sum.inr z12 => (some z12))
noncomputable def tf44 : TF := .par ⟨[.v (.l .ro (.i .u8)), .v (.l .ro (.i .u8))], .b⟩ (fun x => g44 x.1 x.2)
theorem e44 : evFn (tabU []) ⟨F44.res, F44.keep, tf44.sg⟩ T44 = fun x => g44 x.1 x.2 := by kernel_rfl
theorem o44 : TOK (EF pg) 44 tf44 := tok_of p44 rfl (tabU_nil) ⟨rfl, rfl, by decide⟩ rfl fun x y h => (congrFun e44 x).trans h
/-- heliograph/octet.Equal -/
noncomputable def g29 (a0 : List Int) (a1 : List Int) : Option Bool :=
(g44 a0 a1).bind fun y1 =>
some y1
noncomputable def tf29 : TF := .par ⟨[.v (.l .ro (.i .u8)), .v (.l .ro (.i .u8))], .b⟩ (fun x => g29 x.1 x.2)
theorem e29 : evFn (tabU [(44, tf44)]) ⟨F29.res, F29.keep, tf29.sg⟩ T29 = fun x => g29 x.1 x.2 := by kernel_rfl
theorem o29 : TOK (EF pg) 29 tf29 := tok_of p29 rfl (tabU_cons o44 (tabU_nil)) ⟨rfl, rfl, by decide⟩ rfl fun x y h => (congrFun e29 x).trans h
/-- heliograph/receiver.Same -/
noncomputable def g10 (a0 : Taking) (a1 : Taking) : Option Bool :=
let x5 := if (if (a0.1 == a1.1) then (a0.2.1 == a1.2.1) else false) then (a0.2.2.1 == a1.2.2.1) else false
(if x5 then g29 a0.2.2.2.1 a1.2.2.2.1 else some false).bind fun y6 =>
let x7 := if x5 then y6 else false
(if x7 then g31 a0.2.2.2.2.1 a1.2.2.2.2.1 else some false).bind fun y8 =>
some (if (if (if (if (if x7 then y8 else false) then (a0.2.2.2.2.2.1 == a1.2.2.2.2.2.1) else false) then (a0.2.2.2.2.2.2.1 == a1.2.2.2.2.2.2.1) else false) then (a0.2.2.2.2.2.2.2.1 == a1.2.2.2.2.2.2.2.1) else false) then (a0.2.2.2.2.2.2.2.2 == a1.2.2.2.2.2.2.2.2) else false)
noncomputable def tf10 : TF := .par ⟨[.v YTaking, .v YTaking], .b⟩ (fun x => g10 x.1 x.2)
theorem e10 : evFn (tabU [(29, tf29), (31, tf31)]) ⟨F10.res, F10.keep, tf10.sg⟩ T10 = fun x => g10 x.1 x.2 := by kernel_rfl
theorem o10 : TOK (EF pg) 10 tf10 := tok_of p10 rfl (tabU_cons o29 (tabU_cons o31 (tabU_nil))) ⟨rfl, rfl, by decide⟩ rfl fun x y h => (congrFun e10 x).trans h
/-- heliograph/segment.in -/
noncomputable def h45 (a0 : Int) (a1 : Int) (a2 : Int) : Bool :=
(if (decide (a0 ≥ a1)) then (decide (a0 ≤ a2)) else false)
noncomputable def tf45 : TF := .tot ⟨[.v (.i .i64), .v (.i .i64), .v (.i .i64)], .b⟩ (fun x => h45 x.1 x.2.1 x.2.2)
theorem e45 : evFn (tabU []) ⟨F45.res, F45.keep, tf45.sg⟩ T45 = fun x => some (h45 x.1 x.2.1 x.2.2) := by kernel_rfl
theorem o45 : TOK (EF pg) 45 tf45 := tok_of p45 rfl (tabU_nil) ⟨rfl, rfl, by decide⟩ rfl fun x y h => (congrFun e45 x).trans h
/-- heliograph/segment.claimed -/
noncomputable def g46x0 (s : (List Claim) × Int × Int × (List Claim) × Int × Int) : Option (((List Claim) × Int × Int × (List Claim) × Int × Int) ⊕ ((List Claim) ⊕ Bool)) :=
if (decide (s.2.2.2.2.2 < s.2.2.2.2.1)) then
((idx s.2.2.2.1 s.2.2.2.2.2).bind fun y4 =>
if (if (if (if (decide (y4.2 < (1 : Int))) then true else (decide (y4.1 ≤ s.2.2.1))) then true else (decide (y4.1 ≥ s.2.1))) then true else (decide (y4.2 > (IntKind.i64.wrap (s.2.1 - y4.1))))) then
(some (Sum.inr (Sum.inr (false))))
else
(
some (Sum.inl (s.1, s.2.1, (IntKind.i64.wrap (y4.1 + y4.2)), s.2.2.2.1, s.2.2.2.2.1, (IntKind.i64.wrap (s.2.2.2.2.2 + (1 : Int)))))))
else
(some (Sum.inr (Sum.inl s.1)))
noncomputable def g46 (a0 : List Claim) (a1 : Int) (a2 : Int) : Option Bool :=
(lpU g46x0 (a0, a2, (IntKind.i64.wrap (a1 - (1 : Int))), a0, (a0.length : Int), (0 : Int))).bind fun z15 =>
match z15 with
| Sum.inl z16 => (let x18 := (z16.length : Int)
some (decide (x18 ≤ (20 : Int))))
| Sum.inr z17 => (some z17)
noncomputable def tf46 : TF := .par ⟨[.v (.l .ro YClaim), .v (.i .i64), .v (.i .i64)], .b⟩ (fun x => g46 x.1 x.2.1 x.2.2)
theorem e46 : evFn (tabU []) ⟨F46.res, F46.keep, tf46.sg⟩ T46 = fun x => g46 x.1 x.2.1 x.2.2 := by kernel_rfl
theorem o46 : TOK (EF pg) 46 tf46 := tok_of p46 rfl (tabU_nil) ⟨rfl, rfl, by decide⟩ rfl fun x y h => (congrFun e46 x).trans h
/-- heliograph/receiver.back -/
noncomputable def h49 (a0 : Taking) (a1 : Int) : Segment :=
(a1, a0.1, a0.2.1, (0 : Int), (0 : Int), (0 : Int), (0 : Int), (0 : Int), (0 : Int), (0 : Int), false, [], [])
noncomputable def tf49 : TF := .tot ⟨[.v YTaking, .v (.i .i64)], YSegment⟩ (fun x => h49 x.1 x.2)
theorem e49 : evFn (tabU []) ⟨F49.res, F49.keep, tf49.sg⟩ T49 = fun x => some (h49 x.1 x.2) := by kernel_rfl
theorem o49 : TOK (EF pg) 49 tf49 := tok_of p49 rfl (tabU_nil) ⟨rfl, rfl, by decide⟩ rfl fun x y h => (congrFun e49 x).trans h
/-- heliograph/receiver.stop -/
noncomputable def h42 (a0 : Taking) (a1 : Int) : Segment :=
let x1 := h49 a0 (6 : Int)
(x1.1, x1.2.1, x1.2.2.1, x1.2.2.2.1, x1.2.2.2.2.1, x1.2.2.2.2.2.1, x1.2.2.2.2.2.2.1, x1.2.2.2.2.2.2.2.1, x1.2.2.2.2.2.2.2.2.1, a1, x1.2.2.2.2.2.2.2.2.2.2.1, x1.2.2.2.2.2.2.2.2.2.2.2.1, x1.2.2.2.2.2.2.2.2.2.2.2.2)
noncomputable def tf42 : TF := .tot ⟨[.v YTaking, .v (.i .i64)], YSegment⟩ (fun x => h42 x.1 x.2)
theorem e42 : evFn (tabU [(49, tf49)]) ⟨F42.res, F42.keep, tf42.sg⟩ T42 = fun x => some (h42 x.1 x.2) := by kernel_rfl
theorem o42 : TOK (EF pg) 42 tf42 := tok_of p42 rfl (tabU_cons o49 (tabU_nil)) ⟨rfl, rfl, by decide⟩ rfl fun x y h => (congrFun e42 x).trans h
/-- heliograph/receiver.Tick -/
noncomputable def g26 (a0 : Taking) (a1 : Int) : Option (Taking × (List Segment) × Int) :=
(g16 a0).bind fun y1 =>
if (y1 != (0 : Int)) then
(some (((0 : Int), (0 : Int), (0 : Int), [], [], (0 : Int), (0 : Int), (0 : Int), (0 : Int)), [], y1))
else
(
if (!(h35 a1 (0 : Int) (1048576 : Int))) then
(some (((0 : Int), (0 : Int), (0 : Int), [], [], (0 : Int), (0 : Int), (0 : Int), (0 : Int)), [], (2 : Int)))
else
((g33 a0.2.2.2.1).bind fun y5 =>
(g41 a0.2.2.2.2.1).bind fun y6 =>
if (if (decide (a1 < a0.2.2.2.2.2.2.2.2)) then true else (a0.2.2.2.2.2.2.1 == (4 : Int))) then
(some ((a0.1, a0.2.1, a0.2.2.1, y5, y6, a0.2.2.2.2.2.1, a0.2.2.2.2.2.2.1, a0.2.2.2.2.2.2.2.1, a0.2.2.2.2.2.2.2.2), [], (0 : Int)))
else
(
if (a0.2.2.2.2.2.2.1 == (1 : Int)) then
(
(apd 128 [] ([(h42 (a0.1, a0.2.1, a0.2.2.1, y5, y6, a0.2.2.2.2.2.1, a0.2.2.2.2.2.2.1, a0.2.2.2.2.2.2.2.1, a0.2.2.2.2.2.2.2.2) (4 : Int))])).bind fun y12 =>
some ((a0.1, a0.2.1, a0.2.2.1, y5, y6, a0.2.2.2.2.2.1, (4 : Int), a0.2.2.2.2.2.2.2.1, a0.2.2.2.2.2.2.2.2), y12, (0 : Int)))
else
(some ((a0.1, a0.2.1, a0.2.2.1, y5, y6, a0.2.2.2.2.2.1, (4 : Int), a0.2.2.2.2.2.2.2.1, a0.2.2.2.2.2.2.2.2), [], (0 : Int))))))
noncomputable def tf26 : TF := .par ⟨[.v YTaking, .v (.i .i64)], (.t YTaking (.t (.l .ro YSegment) (.i .i64)))⟩ (fun x => g26 x.1 x.2)
theorem e26 : evFn (tabU [(16, tf16), (33, tf33), (35, tf35), (41, tf41), (42, tf42)]) ⟨F26.res, F26.keep, tf26.sg⟩ T26 = fun x => g26 x.1 x.2 := by kernel_rfl
theorem o26 : TOK (EF pg) 26 tf26 := tok_of p26 rfl (tabU_cons o16 (tabU_cons o33 (tabU_cons o35 (tabU_cons o41 (tabU_cons o42 (tabU_nil)))))) ⟨rfl, rfl, by decide⟩ rfl fun x y h => (congrFun e26 x).trans h
/-- heliograph/segment.Same$1 -/
noncomputable def h51 (a0 : Segment) : Rest :=
(a0.1, a0.2.1, a0.2.2.2.2.2.1, a0.2.2.2.2.2.2.1, a0.2.2.2.2.2.2.2.1, a0.2.2.2.2.2.2.2.2.1, a0.2.2.2.2.2.2.2.2.2.1, a0.2.2.1, a0.2.2.2.1, a0.2.2.2.2.1, a0.2.2.2.2.2.2.2.2.2.2.1)
noncomputable def tf51 : TF := .tot ⟨[.v YSegment], YRest⟩ (fun x => h51 x)
theorem e51 : evFn (tabU []) ⟨F51.res, F51.keep, tf51.sg⟩ T51 = fun x => some (h51 x) := by kernel_rfl
theorem o51 : TOK (EF pg) 51 tf51 := tok_of p51 rfl (tabU_nil) ⟨rfl, rfl, by decide⟩ rfl fun x y h => (congrFun e51 x).trans h
/-- heliograph/segment.Same -/
noncomputable def g47 (a0 : Segment) (a1 : Segment) : Option Bool :=
let x1 := h51 a0
let x2 := h51 a1
let x3 := (x1.1 == x2.1) && ((x1.2.1 == x2.2.1) && ((x1.2.2.1 == x2.2.2.1) && ((x1.2.2.2.1 == x2.2.2.2.1) && ((x1.2.2.2.2.1 == x2.2.2.2.2.1) && ((x1.2.2.2.2.2.1 == x2.2.2.2.2.2.1) && ((x1.2.2.2.2.2.2.1 == x2.2.2.2.2.2.2.1) && ((x1.2.2.2.2.2.2.2.1 == x2.2.2.2.2.2.2.2.1) && ((x1.2.2.2.2.2.2.2.2.1 == x2.2.2.2.2.2.2.2.2.1) && ((x1.2.2.2.2.2.2.2.2.2.1 == x2.2.2.2.2.2.2.2.2.2.1) && ((x1.2.2.2.2.2.2.2.2.2.2 == x2.2.2.2.2.2.2.2.2.2.2) && (true)))))))))))
(if x3 then g44 a0.2.2.2.2.2.2.2.2.2.2.2.1 a1.2.2.2.2.2.2.2.2.2.2.2.1 else some false).bind fun y4 =>
let x5 := if x3 then y4 else false
(if x5 then g31 a0.2.2.2.2.2.2.2.2.2.2.2.2 a1.2.2.2.2.2.2.2.2.2.2.2.2 else some false).bind fun y6 =>
some (if x5 then y6 else false)
noncomputable def tf47 : TF := .par ⟨[.v YSegment, .v YSegment], .b⟩ (fun x => g47 x.1 x.2)
theorem e47 : evFn (tabU [(31, tf31), (44, tf44), (51, tf51)]) ⟨F47.res, F47.keep, tf47.sg⟩ T47 = fun x => g47 x.1 x.2 := by kernel_rfl
theorem o47 : TOK (EF pg) 47 tf47 := tok_of p47 rfl (tabU_cons o31 (tabU_cons o44 (tabU_cons o51 (tabU_nil)))) ⟨rfl, rfl, by decide⟩ rfl fun x y h => (congrFun e47 x).trans h
/-- heliograph/segment.Check -/
noncomputable def g30 (a0 : Segment) : Option Int :=
let x3 := if (h45 a0.2.1 (1 : Int) (6 : Int)) then (decide (a0.2.2.1 > (0 : Int))) else false
(
if (a0.1 == (1 : Int)) then
(let x5 := (a0.2.2.2.2.2.2.2.2.2.2.2.1.length : Int)
some (((if (if (if (if x3 then (h45 a0.2.2.2.2.2.2.1 (1 : Int) (512 : Int)) else false) then (h45 x5 (1 : Int) (100 : Int)) else false) then (h45 a0.2.2.2.2.2.1 (0 : Int) (IntKind.i64.wrap (a0.2.2.2.2.2.2.1 - x5))) else false) then ((a0.2.2.2.2.2.2.2.2.2.2.1 == (decide (a0.2.2.2.1 > (0 : Int)))) != false) else false), a0.1, a0.2.1, a0.2.2.1, a0.2.2.2.1, a0.2.2.2.2.1, a0.2.2.2.2.2.1, a0.2.2.2.2.2.2.1, a0.2.2.2.2.2.2.2.1, a0.2.2.2.2.2.2.2.2.1, a0.2.2.2.2.2.2.2.2.2.1, a0.2.2.2.2.2.2.2.2.2.2.1, a0.2.2.2.2.2.2.2.2.2.2.2.1, a0.2.2.2.2.2.2.2.2.2.2.2.2, a0.1, a0.2.1, a0.2.2.1, a0.2.2.2.1, (0 : Int), a0.2.2.2.2.2.1, a0.2.2.2.2.2.2.1, (0 : Int), (0 : Int), (0 : Int), a0.2.2.2.2.2.2.2.2.2.2.1, a0.2.2.2.2.2.2.2.2.2.2.2.1, [])))
else
(
if (a0.1 == (2 : Int)) then
(
let x25 := if (if (if (if x3 then (decide (a0.2.2.2.1 > (0 : Int))) else false) then (decide (a0.2.2.2.2.1 > (0 : Int))) else false) then (h45 a0.2.2.2.2.2.2.2.2.1 (1 : Int) (512 : Int)) else false) then (h45 a0.2.2.2.2.2.2.2.1 (0 : Int) (IntKind.i64.wrap (a0.2.2.2.2.2.2.2.2.1 - (1 : Int)))) else false
(if x25 then g46 a0.2.2.2.2.2.2.2.2.2.2.2.2 a0.2.2.2.2.2.2.2.1 a0.2.2.2.2.2.2.2.2.1 else some false).bind fun y26 =>
some (((if x25 then y26 else false), a0.1, a0.2.1, a0.2.2.1, a0.2.2.2.1, a0.2.2.2.2.1, a0.2.2.2.2.2.1, a0.2.2.2.2.2.2.1, a0.2.2.2.2.2.2.2.1, a0.2.2.2.2.2.2.2.2.1, a0.2.2.2.2.2.2.2.2.2.1, a0.2.2.2.2.2.2.2.2.2.2.1, a0.2.2.2.2.2.2.2.2.2.2.2.1, a0.2.2.2.2.2.2.2.2.2.2.2.2, a0.1, a0.2.1, a0.2.2.1, a0.2.2.2.1, a0.2.2.2.2.1, (0 : Int), (0 : Int), a0.2.2.2.2.2.2.2.1, a0.2.2.2.2.2.2.2.2.1, (0 : Int), false, [], a0.2.2.2.2.2.2.2.2.2.2.2.2)))
else
(
if (a0.1 == (3 : Int)) then
(
some (((if x3 then (decide (a0.2.2.2.1 > (0 : Int))) else false), a0.1, a0.2.1, a0.2.2.1, a0.2.2.2.1, a0.2.2.2.2.1, a0.2.2.2.2.2.1, a0.2.2.2.2.2.2.1, a0.2.2.2.2.2.2.2.1, a0.2.2.2.2.2.2.2.2.1, a0.2.2.2.2.2.2.2.2.2.1, a0.2.2.2.2.2.2.2.2.2.2.1, a0.2.2.2.2.2.2.2.2.2.2.2.1, a0.2.2.2.2.2.2.2.2.2.2.2.2, a0.1, a0.2.1, a0.2.2.1, a0.2.2.2.1, (0 : Int), (0 : Int), (0 : Int), (0 : Int), (0 : Int), (0 : Int), false, [], [])))
else
((let x31 := a0.1 == (4 : Int)
if x31 then
(some ((x3, a0.1, x31, a0.1, a0.2.1, a0.2.2.1, a0.2.2.2.1, a0.2.2.2.2.1, a0.2.2.2.2.2.1, a0.2.2.2.2.2.2.1, a0.2.2.2.2.2.2.2.1, a0.2.2.2.2.2.2.2.2.1, a0.2.2.2.2.2.2.2.2.2.1, a0.2.2.2.2.2.2.2.2.2.2.1, a0.2.2.2.2.2.2.2.2.2.2.2.1, a0.2.2.2.2.2.2.2.2.2.2.2.2, a0.1, a0.2.1, a0.2.2.1, (0 : Int), (0 : Int), (0 : Int), (0 : Int), (0 : Int), (0 : Int), (0 : Int), false)))
else
(
some ((x3, a0.1, (a0.1 == (6 : Int)), a0.1, a0.2.1, a0.2.2.1, a0.2.2.2.1, a0.2.2.2.2.1, a0.2.2.2.2.2.1, a0.2.2.2.2.2.2.1, a0.2.2.2.2.2.2.2.1, a0.2.2.2.2.2.2.2.2.1, a0.2.2.2.2.2.2.2.2.2.1, a0.2.2.2.2.2.2.2.2.2.2.1, a0.2.2.2.2.2.2.2.2.2.2.2.1, a0.2.2.2.2.2.2.2.2.2.2.2.2, a0.1, a0.2.1, a0.2.2.1, (0 : Int), (0 : Int), (0 : Int), (0 : Int), (0 : Int), (0 : Int), (0 : Int), false)))).bind fun z33 =>
if z33.2.2.1 then
(
some (((if z33.1 then (h45 z33.2.2.2.2.2.2.2.2.2.2.2.2.1 (0 : Int) (255 : Int)) else false), z33.2.2.2.1, z33.2.2.2.2.1, z33.2.2.2.2.2.1, z33.2.2.2.2.2.2.1, z33.2.2.2.2.2.2.2.1, z33.2.2.2.2.2.2.2.2.1, z33.2.2.2.2.2.2.2.2.2.1, z33.2.2.2.2.2.2.2.2.2.2.1, z33.2.2.2.2.2.2.2.2.2.2.2.1, z33.2.2.2.2.2.2.2.2.2.2.2.2.1, z33.2.2.2.2.2.2.2.2.2.2.2.2.2.1, z33.2.2.2.2.2.2.2.2.2.2.2.2.2.2.1, z33.2.2.2.2.2.2.2.2.2.2.2.2.2.2.2.1, z33.2.2.2.2.2.2.2.2.2.2.2.2.2.2.2.2.1, z33.2.2.2.2.2.2.2.2.2.2.2.2.2.2.2.2.2.1, z33.2.2.2.2.2.2.2.2.2.2.2.2.2.2.2.2.2.2.1, z33.2.2.2.2.2.2.2.2.2.2.2.2.2.2.2.2.2.2.2.1, z33.2.2.2.2.2.2.2.2.2.2.2.2.2.2.2.2.2.2.2.2.1, z33.2.2.2.2.2.2.2.2.2.2.2.2.2.2.2.2.2.2.2.2.2.1, z33.2.2.2.2.2.2.2.2.2.2.2.2.2.2.2.2.2.2.2.2.2.2.1, z33.2.2.2.2.2.2.2.2.2.2.2.2.2.2.2.2.2.2.2.2.2.2.2.1, z33.2.2.2.2.2.2.2.2.2.2.2.2.2.2.2.2.2.2.2.2.2.2.2.2.1, z33.2.2.2.2.2.2.2.2.2.2.2.2.1, z33.2.2.2.2.2.2.2.2.2.2.2.2.2.2.2.2.2.2.2.2.2.2.2.2.2.2, [], [])))
else
(let x36 := z33.2.1 == (5 : Int)
if x36 then
(if x36 then
(some ((z33.1, z33.2.2.2.1, z33.2.2.2.2.1, z33.2.2.2.2.2.1, z33.2.2.2.2.2.2.1, z33.2.2.2.2.2.2.2.1, z33.2.2.2.2.2.2.2.2.1, z33.2.2.2.2.2.2.2.2.2.1, z33.2.2.2.2.2.2.2.2.2.2.1, z33.2.2.2.2.2.2.2.2.2.2.2.1, z33.2.2.2.2.2.2.2.2.2.2.2.2.1, z33.2.2.2.2.2.2.2.2.2.2.2.2.2.1, z33.2.2.2.2.2.2.2.2.2.2.2.2.2.2.1, z33.2.2.2.2.2.2.2.2.2.2.2.2.2.2.2.1, z33.2.2.2.2.2.2.2.2.2.2.2.2.2.2.2.2.1, z33.2.2.2.2.2.2.2.2.2.2.2.2.2.2.2.2.2.1, z33.2.2.2.2.2.2.2.2.2.2.2.2.2.2.2.2.2.2.1, z33.2.2.2.2.2.2.2.2.2.2.2.2.2.2.2.2.2.2.2.1, z33.2.2.2.2.2.2.2.2.2.2.2.2.2.2.2.2.2.2.2.2.1, z33.2.2.2.2.2.2.2.2.2.2.2.2.2.2.2.2.2.2.2.2.2.1, z33.2.2.2.2.2.2.2.2.2.2.2.2.2.2.2.2.2.2.2.2.2.2.1, z33.2.2.2.2.2.2.2.2.2.2.2.2.2.2.2.2.2.2.2.2.2.2.2.1, z33.2.2.2.2.2.2.2.2.2.2.2.2.2.2.2.2.2.2.2.2.2.2.2.2.1, z33.2.2.2.2.2.2.2.2.2.2.2.2.2.2.2.2.2.2.2.2.2.2.2.2.2.1, z33.2.2.2.2.2.2.2.2.2.2.2.2.2.2.2.2.2.2.2.2.2.2.2.2.2.2, [], [])))
else
(some ((false, z33.2.2.2.1, z33.2.2.2.2.1, z33.2.2.2.2.2.1, z33.2.2.2.2.2.2.1, z33.2.2.2.2.2.2.2.1, z33.2.2.2.2.2.2.2.2.1, z33.2.2.2.2.2.2.2.2.2.1, z33.2.2.2.2.2.2.2.2.2.2.1, z33.2.2.2.2.2.2.2.2.2.2.2.1, z33.2.2.2.2.2.2.2.2.2.2.2.2.1, z33.2.2.2.2.2.2.2.2.2.2.2.2.2.1, z33.2.2.2.2.2.2.2.2.2.2.2.2.2.2.1, z33.2.2.2.2.2.2.2.2.2.2.2.2.2.2.2.1, z33.2.2.2.2.2.2.2.2.2.2.2.2.2.2.2.2.1, z33.2.2.2.2.2.2.2.2.2.2.2.2.2.2.2.2.2.1, z33.2.2.2.2.2.2.2.2.2.2.2.2.2.2.2.2.2.2.1, z33.2.2.2.2.2.2.2.2.2.2.2.2.2.2.2.2.2.2.2.1, z33.2.2.2.2.2.2.2.2.2.2.2.2.2.2.2.2.2.2.2.2.1, z33.2.2.2.2.2.2.2.2.2.2.2.2.2.2.2.2.2.2.2.2.2.1, z33.2.2.2.2.2.2.2.2.2.2.2.2.2.2.2.2.2.2.2.2.2.2.1, z33.2.2.2.2.2.2.2.2.2.2.2.2.2.2.2.2.2.2.2.2.2.2.2.1, z33.2.2.2.2.2.2.2.2.2.2.2.2.2.2.2.2.2.2.2.2.2.2.2.2.1, z33.2.2.2.2.2.2.2.2.2.2.2.2.2.2.2.2.2.2.2.2.2.2.2.2.2.1, z33.2.2.2.2.2.2.2.2.2.2.2.2.2.2.2.2.2.2.2.2.2.2.2.2.2.2, [], []))))
else
(
if (z33.2.1 == (7 : Int)) then
(some ((z33.1, z33.2.2.2.1, z33.2.2.2.2.1, z33.2.2.2.2.2.1, z33.2.2.2.2.2.2.1, z33.2.2.2.2.2.2.2.1, z33.2.2.2.2.2.2.2.2.1, z33.2.2.2.2.2.2.2.2.2.1, z33.2.2.2.2.2.2.2.2.2.2.1, z33.2.2.2.2.2.2.2.2.2.2.2.1, z33.2.2.2.2.2.2.2.2.2.2.2.2.1, z33.2.2.2.2.2.2.2.2.2.2.2.2.2.1, z33.2.2.2.2.2.2.2.2.2.2.2.2.2.2.1, z33.2.2.2.2.2.2.2.2.2.2.2.2.2.2.2.1, z33.2.2.2.2.2.2.2.2.2.2.2.2.2.2.2.2.1, z33.2.2.2.2.2.2.2.2.2.2.2.2.2.2.2.2.2.1, z33.2.2.2.2.2.2.2.2.2.2.2.2.2.2.2.2.2.2.1, z33.2.2.2.2.2.2.2.2.2.2.2.2.2.2.2.2.2.2.2.1, z33.2.2.2.2.2.2.2.2.2.2.2.2.2.2.2.2.2.2.2.2.1, z33.2.2.2.2.2.2.2.2.2.2.2.2.2.2.2.2.2.2.2.2.2.1, z33.2.2.2.2.2.2.2.2.2.2.2.2.2.2.2.2.2.2.2.2.2.2.1, z33.2.2.2.2.2.2.2.2.2.2.2.2.2.2.2.2.2.2.2.2.2.2.2.1, z33.2.2.2.2.2.2.2.2.2.2.2.2.2.2.2.2.2.2.2.2.2.2.2.2.1, z33.2.2.2.2.2.2.2.2.2.2.2.2.2.2.2.2.2.2.2.2.2.2.2.2.2.1, z33.2.2.2.2.2.2.2.2.2.2.2.2.2.2.2.2.2.2.2.2.2.2.2.2.2.2, [], [])))
else
(some ((false, z33.2.2.2.1, z33.2.2.2.2.1, z33.2.2.2.2.2.1, z33.2.2.2.2.2.2.1, z33.2.2.2.2.2.2.2.1, z33.2.2.2.2.2.2.2.2.1, z33.2.2.2.2.2.2.2.2.2.1, z33.2.2.2.2.2.2.2.2.2.2.1, z33.2.2.2.2.2.2.2.2.2.2.2.1, z33.2.2.2.2.2.2.2.2.2.2.2.2.1, z33.2.2.2.2.2.2.2.2.2.2.2.2.2.1, z33.2.2.2.2.2.2.2.2.2.2.2.2.2.2.1, z33.2.2.2.2.2.2.2.2.2.2.2.2.2.2.2.1, z33.2.2.2.2.2.2.2.2.2.2.2.2.2.2.2.2.1, z33.2.2.2.2.2.2.2.2.2.2.2.2.2.2.2.2.2.1, z33.2.2.2.2.2.2.2.2.2.2.2.2.2.2.2.2.2.2.1, z33.2.2.2.2.2.2.2.2.2.2.2.2.2.2.2.2.2.2.2.1, z33.2.2.2.2.2.2.2.2.2.2.2.2.2.2.2.2.2.2.2.2.1, z33.2.2.2.2.2.2.2.2.2.2.2.2.2.2.2.2.2.2.2.2.2.1, z33.2.2.2.2.2.2.2.2.2.2.2.2.2.2.2.2.2.2.2.2.2.2.1, z33.2.2.2.2.2.2.2.2.2.2.2.2.2.2.2.2.2.2.2.2.2.2.2.1, z33.2.2.2.2.2.2.2.2.2.2.2.2.2.2.2.2.2.2.2.2.2.2.2.2.1, z33.2.2.2.2.2.2.2.2.2.2.2.2.2.2.2.2.2.2.2.2.2.2.2.2.2.1, z33.2.2.2.2.2.2.2.2.2.2.2.2.2.2.2.2.2.2.2.2.2.2.2.2.2.2, [], []))))))))).bind fun z38 =>
let x39 := !z38.1
(if (!x39) then g47 (z38.2.1, z38.2.2.1, z38.2.2.2.1, z38.2.2.2.2.1, z38.2.2.2.2.2.1, z38.2.2.2.2.2.2.1, z38.2.2.2.2.2.2.2.1, z38.2.2.2.2.2.2.2.2.1, z38.2.2.2.2.2.2.2.2.2.1, z38.2.2.2.2.2.2.2.2.2.2.1, z38.2.2.2.2.2.2.2.2.2.2.2.1, z38.2.2.2.2.2.2.2.2.2.2.2.2.1, z38.2.2.2.2.2.2.2.2.2.2.2.2.2.1) z38.2.2.2.2.2.2.2.2.2.2.2.2.2.2 else some false).bind fun y40 =>
if (if x39 then true else (!y40)) then
(some (200 : Int))
else
(some (0 : Int))
noncomputable def tf30 : TF := .par ⟨[.v YSegment], (.i .i64)⟩ (fun x => g30 x)
theorem e30 : evFn (tabU [(45, tf45), (46, tf46), (47, tf47)]) ⟨F30.res, F30.keep, tf30.sg⟩ T30 = fun x => g30 x := by kernel_rfl
theorem o30 : TOK (EF pg) 30 tf30 := tok_of p30 rfl (tabU_cons o45 (tabU_cons o46 (tabU_cons o47 (tabU_nil)))) ⟨rfl, rfl, by decide⟩ rfl fun x y h => (congrFun e30 x).trans h
/-- heliograph/receiver.rows -/
noncomputable def g53x0 (s : (Int → Option Bool) × (List Claim) × Int × Int) : Option (((Int → Option Bool) × (List Claim) × Int × Int) ⊕ ((List Claim))) :=
if (decide (s.2.2.2 < s.2.2.1)) then
(let x2 := IntKind.i64.wrap ((s.2.1.length : Int) - (1 : Int))
(eqI (s.2.1.length : Int) (s.2.1.length : Int)).bind fun y3 =>
(s.1 s.2.2.2).bind fun y4 =>
if (!y4) then
(
some (Sum.inl (s.1, s.2.1, s.2.2.1, (IntKind.i64.wrap (s.2.2.2 + (1 : Int))))))
else
(let x7 := decide (x2 ≥ (0 : Int))
(if x7 then chkI x2 (s.2.1.length : Int) else some ()).bind fun y8 =>
(if x7 then idx s.2.1 x2 else some ((0 : Int), (0 : Int))).bind fun y9 =>
(if x7 then chkI x2 (s.2.1.length : Int) else some ()).bind fun y10 =>
(if x7 then idx s.2.1 x2 else some ((0 : Int), (0 : Int))).bind fun y11 =>
(eqI (s.2.1.length : Int) (s.2.1.length : Int)).bind fun y15 =>
if (if x7 then ((IntKind.i64.wrap (y9.1 + y11.2)) == s.2.2.2) else false) then
((chkI x2 (s.2.1.length : Int)).bind fun y16 =>
(idx s.2.1 x2).bind fun y17 =>
(chkI x2 (s.2.1.length : Int)).bind fun y19 =>
(idx s.2.1 x2).bind fun y20 =>
(eqI (s.2.1.length : Int) (s.2.1.length : Int)).bind fun y22 =>
some (Sum.inl (s.1, (List.set s.2.1 (Int.toNat x2) (y20.1, (IntKind.i64.wrap (y17.2 + (1 : Int))))), s.2.2.1, (IntKind.i64.wrap (s.2.2.2 + (1 : Int))))))
else
((apd 16 s.2.1 ([(s.2.2.2, (1 : Int))])).bind fun y24 =>
some (Sum.inl (s.1, y24, s.2.2.1, (IntKind.i64.wrap (s.2.2.2 + (1 : Int))))))))
else
(some (Sum.inr s.2.1))
noncomputable def g53 (a0 : Int) (a1 : Int → Option Bool) : Option (List Claim) :=
(lpU g53x0 (a1, [], a0, (0 : Int))).bind fun z26 =>
some z26
noncomputable def tf53 : TF := .par ⟨[.v (.i .i64), .v (.fn (.i .i64) .b)], (.l .mu YClaim)⟩ (fun x => g53 x.1 x.2)
theorem e53 : evFn (tabU []) ⟨F53.res, F53.keep, tf53.sg⟩ T53 = fun x => g53 x.1 x.2 := by kernel_rfl
theorem o53 : TOK (EF pg) 53 tf53 := tok_of p53 rfl (tabU_nil) ⟨rfl, rfl, by decide⟩ rfl fun x y h => (congrFun e53 x).trans h
/-- heliograph/receiver.covered$1 -/
noncomputable def h57 (a0 : Claim) (a1 : Int) : Bool :=
(if (decide (a1 ≥ a0.1)) then (decide ((IntKind.i64.wrap (a1 - a0.1)) < a0.2)) else false)
noncomputable def tf57 : TF := .tot ⟨[.v YClaim, .o (.i .i64)], .b⟩ (fun x => h57 x.1 x.2)
theorem e57 : evFn (tabU []) ⟨F57.res, F57.keep, tf57.sg⟩ T57 = fun x => some (h57 x.1 x.2) := by kernel_rfl
theorem o57 : TOK (EF pg) 57 tf57 := tok_of p57 rfl (tabU_nil) ⟨rfl, rfl, by decide⟩ rfl fun x y h => (congrFun e57 x).trans h
/-- slices.IndexFunc[[]heliograph/api.Claim,heliograph/api.Claim] -/
noncomputable def g58x0 (s : (List Claim) × (Claim → Option Bool) × Int × Int) : Option (((List Claim) × (Claim → Option Bool) × Int × Int) ⊕ (Unit ⊕ Int)) :=
if (decide (s.2.2.2 < s.2.2.1)) then
((idx s.1 s.2.2.2).bind fun y3 =>
(s.2.1 y3).bind fun y4 =>
if y4 then
(some (Sum.inr (Sum.inr (s.2.2.2))))
else
(
some (Sum.inl (s.1, s.2.1, s.2.2.1, (IntKind.i64.wrap (s.2.2.2 + (1 : Int)))))))
else
(some (Sum.inr (Sum.inl ())))
noncomputable def g58 (a0 : List Claim) (a1 : Claim → Option Bool) : Option Int :=
(lpU g58x0 (a0, a1, (a0.length : Int), (0 : Int))).bind fun z6 =>
match z6 with
| Sum.inl z7 => (some (-1 : Int))
| Sum.inr z8 => (some z8)
noncomputable def tf58 : TF := .par ⟨[.v (.l .ro YClaim), .v (.fn YClaim .b)], (.i .i64)⟩ (fun x => g58 x.1 x.2)
theorem e58 : evFn (tabU []) ⟨F58.res, F58.keep, tf58.sg⟩ T58 = fun x => g58 x.1 x.2 := by kernel_rfl
theorem o58 : TOK (EF pg) 58 tf58 := tok_of p58 rfl (tabU_nil) ⟨rfl, rfl, by decide⟩ rfl fun x y h => (congrFun e58 x).trans h
/-- slices.ContainsFunc[[]heliograph/api.Claim,heliograph/api.Claim] -/
noncomputable def g56 (a0 : List Claim) (a1 : Claim → Option Bool) : Option Bool :=
(g58 a0 a1).bind fun y1 =>
some (decide (y1 ≥ (0 : Int)))
noncomputable def tf56 : TF := .par ⟨[.v (.l .ro YClaim), .v (.fn YClaim .b)], .b⟩ (fun x => g56 x.1 x.2)
theorem e56 : evFn (tabU [(58, tf58)]) ⟨F56.res, F56.keep, tf56.sg⟩ T56 = fun x => g56 x.1 x.2 := by kernel_rfl
theorem o56 : TOK (EF pg) 56 tf56 := tok_of p56 rfl (tabU_cons o58 (tabU_nil)) ⟨rfl, rfl, by decide⟩ rfl fun x y h => (congrFun e56 x).trans h
/-- heliograph/receiver.covered -/
noncomputable def g55 (a0 : List Claim) (a1 : Int) : Option Bool :=
(g56 a0 (fun v1 => some (h57 v1 a1))).bind fun y2 =>
some y2
noncomputable def tf55 : TF := .par ⟨[.v (.l .ro YClaim), .v (.i .i64)], .b⟩ (fun x => g55 x.1 x.2)
theorem e55 : evFn (tabU [(56, tf56), (57, tf57)]) ⟨F55.res, F55.keep, tf55.sg⟩ T55 = fun x => g55 x.1 x.2 := by kernel_rfl
theorem o55 : TOK (EF pg) 55 tf55 := tok_of p55 rfl (tabU_cons o56 (tabU_cons o57 (tabU_nil))) ⟨rfl, rfl, by decide⟩ rfl fun x y h => (congrFun e55 x).trans h
/-- heliograph/receiver.fits -/
noncomputable def g52x0 (s : (List Int) × Int × Int × Int × Int × Int × (List Int) × (List Claim) × Int × Int × Int × Int × Int × Int × Int × Int × Int × Int × Int × Int × Int × Int × Bool × (List Int) × List Claim) : Option (((List Int) × Int × Int × Int × Int × Int × (List Int) × (List Claim) × Int × Int × Int × Int × Int × Int × Int × Int × Int × Int × Int × Int × Int × Int × Bool × (List Int) × List Claim) ⊕ (Unit ⊕ Bool)) :=
if (decide (s.2.2.1 < s.2.1)) then
((idx s.1 s.2.2.1).bind fun y4 =>
let x5 := IntKind.i64.wrap (s.2.2.2.2.2.2.2.2.2.2.2.2.2.2.2.2.2.1 + s.2.2.1)
(g55 s.2.2.2.2.2.2.2.1 x5).bind fun y6 =>
if (!y6) then
(
some (Sum.inl (s.1, s.2.1, (IntKind.i64.wrap (s.2.2.1 + (1 : Int))), s.2.2.2.1, s.2.2.2.2.1, s.2.2.2.2.2.1, s.2.2.2.2.2.2.1, s.2.2.2.2.2.2.2.1, s.2.2.2.2.2.2.2.2.1, s.2.2.2.2.2.2.2.2.2.1, s.2.2.2.2.2.2.2.2.2.2.1, s.2.2.2.2.2.2.2.2.2.2.2.1, s.2.2.2.2.2.2.2.2.2.2.2.2.1, s.2.2.2.2.2.2.2.2.2.2.2.2.2.1, s.2.2.2.2.2.2.2.2.2.2.2.2.2.2.1, s.2.2.2.2.2.2.2.2.2.2.2.2.2.2.2.1, s.2.2.2.2.2.2.2.2.2.2.2.2.2.2.2.2.1, s.2.2.2.2.2.2.2.2.2.2.2.2.2.2.2.2.2.1, s.2.2.2.2.2.2.2.2.2.2.2.2.2.2.2.2.2.2.1, s.2.2.2.2.2.2.2.2.2.2.2.2.2.2.2.2.2.2.2.1, s.2.2.2.2.2.2.2.2.2.2.2.2.2.2.2.2.2.2.2.2.1, s.2.2.2.2.2.2.2.2.2.2.2.2.2.2.2.2.2.2.2.2.2.1, s.2.2.2.2.2.2.2.2.2.2.2.2.2.2.2.2.2.2.2.2.2.2.1, s.2.2.2.2.2.2.2.2.2.2.2.2.2.2.2.2.2.2.2.2.2.2.2.1, s.2.2.2.2.2.2.2.2.2.2.2.2.2.2.2.2.2.2.2.2.2.2.2.2)))
else
((idx s.2.2.2.2.2.2.1 x5).bind fun y9 =>
if (y9 != y4) then
(some (Sum.inr (Sum.inr (false))))
else
(
some (Sum.inl (s.1, s.2.1, (IntKind.i64.wrap (s.2.2.1 + (1 : Int))), s.2.2.2.1, s.2.2.2.2.1, s.2.2.2.2.2.1, s.2.2.2.2.2.2.1, s.2.2.2.2.2.2.2.1, s.2.2.2.2.2.2.2.2.1, s.2.2.2.2.2.2.2.2.2.1, s.2.2.2.2.2.2.2.2.2.2.1, s.2.2.2.2.2.2.2.2.2.2.2.1, s.2.2.2.2.2.2.2.2.2.2.2.2.1, s.2.2.2.2.2.2.2.2.2.2.2.2.2.1, s.2.2.2.2.2.2.2.2.2.2.2.2.2.2.1, s.2.2.2.2.2.2.2.2.2.2.2.2.2.2.2.1, s.2.2.2.2.2.2.2.2.2.2.2.2.2.2.2.2.1, s.2.2.2.2.2.2.2.2.2.2.2.2.2.2.2.2.2.1, s.2.2.2.2.2.2.2.2.2.2.2.2.2.2.2.2.2.2.1, s.2.2.2.2.2.2.2.2.2.2.2.2.2.2.2.2.2.2.2.1, s.2.2.2.2.2.2.2.2.2.2.2.2.2.2.2.2.2.2.2.2.1, s.2.2.2.2.2.2.2.2.2.2.2.2.2.2.2.2.2.2.2.2.2.1, s.2.2.2.2.2.2.2.2.2.2.2.2.2.2.2.2.2.2.2.2.2.2.1, s.2.2.2.2.2.2.2.2.2.2.2.2.2.2.2.2.2.2.2.2.2.2.2.1, s.2.2.2.2.2.2.2.2.2.2.2.2.2.2.2.2.2.2.2.2.2.2.2.2)))))
else
(some (Sum.inr (Sum.inl ())))
noncomputable def g52 (a0 : Taking) (a1 : Segment) : Option Bool :=
if (a1.2.2.2.2.2.2.1 != a0.2.2.1) then
(some false)
else
(
(lpU g52x0 (a1.2.2.2.2.2.2.2.2.2.2.2.1, (a1.2.2.2.2.2.2.2.2.2.2.2.1.length : Int), (0 : Int), a0.1, a0.2.1, a0.2.2.1, a0.2.2.2.1, a0.2.2.2.2.1, a0.2.2.2.2.2.1, a0.2.2.2.2.2.2.1, a0.2.2.2.2.2.2.2.1, a0.2.2.2.2.2.2.2.2, a1.1, a1.2.1, a1.2.2.1, a1.2.2.2.1, a1.2.2.2.2.1, a1.2.2.2.2.2.1, a1.2.2.2.2.2.2.1, a1.2.2.2.2.2.2.2.1, a1.2.2.2.2.2.2.2.2.1, a1.2.2.2.2.2.2.2.2.2.1, a1.2.2.2.2.2.2.2.2.2.2.1, a1.2.2.2.2.2.2.2.2.2.2.2.1, a1.2.2.2.2.2.2.2.2.2.2.2.2)).bind fun z12 =>
match z12 with
| Sum.inl z13 => (some true)
| Sum.inr z14 => (some z14))
noncomputable def tf52 : TF := .par ⟨[.v YTaking, .v YSegment], .b⟩ (fun x => g52 x.1 x.2)
theorem e52 : evFn (tabU [(55, tf55)]) ⟨F52.res, F52.keep, tf52.sg⟩ T52 = fun x => g52 x.1 x.2 := by kernel_rfl
theorem o52 : TOK (EF pg) 52 tf52 := tok_of p52 rfl (tabU_cons o55 (tabU_nil)) ⟨rfl, rfl, by decide⟩ rfl fun x y h => (congrFun e52 x).trans h
/-- heliograph/receiver.data$1 -/
noncomputable def g54 (a0 : Int) (a1 : List Claim) (a2 : Segment) : Option Bool :=
(g55 a1 a0).bind fun y1 =>
some (if y1 then true else (if (decide (a0 ≥ a2.2.2.2.2.2.1)) then (decide ((IntKind.i64.wrap (a0 - a2.2.2.2.2.2.1)) < (a2.2.2.2.2.2.2.2.2.2.2.2.1.length : Int))) else false))
noncomputable def tf54 : TF := .par ⟨[.v (.i .i64), .o (.l .ro YClaim), .o (.p (.i .i64) (.p (.i .i64) (.p (.i .u32) (.p (.i .u32) (.p (.i .u32) (.p (.i .i64) (.p (.i .i64) (.p (.i .i64) (.p (.i .i64) (.p (.i .i64) (.p .b (.p (.l .ro (.i .u8)) (.l .ro YClaim)))))))))))))], .b⟩ (fun x => g54 x.1 x.2.1 x.2.2)
theorem e54 : evFn (tabU [(55, tf55)]) ⟨F54.res, F54.keep, tf54.sg⟩ T54 = fun x => g54 x.1 x.2.1 x.2.2 := by kernel_rfl
theorem o54 : TOK (EF pg) 54 tf54 := tok_of p54 rfl (tabU_cons o55 (tabU_nil)) ⟨rfl, rfl, by decide⟩ rfl fun x y h => (congrFun e54 x).trans h
/-- heliograph/receiver.data -/
noncomputable def g48 (a0 : Int × Int × Int × (List Int) × (List Claim) × Int × Int × Int × Int) (a1 : Segment) : Option (Taking × List Segment) :=
if (a0.2.2.2.2.2.2.1 == (4 : Int)) then
(some (a0, []))
else
(((eqI (a0.2.2.2.1.length : Int) (a0.2.2.2.1.length : Int)).bind fun _ => g52 a0 a1).bind fun y2 =>
(eqI (a0.2.2.2.1.length : Int) (a0.2.2.2.1.length : Int)).bind fun y4 =>
if (!y2) then
((mkl 1 a0.2.2.1 a0.2.2.1 (0 : Int)).bind fun y5 =>
some ((a0.1, a0.2.1, a0.2.2.1, y5, [], a0.2.2.2.2.2.1, (4 : Int), a0.2.2.2.2.2.2.2.1, a0.2.2.2.2.2.2.2.2), [(h42 (a0.1, a0.2.1, a0.2.2.1, y5, [], a0.2.2.2.2.2.1, (4 : Int), a0.2.2.2.2.2.2.2.1, a0.2.2.2.2.2.2.2.2) (3 : Int))]))
else
((chkS a1.2.2.2.2.2.1 (a0.2.2.2.1.length : Int) (a0.2.2.2.1.length : Int)).bind fun y7 =>
(cpyL a0.2.2.2.1 a1.2.2.2.2.2.1 ((a0.2.2.2.1.length : Int) - a1.2.2.2.2.2.1 : Int) a1.2.2.2.2.2.2.2.2.2.2.2.1).bind fun y9 =>
(eqI (a0.2.2.2.1.length : Int) (a0.2.2.2.1.length : Int)).bind fun y10 =>
(g53 a0.2.2.1 (fun v11 => (g54 v11 a0.2.2.2.2.1 a1).bind some)).bind fun y12 =>
(((eqI (y9.length : Int) (y9.length : Int)).bind fun _ => g32 (a0.1, a0.2.1, a0.2.2.1, y9, y12, a0.2.2.2.2.2.1, a0.2.2.2.2.2.2.1, a0.2.2.2.2.2.2.2.1, a0.2.2.2.2.2.2.2.2)).bind fun y13 =>
(eqI (y9.length : Int) (y9.length : Int)).bind fun y14 =>
if y13 then
(some ((a0.1, a0.2.1, a0.2.2.1, y9, y12, a0.2.2.2.2.2.1, (2 : Int), a0.2.2.2.2.2.2.2.1, a0.2.2.2.2.2.2.2.2, a1.1, a1.2.1, a1.2.2.1, a1.2.2.2.1, a1.2.2.2.2.1, a1.2.2.2.2.2.1, a1.2.2.2.2.2.2.1, a1.2.2.2.2.2.2.2.1, a1.2.2.2.2.2.2.2.2.1, a1.2.2.2.2.2.2.2.2.2.1, a1.2.2.2.2.2.2.2.2.2.2.1, a1.2.2.2.2.2.2.2.2.2.2.2.1, a1.2.2.2.2.2.2.2.2.2.2.2.2, (0 : Int), (0 : Int), (0 : Int), (0 : Int), (0 : Int), (0 : Int), (0 : Int))))
else
(some ((a0.1, a0.2.1, a0.2.2.1, y9, y12, a0.2.2.2.2.2.1, a0.2.2.2.2.2.2.1, a0.2.2.2.2.2.2.2.1, a0.2.2.2.2.2.2.2.2, a1.1, a1.2.1, a1.2.2.1, a1.2.2.2.1, a1.2.2.2.2.1, a1.2.2.2.2.2.1, a1.2.2.2.2.2.2.1, a1.2.2.2.2.2.2.2.1, a1.2.2.2.2.2.2.2.2.1, a1.2.2.2.2.2.2.2.2.2.1, a1.2.2.2.2.2.2.2.2.2.2.1, a1.2.2.2.2.2.2.2.2.2.2.2.1, a1.2.2.2.2.2.2.2.2.2.2.2.2, (0 : Int), (0 : Int), (0 : Int), (0 : Int), (0 : Int), (0 : Int), (0 : Int))))).bind fun z15 =>
if (!z15.2.2.2.2.2.2.2.2.2.2.2.2.2.2.2.2.2.2.2.1) then
(some ((z15.1, z15.2.1, z15.2.2.1, z15.2.2.2.1, z15.2.2.2.2.1, z15.2.2.2.2.2.1, z15.2.2.2.2.2.2.1, z15.2.2.2.2.2.2.2.1, z15.2.2.2.2.2.2.2.2.1), []))
else
((let x17 := IntKind.u32.wrap (z15.2.2.2.2.2.1 + (1 : Int))
if (x17 == (0 : Int)) then
(some ((z15.1, z15.2.1, z15.2.2.1, z15.2.2.2.1, z15.2.2.2.2.1, (1 : Int), z15.2.2.2.2.2.2.1, z15.2.2.2.2.2.2.2.1, z15.2.2.2.2.2.2.2.2.1, z15.2.2.2.2.2.2.2.2.2.1, z15.2.2.2.2.2.2.2.2.2.2.1, z15.2.2.2.2.2.2.2.2.2.2.2.1, z15.2.2.2.2.2.2.2.2.2.2.2.2.1, z15.2.2.2.2.2.2.2.2.2.2.2.2.2.1, z15.2.2.2.2.2.2.2.2.2.2.2.2.2.2.1, z15.2.2.2.2.2.2.2.2.2.2.2.2.2.2.2.1, z15.2.2.2.2.2.2.2.2.2.2.2.2.2.2.2.2.1, z15.2.2.2.2.2.2.2.2.2.2.2.2.2.2.2.2.2.1, z15.2.2.2.2.2.2.2.2.2.2.2.2.2.2.2.2.2.2.1, z15.2.2.2.2.2.2.2.2.2.2.2.2.2.2.2.2.2.2.2.1, z15.2.2.2.2.2.2.2.2.2.2.2.2.2.2.2.2.2.2.2.2.1, z15.2.2.2.2.2.2.2.2.2.2.2.2.2.2.2.2.2.2.2.2.2.1, z15.2.2.2.2.2.2.2.2.2.2.2.2.2.2.2.2.2.2.2.2.2.2.1, z15.2.2.2.2.2.2.2.2.2.2.2.2.2.2.2.2.2.2.2.2.2.2.2.1, z15.2.2.2.2.2.2.2.2.2.2.2.2.2.2.2.2.2.2.2.2.2.2.2.2.1, z15.2.2.2.2.2.2.2.2.2.2.2.2.2.2.2.2.2.2.2.2.2.2.2.2.2.1, z15.2.2.2.2.2.2.2.2.2.2.2.2.2.2.2.2.2.2.2.2.2.2.2.2.2.2.1, z15.2.2.2.2.2.2.2.2.2.2.2.2.2.2.2.2.2.2.2.2.2.2.2.2.2.2.2.1, z15.2.2.2.2.2.2.2.2.2.2.2.2.2.2.2.2.2.2.2.2.2.2.2.2.2.2.2.2)))
else
(some ((z15.1, z15.2.1, z15.2.2.1, z15.2.2.2.1, z15.2.2.2.2.1, x17, z15.2.2.2.2.2.2.1, z15.2.2.2.2.2.2.2.1, z15.2.2.2.2.2.2.2.2.1, z15.2.2.2.2.2.2.2.2.2.1, z15.2.2.2.2.2.2.2.2.2.2.1, z15.2.2.2.2.2.2.2.2.2.2.2.1, z15.2.2.2.2.2.2.2.2.2.2.2.2.1, z15.2.2.2.2.2.2.2.2.2.2.2.2.2.1, z15.2.2.2.2.2.2.2.2.2.2.2.2.2.2.1, z15.2.2.2.2.2.2.2.2.2.2.2.2.2.2.2.1, z15.2.2.2.2.2.2.2.2.2.2.2.2.2.2.2.2.1, z15.2.2.2.2.2.2.2.2.2.2.2.2.2.2.2.2.2.1, z15.2.2.2.2.2.2.2.2.2.2.2.2.2.2.2.2.2.2.1, z15.2.2.2.2.2.2.2.2.2.2.2.2.2.2.2.2.2.2.2.1, z15.2.2.2.2.2.2.2.2.2.2.2.2.2.2.2.2.2.2.2.2.1, z15.2.2.2.2.2.2.2.2.2.2.2.2.2.2.2.2.2.2.2.2.2.1, z15.2.2.2.2.2.2.2.2.2.2.2.2.2.2.2.2.2.2.2.2.2.2.1, z15.2.2.2.2.2.2.2.2.2.2.2.2.2.2.2.2.2.2.2.2.2.2.2.1, z15.2.2.2.2.2.2.2.2.2.2.2.2.2.2.2.2.2.2.2.2.2.2.2.2.1, z15.2.2.2.2.2.2.2.2.2.2.2.2.2.2.2.2.2.2.2.2.2.2.2.2.2.1, z15.2.2.2.2.2.2.2.2.2.2.2.2.2.2.2.2.2.2.2.2.2.2.2.2.2.2.1, z15.2.2.2.2.2.2.2.2.2.2.2.2.2.2.2.2.2.2.2.2.2.2.2.2.2.2.2.1, z15.2.2.2.2.2.2.2.2.2.2.2.2.2.2.2.2.2.2.2.2.2.2.2.2.2.2.2.2)))).bind fun z19 =>
let x20 := h49 (z19.1, z19.2.1, z19.2.2.1, z19.2.2.2.1, z19.2.2.2.2.1, z19.2.2.2.2.2.1, z19.2.2.2.2.2.2.1, z19.2.2.2.2.2.2.2.1, z19.2.2.2.2.2.2.2.2.1) (2 : Int)
let x21 := (z19.2.2.2.2.1.length : Int)
(cut z19.2.2.2.2.1 0 (if (20 : Int) < x21 then (20 : Int) else x21)).bind fun y23 =>
(g41 y23).bind fun y24 =>
some ((z19.1, z19.2.1, z19.2.2.1, z19.2.2.2.1, z19.2.2.2.2.1, z19.2.2.2.2.2.1, z19.2.2.2.2.2.2.1, z19.2.2.2.2.2.2.2.1, z19.2.2.2.2.2.2.2.2.1), [(x20.1, x20.2.1, x20.2.2.1, z19.2.2.2.2.2.1, z19.2.2.2.2.2.2.2.2.2.2.2.2.1, x20.2.2.2.2.2.1, x20.2.2.2.2.2.2.1, x20.2.2.2.2.2.2.2.1, z19.2.2.1, x20.2.2.2.2.2.2.2.2.2.1, x20.2.2.2.2.2.2.2.2.2.2.1, x20.2.2.2.2.2.2.2.2.2.2.2.1, y24)]))))
noncomputable def tf48 : TF := .par ⟨[.v (.g (.p (.i .i64) (.p (.i .u32) (.p (.i .i64) (.p (.l .mu (.i .u8)) (.p (.l .app YClaim) (.p (.i .u32) (.p (.i .i64) (.p (.i .i64) (.i .i64)))))))))), .v YSegment], (.t YTaking (.l .ro YSegment))⟩ (fun x => g48 x.1 x.2)
theorem e48 : evFn (tabU [(32, tf32), (41, tf41), (42, tf42), (49, tf49), (52, tf52), (53, tf53), (54, tf54)]) ⟨F48.res, F48.keep, tf48.sg⟩ T48 = fun x => g48 x.1 x.2 := by kernel_rfl
theorem o48 : TOK (EF pg) 48 tf48 := tok_of p48 rfl (tabU_cons o32 (tabU_cons o41 (tabU_cons o42 (tabU_cons o49 (tabU_cons o52 (tabU_cons o53 (tabU_cons o54 (tabU_nil)))))))) ⟨rfl, rfl, by decide⟩ rfl fun x y h => (congrFun e48 x).trans h
/-- heliograph/receiver.take -/
noncomputable def g36 (a0 : Taking) (a1 : Segment) (a2 : Int) : Option (Taking × List Segment) :=
(g33 a0.2.2.2.1).bind fun y1 =>
(g41 a0.2.2.2.2.1).bind fun y2 =>
let x3 := IntKind.i64.wrap (a2 + a0.2.2.2.2.2.2.2.1)
if (a1.1 == (1 : Int)) then
((g48 (a0.1, a0.2.1, a0.2.2.1, y1, y2, a0.2.2.2.2.2.1, a0.2.2.2.2.2.2.1, a0.2.2.2.2.2.2.2.1, x3) a1).bind fun y5 =>
some (y5.1, y5.2))
else
(
if (a1.1 == (4 : Int)) then
((
if (a0.2.2.2.2.2.2.1 == (1 : Int)) then
(some ((a0.1, a0.2.1, a0.2.2.1, y1, y2, a0.2.2.2.2.2.1, (4 : Int), a0.2.2.2.2.2.2.2.1, x3, (0 : Int), (0 : Int), (0 : Int), (0 : Int), (0 : Int), (0 : Int), (0 : Int))))
else
(some ((a0.1, a0.2.1, a0.2.2.1, y1, y2, a0.2.2.2.2.2.1, a0.2.2.2.2.2.2.1, a0.2.2.2.2.2.2.2.1, x3, (0 : Int), (0 : Int), (0 : Int), (0 : Int), (0 : Int), (0 : Int), (0 : Int))))).bind fun z8 =>
some ((z8.1, z8.2.1, z8.2.2.1, z8.2.2.2.1, z8.2.2.2.2.1, z8.2.2.2.2.2.1, z8.2.2.2.2.2.2.1, z8.2.2.2.2.2.2.2.1, z8.2.2.2.2.2.2.2.2.1), [(h49 (z8.1, z8.2.1, z8.2.2.1, z8.2.2.2.1, z8.2.2.2.2.1, z8.2.2.2.2.2.1, z8.2.2.2.2.2.2.1, z8.2.2.2.2.2.2.2.1, z8.2.2.2.2.2.2.2.2.1) (5 : Int))]))
else
(some ((a0.1, a0.2.1, a0.2.2.1, y1, y2, a0.2.2.2.2.2.1, a0.2.2.2.2.2.2.1, a0.2.2.2.2.2.2.2.1, x3), [])))
noncomputable def tf36 : TF := .par ⟨[.v YTaking, .v YSegment, .v (.i .i64)], (.t YTaking (.l .ro YSegment))⟩ (fun x => g36 x.1 x.2.1 x.2.2)
theorem e36 : evFn (tabU [(33, tf33), (41, tf41), (48, tf48), (49, tf49)]) ⟨F36.res, F36.keep, tf36.sg⟩ T36 = fun x => g36 x.1 x.2.1 x.2.2 := by kernel_rfl
theorem o36 : TOK (EF pg) 36 tf36 := tok_of p36 rfl (tabU_cons o33 (tabU_cons o41 (tabU_cons o48 (tabU_cons o49 (tabU_nil))))) ⟨rfl, rfl, by decide⟩ rfl fun x y h => (congrFun e36 x).trans h
/-- heliograph/receiver.Take -/
noncomputable def g19 (a0 : Taking) (a1 : Segment) (a2 : Int) : Option (Taking × (List Segment) × Int) :=
(g16 a0).bind fun y1 =>
if (y1 != (0 : Int)) then
(some (((0 : Int), (0 : Int), (0 : Int), [], [], (0 : Int), (0 : Int), (0 : Int), (0 : Int)), [], y1))
else
((g30 a1).bind fun y3 =>
let x8 := if (if (y3 != (0 : Int)) then true else (a1.2.1 != a0.1)) then true else (a1.2.2.1 != a0.2.1)
(if (!x8) then g21 a1 else some false).bind fun y9 =>
if (if (if x8 then true else (!y9)) then true else (!(h35 a2 (0 : Int) (1048576 : Int)))) then
(some (((0 : Int), (0 : Int), (0 : Int), [], [], (0 : Int), (0 : Int), (0 : Int), (0 : Int)), [], (2 : Int)))
else
((g36 a0 a1 a2).bind fun y15 =>
some (y15.1, y15.2, (0 : Int))))
noncomputable def tf19 : TF := .par ⟨[.v YTaking, .v YSegment, .v (.i .i64)], (.t YTaking (.t (.l .ro YSegment) (.i .i64)))⟩ (fun x => g19 x.1 x.2.1 x.2.2)
theorem e19 : evFn (tabU [(16, tf16), (21, tf21), (30, tf30), (35, tf35), (36, tf36)]) ⟨F19.res, F19.keep, tf19.sg⟩ T19 = fun x => g19 x.1 x.2.1 x.2.2 := by kernel_rfl
theorem o19 : TOK (EF pg) 19 tf19 := tok_of p19 rfl (tabU_cons o16 (tabU_cons o21 (tabU_cons o30 (tabU_cons o35 (tabU_cons o36 (tabU_nil)))))) ⟨rfl, rfl, by decide⟩ rfl fun x y h => (congrFun e19 x).trans h
/-- heliograph/receiver.New -/
noncomputable def g24 (a0 : Segment) (a1 : Int) (a2 : Int) : Option (Taking × (List Segment) × Int) :=
(g30 a0).bind fun y1 =>
if (if (if (if (y1 != (0 : Int)) then true else (a0.1 != (1 : Int))) then true else (!(h35 a1 (0 : Int) (1048576 : Int)))) then true else (!(h35 a2 (1 : Int) (65536 : Int)))) then
(some (((0 : Int), (0 : Int), (0 : Int), [], [], (0 : Int), (0 : Int), (0 : Int), (0 : Int)), [], (2 : Int)))
else
((mkl 1 a0.2.2.2.2.2.2.1 a0.2.2.2.2.2.2.1 (0 : Int)).bind fun y11 =>
(g36 (a0.2.1, a0.2.2.1, a0.2.2.2.2.2.2.1, y11, [], (0 : Int), (1 : Int), a2, (0 : Int)) a0 a1).bind fun y12 =>
some (y12.1, y12.2, (0 : Int)))
noncomputable def tf24 : TF := .par ⟨[.v YSegment, .v (.i .i64), .v (.i .i64)], (.t YTaking (.t (.l .ro YSegment) (.i .i64)))⟩ (fun x => g24 x.1 x.2.1 x.2.2)
theorem e24 : evFn (tabU [(30, tf30), (35, tf35), (36, tf36)]) ⟨F24.res, F24.keep, tf24.sg⟩ T24 = fun x => g24 x.1 x.2.1 x.2.2 := by kernel_rfl
theorem o24 : TOK (EF pg) 24 tf24 := tok_of p24 rfl (tabU_cons o30 (tabU_cons o35 (tabU_cons o36 (tabU_nil)))) ⟨rfl, rfl, by decide⟩ rfl fun x y h => (congrFun e24 x).trans h
/-- heliograph/heliographlaw15.wakes -/
noncomputable def g8  : Option Bool :=
(g24 ((1 : Int), (1 : Int), (5 : Int), (1 : Int), (0 : Int), (0 : Int), (2 : Int), (0 : Int), (0 : Int), (0 : Int), true, [(7 : Int), (8 : Int)], []) (0 : Int) (100 : Int)).bind fun y1 =>
(g13 y1.1).bind fun y2 =>
let x8 := if (if (y1.2.2 == (0 : Int)) then (y2.2 == (0 : Int)) else false) then ((y1.2.1.length : Int) == (1 : Int)) else false
(if x8 then idx y1.2.1 (0 : Int) else some ((0 : Int), ((0 : Int), ((0 : Int), ((0 : Int), ((0 : Int), ((0 : Int), ((0 : Int), ((0 : Int), ((0 : Int), ((0 : Int), (false, ([], []))))))))))))).bind fun y9 =>
let x14 := if (if x8 then (y9.2.2.2.2.1 == (1 : Int)) else false) then ((y2.1.length : Int) == (2 : Int)) else false
(if x14 then idx y2.1 (1 : Int) else some (0 : Int)).bind fun y15 =>
some (if (if x14 then (y15 == (8 : Int)) else false) then (y1.1.2.2.2.2.2.2.1 == (2 : Int)) else false)
noncomputable def tf8 : TF := .par ⟨[], .b⟩ (fun _ => g8)
theorem e8 : evFn (tabU [(13, tf13), (24, tf24)]) ⟨F8.res, F8.keep, tf8.sg⟩ T8 = fun x => g8 := by kernel_rfl
theorem o8 : TOK (EF pg) 8 tf8 := tok_of p8 rfl (tabU_cons o13 (tabU_cons o24 (tabU_nil))) ⟨rfl, rfl, by decide⟩ rfl fun x y h => (congrFun e8 x).trans h
/-- heliograph/heliographlaw15.ReceiverTells -/
noncomputable def g3x0 (s : (List Int) × Int × Int × Int × Int × Int × Int × Int × Int × (List Int) × (List Claim) × Int × Int × Int × Int) : Option (((List Int) × Int × Int × Int × Int × Int × Int × Int × Int × (List Int) × (List Claim) × Int × Int × Int × Int) ⊕ (((List Int) × Int × Int × Int × Int × Int × Int × (List Int) × (List Claim) × Int × Int × Int × Int))) :=
if (decide (s.2.2.2.2.2.1 < s.2.2.2.2.1)) then
((g17 s.2.2.2.2.2.2.2.2.2.2.1 s.2.2.2.2.2.1).bind fun y30 =>
if (!y30) then
(
some (Sum.inl (s.1, s.2.1, s.2.2.1, (IntKind.i64.wrap (s.2.2.2.1 + (1 : Int))), s.2.2.2.2.1, (IntKind.i64.wrap (s.2.2.2.2.2.1 + (1 : Int))), s.2.2.2.2.2.2.1, s.2.2.2.2.2.2.2.1, s.2.2.2.2.2.2.2.2.1, s.2.2.2.2.2.2.2.2.2.1, s.2.2.2.2.2.2.2.2.2.2.1, s.2.2.2.2.2.2.2.2.2.2.2.1, s.2.2.2.2.2.2.2.2.2.2.2.2.1, s.2.2.2.2.2.2.2.2.2.2.2.2.2.1, s.2.2.2.2.2.2.2.2.2.2.2.2.2.2)))
else
(
some (Sum.inl (s.1, s.2.1, s.2.2.1, s.2.2.2.1, s.2.2.2.2.1, (IntKind.i64.wrap (s.2.2.2.2.2.1 + (1 : Int))), s.2.2.2.2.2.2.1, s.2.2.2.2.2.2.2.1, s.2.2.2.2.2.2.2.2.1, s.2.2.2.2.2.2.2.2.2.1, s.2.2.2.2.2.2.2.2.2.2.1, s.2.2.2.2.2.2.2.2.2.2.2.1, s.2.2.2.2.2.2.2.2.2.2.2.2.1, s.2.2.2.2.2.2.2.2.2.2.2.2.2.1, s.2.2.2.2.2.2.2.2.2.2.2.2.2.2))))
else
(some (Sum.inr (s.1, s.2.1, s.2.2.1, s.2.2.2.1, s.2.2.2.2.2.2.1, s.2.2.2.2.2.2.2.1, s.2.2.2.2.2.2.2.2.1, s.2.2.2.2.2.2.2.2.2.1, s.2.2.2.2.2.2.2.2.2.2.1, s.2.2.2.2.2.2.2.2.2.2.2.1, s.2.2.2.2.2.2.2.2.2.2.2.2.1, s.2.2.2.2.2.2.2.2.2.2.2.2.2.1, s.2.2.2.2.2.2.2.2.2.2.2.2.2.2)))
noncomputable def g3 (a0 : Taking) (a1 : Taking) : Option Bool :=
(g8).bind fun y1 =>
if (!y1) then
(some false)
else
(
if (if (h9 a0 ((0 : Int), (0 : Int), (0 : Int), (0 : Int), (0 : Int), (0 : Int), (0 : Int), (0 : Int), (0 : Int), (0 : Int), false, [], [])) then true else (h9 a1 ((0 : Int), (0 : Int), (0 : Int), (0 : Int), (0 : Int), (0 : Int), (0 : Int), (0 : Int), (0 : Int), (0 : Int), false, [], []))) then
(some true)
else
((g10 a0 a1).bind fun y6 =>
(g11 a0 a1).bind fun y7 =>
let x8 := (y6 == y7) != true
(if (!x8) then g12 a0 else some ((0 : Int), ((0 : Int), ((0 : Int), ([], ([], ((0 : Int), ((0 : Int), ((0 : Int), (0 : Int)))))))))).bind fun y9 =>
(if (!x8) then g10 a0 y9 else some false).bind fun y10 =>
if (if x8 then true else (!y10)) then
(some false)
else
((g12 a0).bind fun y13 =>
(g13 y13).bind fun y14 =>
(g12 a0).bind fun y15 =>
(g14 y15).bind fun y16 =>
(g15 a0).bind fun y17 =>
if (!y17) then
(
let x24 := if (if ((y14.1.length : Int) == (0 : Int)) then (y14.2 == (250 : Int)) else false) then (y16 == (0 : Int)) else false
(if x24 then g12 a0 else some ((0 : Int), ((0 : Int), ((0 : Int), ([], ([], ((0 : Int), ((0 : Int), ((0 : Int), (0 : Int)))))))))).bind fun y25 =>
(if x24 then g16 y25 else some (0 : Int)).bind fun y26 =>
some (if x24 then (y26 == (250 : Int)) else false))
else
((lpU g3x0 (y14.1, y14.2, y16, (0 : Int), a0.2.2.1, (0 : Int), a0.1, a0.2.1, a0.2.2.1, a0.2.2.2.1, a0.2.2.2.2.1, a0.2.2.2.2.2.1, a0.2.2.2.2.2.2.1, a0.2.2.2.2.2.2.2.1, a0.2.2.2.2.2.2.2.2)).bind fun z35 =>
let x36 := z35.2.2.1 != z35.2.2.2.1
(if (!x36) then g12 z35.2.2.2.2 else some ((0 : Int), ((0 : Int), ((0 : Int), ([], ([], ((0 : Int), ((0 : Int), ((0 : Int), (0 : Int)))))))))).bind fun y37 =>
(if (!x36) then g16 y37 else some (0 : Int)).bind fun y38 =>
if (if x36 then true else (y38 != (0 : Int))) then
(some false)
else
(
if (decide (z35.2.2.2.1 > (0 : Int))) then
(
some (if ((z35.1.length : Int) == (0 : Int)) then (z35.2.1 == (4 : Int)) else false))
else
(let x46 := z35.2.1 == (0 : Int)
(if x46 then g18 z35.1 z35.2.2.2.2.2.2.2.1 else some false).bind fun y47 =>
some (if x46 then y47 else false)))))))
noncomputable def tf3 : TF := .par ⟨[.v YTaking, .v YTaking], .b⟩ (fun x => g3 x.1 x.2)
theorem e3 : evFn (tabU [(8, tf8), (9, tf9), (10, tf10), (11, tf11), (12, tf12), (13, tf13), (14, tf14), (15, tf15), (16, tf16), (17, tf17), (18, tf18)]) ⟨F3.res, F3.keep, tf3.sg⟩ T3 = fun x => g3 x.1 x.2 := by kernel_rfl
theorem o3 : TOK (EF pg) 3 tf3 := tok_of p3 rfl (tabU_cons o8 (tabU_cons o9 (tabU_cons o10 (tabU_cons o11 (tabU_cons o12 (tabU_cons o13 (tabU_cons o14 (tabU_cons o15 (tabU_cons o16 (tabU_cons o17 (tabU_cons o18 (tabU_nil)))))))))))) ⟨rfl, rfl, by decide⟩ rfl fun x y h => (congrFun e3 x).trans h
/-- heliograph/heliographlaw15.ReceiverWhole -/
noncomputable def g6x0 (s : (List Int) × (List Bool) × Int × Int × (List Segment) × Int × (List Segment) × Int × Int × Int × Int × Int × Int × Int × (List Int) × (List Claim) × Int × Int × Int × Int × Int × Int × Int × Int × Int × Int × Int × Int × Int × Int × Bool × (List Int) × List Claim) : Option (((List Int) × (List Bool) × Int × Int × (List Segment) × Int × (List Segment) × Int × Int × Int × Int × Int × Int × Int × (List Int) × (List Claim) × Int × Int × Int × Int × Int × Int × Int × Int × Int × Int × Int × Int × Int × Int × Bool × (List Int) × List Claim) ⊕ (((List Int) × (List Bool) × Int × Int × (List Segment) × Int × (List Segment) × Int × Int × Int × Int × Int × (List Int) × (List Claim) × Int × Int × Int × Int × Int × Int × Int × Int × Int × Int × Int × Int × Int × Int × Bool × (List Int) × List Claim))) :=
if (decide (s.2.2.2.2.2.2.2.2.2.2.1 < s.2.2.2.2.2.2.2.2.2.1)) then
(let x24 := IntKind.i64.wrap (s.2.2.2.2.2.2.2.2.2.2.2.2.2.2.2.2.2.2.2.2.2.2.2.2.2.1 + s.2.2.2.2.2.2.2.2.2.2.1)
(chkI x24 (s.2.1.length : Int)).bind fun y25 =>
(idx s.2.1 x24).bind fun y26 =>
(eqI (s.2.1.length : Int) (s.2.1.length : Int)).bind fun y28 =>
if (!y26) then
(let x29 := IntKind.i64.wrap (s.2.2.2.2.2.2.2.2.2.2.2.2.2.2.2.2.2.2.2.2.2.2.2.2.2.1 + s.2.2.2.2.2.2.2.2.2.2.1)
(chkI x29 (s.2.1.length : Int)).bind fun y30 =>
(idx s.2.1 x29).bind fun y31 =>
(eqI (s.2.1.length : Int) (s.2.1.length : Int)).bind fun y33 =>
some (Sum.inl (s.1, (List.set s.2.1 (Int.toNat x29) true), (IntKind.i64.wrap (s.2.2.1 - (1 : Int))), s.2.2.2.1, s.2.2.2.2.1, s.2.2.2.2.2.1, s.2.2.2.2.2.2.1, s.2.2.2.2.2.2.2.1, s.2.2.2.2.2.2.2.2.1, s.2.2.2.2.2.2.2.2.2.1, (IntKind.i64.wrap (s.2.2.2.2.2.2.2.2.2.2.1 + (1 : Int))), s.2.2.2.2.2.2.2.2.2.2.2.1, s.2.2.2.2.2.2.2.2.2.2.2.2.1, s.2.2.2.2.2.2.2.2.2.2.2.2.2.1, s.2.2.2.2.2.2.2.2.2.2.2.2.2.2.1, s.2.2.2.2.2.2.2.2.2.2.2.2.2.2.2.1, s.2.2.2.2.2.2.2.2.2.2.2.2.2.2.2.2.1, s.2.2.2.2.2.2.2.2.2.2.2.2.2.2.2.2.2.1, s.2.2.2.2.2.2.2.2.2.2.2.2.2.2.2.2.2.2.1, s.2.2.2.2.2.2.2.2.2.2.2.2.2.2.2.2.2.2.2.1, s.2.2.2.2.2.2.2.2.2.2.2.2.2.2.2.2.2.2.2.2.1, s.2.2.2.2.2.2.2.2.2.2.2.2.2.2.2.2.2.2.2.2.2.1, s.2.2.2.2.2.2.2.2.2.2.2.2.2.2.2.2.2.2.2.2.2.2.1, s.2.2.2.2.2.2.2.2.2.2.2.2.2.2.2.2.2.2.2.2.2.2.2.1, s.2.2.2.2.2.2.2.2.2.2.2.2.2.2.2.2.2.2.2.2.2.2.2.2.1, s.2.2.2.2.2.2.2.2.2.2.2.2.2.2.2.2.2.2.2.2.2.2.2.2.2.1, s.2.2.2.2.2.2.2.2.2.2.2.2.2.2.2.2.2.2.2.2.2.2.2.2.2.2.1, s.2.2.2.2.2.2.2.2.2.2.2.2.2.2.2.2.2.2.2.2.2.2.2.2.2.2.2.1, s.2.2.2.2.2.2.2.2.2.2.2.2.2.2.2.2.2.2.2.2.2.2.2.2.2.2.2.2.1, s.2.2.2.2.2.2.2.2.2.2.2.2.2.2.2.2.2.2.2.2.2.2.2.2.2.2.2.2.2.1, s.2.2.2.2.2.2.2.2.2.2.2.2.2.2.2.2.2.2.2.2.2.2.2.2.2.2.2.2.2.2.1, s.2.2.2.2.2.2.2.2.2.2.2.2.2.2.2.2.2.2.2.2.2.2.2.2.2.2.2.2.2.2.2.1, s.2.2.2.2.2.2.2.2.2.2.2.2.2.2.2.2.2.2.2.2.2.2.2.2.2.2.2.2.2.2.2.2)))
else
(
some (Sum.inl (s.1, s.2.1, s.2.2.1, s.2.2.2.1, s.2.2.2.2.1, s.2.2.2.2.2.1, s.2.2.2.2.2.2.1, s.2.2.2.2.2.2.2.1, s.2.2.2.2.2.2.2.2.1, s.2.2.2.2.2.2.2.2.2.1, (IntKind.i64.wrap (s.2.2.2.2.2.2.2.2.2.2.1 + (1 : Int))), s.2.2.2.2.2.2.2.2.2.2.2.1, s.2.2.2.2.2.2.2.2.2.2.2.2.1, s.2.2.2.2.2.2.2.2.2.2.2.2.2.1, s.2.2.2.2.2.2.2.2.2.2.2.2.2.2.1, s.2.2.2.2.2.2.2.2.2.2.2.2.2.2.2.1, s.2.2.2.2.2.2.2.2.2.2.2.2.2.2.2.2.1, s.2.2.2.2.2.2.2.2.2.2.2.2.2.2.2.2.2.1, s.2.2.2.2.2.2.2.2.2.2.2.2.2.2.2.2.2.2.1, s.2.2.2.2.2.2.2.2.2.2.2.2.2.2.2.2.2.2.2.1, s.2.2.2.2.2.2.2.2.2.2.2.2.2.2.2.2.2.2.2.2.1, s.2.2.2.2.2.2.2.2.2.2.2.2.2.2.2.2.2.2.2.2.2.1, s.2.2.2.2.2.2.2.2.2.2.2.2.2.2.2.2.2.2.2.2.2.2.1, s.2.2.2.2.2.2.2.2.2.2.2.2.2.2.2.2.2.2.2.2.2.2.2.1, s.2.2.2.2.2.2.2.2.2.2.2.2.2.2.2.2.2.2.2.2.2.2.2.2.1, s.2.2.2.2.2.2.2.2.2.2.2.2.2.2.2.2.2.2.2.2.2.2.2.2.2.1, s.2.2.2.2.2.2.2.2.2.2.2.2.2.2.2.2.2.2.2.2.2.2.2.2.2.2.1, s.2.2.2.2.2.2.2.2.2.2.2.2.2.2.2.2.2.2.2.2.2.2.2.2.2.2.2.1, s.2.2.2.2.2.2.2.2.2.2.2.2.2.2.2.2.2.2.2.2.2.2.2.2.2.2.2.2.1, s.2.2.2.2.2.2.2.2.2.2.2.2.2.2.2.2.2.2.2.2.2.2.2.2.2.2.2.2.2.1, s.2.2.2.2.2.2.2.2.2.2.2.2.2.2.2.2.2.2.2.2.2.2.2.2.2.2.2.2.2.2.1, s.2.2.2.2.2.2.2.2.2.2.2.2.2.2.2.2.2.2.2.2.2.2.2.2.2.2.2.2.2.2.2.1, s.2.2.2.2.2.2.2.2.2.2.2.2.2.2.2.2.2.2.2.2.2.2.2.2.2.2.2.2.2.2.2.2))))
else
(some (Sum.inr (s.1, s.2.1, s.2.2.1, s.2.2.2.1, s.2.2.2.2.1, s.2.2.2.2.2.1, s.2.2.2.2.2.2.1, s.2.2.2.2.2.2.2.1, s.2.2.2.2.2.2.2.2.1, s.2.2.2.2.2.2.2.2.2.2.2.1, s.2.2.2.2.2.2.2.2.2.2.2.2.1, s.2.2.2.2.2.2.2.2.2.2.2.2.2.1, s.2.2.2.2.2.2.2.2.2.2.2.2.2.2.1, s.2.2.2.2.2.2.2.2.2.2.2.2.2.2.2.1, s.2.2.2.2.2.2.2.2.2.2.2.2.2.2.2.2.1, s.2.2.2.2.2.2.2.2.2.2.2.2.2.2.2.2.2.1, s.2.2.2.2.2.2.2.2.2.2.2.2.2.2.2.2.2.2.1, s.2.2.2.2.2.2.2.2.2.2.2.2.2.2.2.2.2.2.2.1, s.2.2.2.2.2.2.2.2.2.2.2.2.2.2.2.2.2.2.2.2.1, s.2.2.2.2.2.2.2.2.2.2.2.2.2.2.2.2.2.2.2.2.2.1, s.2.2.2.2.2.2.2.2.2.2.2.2.2.2.2.2.2.2.2.2.2.2.1, s.2.2.2.2.2.2.2.2.2.2.2.2.2.2.2.2.2.2.2.2.2.2.2.1, s.2.2.2.2.2.2.2.2.2.2.2.2.2.2.2.2.2.2.2.2.2.2.2.2.1, s.2.2.2.2.2.2.2.2.2.2.2.2.2.2.2.2.2.2.2.2.2.2.2.2.2.1, s.2.2.2.2.2.2.2.2.2.2.2.2.2.2.2.2.2.2.2.2.2.2.2.2.2.2.1, s.2.2.2.2.2.2.2.2.2.2.2.2.2.2.2.2.2.2.2.2.2.2.2.2.2.2.2.1, s.2.2.2.2.2.2.2.2.2.2.2.2.2.2.2.2.2.2.2.2.2.2.2.2.2.2.2.2.1, s.2.2.2.2.2.2.2.2.2.2.2.2.2.2.2.2.2.2.2.2.2.2.2.2.2.2.2.2.2.1, s.2.2.2.2.2.2.2.2.2.2.2.2.2.2.2.2.2.2.2.2.2.2.2.2.2.2.2.2.2.2.1, s.2.2.2.2.2.2.2.2.2.2.2.2.2.2.2.2.2.2.2.2.2.2.2.2.2.2.2.2.2.2.2.1, s.2.2.2.2.2.2.2.2.2.2.2.2.2.2.2.2.2.2.2.2.2.2.2.2.2.2.2.2.2.2.2.2)))
noncomputable def g6x1 (s : (List Int) × (List Bool) × Int × Int × (List Segment) × Int × Int × (List Segment) × Int × Int × (List Claim) × Int × Int × Int × Int × Int × Int × Int × (List Int) × (List Claim) × Int × Int × Int × Int × Int × Int × Int × Int × Int × Int × Int × Int × Int × Int × Bool × (List Int) × (List Claim) × Int × Int) : Option (((List Int) × (List Bool) × Int × Int × (List Segment) × Int × Int × (List Segment) × Int × Int × (List Claim) × Int × Int × Int × Int × Int × Int × Int × (List Int) × (List Claim) × Int × Int × Int × Int × Int × Int × Int × Int × Int × Int × Int × Int × Int × Int × Bool × (List Int) × (List Claim) × Int × Int) ⊕ (((List Int) × (List Bool) × Int × Int × (List Segment) × Int × Int × (List Segment) × Int × Int × (List Claim) × Int × Int × Int × Int × Int × (List Int) × (List Claim) × Int × Int × Int × Int × Int × Int × Int × Int × Int × Int × Int × Int × Int × Int × Bool × (List Int) × List Claim) ⊕ Bool)) :=
if (decide (s.2.2.2.2.2.2.2.2.2.2.2.2.2.2.1 < s.2.2.2.2.2.2.2.2.2.2.2.2.2.1)) then
(let x75 := IntKind.i64.wrap (s.2.2.2.2.2.2.2.2.2.2.2.2.2.2.2.2.2.2.2.2.2.2.2.2.2.2.2.2.2.2.2.2.2.2.2.2.2.1 + s.2.2.2.2.2.2.2.2.2.2.2.2.2.2.1)
(chkI x75 (s.2.1.length : Int)).bind fun y76 =>
(idx s.2.1 x75).bind fun y77 =>
(eqI (s.2.1.length : Int) (s.2.1.length : Int)).bind fun y79 =>
if (!y77) then
(some (Sum.inr (Sum.inr (false))))
else
(
some (Sum.inl (s.1, s.2.1, s.2.2.1, s.2.2.2.1, s.2.2.2.2.1, s.2.2.2.2.2.1, s.2.2.2.2.2.2.1, s.2.2.2.2.2.2.2.1, s.2.2.2.2.2.2.2.2.1, s.2.2.2.2.2.2.2.2.2.1, s.2.2.2.2.2.2.2.2.2.2.1, s.2.2.2.2.2.2.2.2.2.2.2.1, s.2.2.2.2.2.2.2.2.2.2.2.2.1, s.2.2.2.2.2.2.2.2.2.2.2.2.2.1, (IntKind.i64.wrap (s.2.2.2.2.2.2.2.2.2.2.2.2.2.2.1 + (1 : Int))), s.2.2.2.2.2.2.2.2.2.2.2.2.2.2.2.1, s.2.2.2.2.2.2.2.2.2.2.2.2.2.2.2.2.1, s.2.2.2.2.2.2.2.2.2.2.2.2.2.2.2.2.2.1, s.2.2.2.2.2.2.2.2.2.2.2.2.2.2.2.2.2.2.1, s.2.2.2.2.2.2.2.2.2.2.2.2.2.2.2.2.2.2.2.1, s.2.2.2.2.2.2.2.2.2.2.2.2.2.2.2.2.2.2.2.2.1, s.2.2.2.2.2.2.2.2.2.2.2.2.2.2.2.2.2.2.2.2.2.1, s.2.2.2.2.2.2.2.2.2.2.2.2.2.2.2.2.2.2.2.2.2.2.1, s.2.2.2.2.2.2.2.2.2.2.2.2.2.2.2.2.2.2.2.2.2.2.2.1, s.2.2.2.2.2.2.2.2.2.2.2.2.2.2.2.2.2.2.2.2.2.2.2.2.1, s.2.2.2.2.2.2.2.2.2.2.2.2.2.2.2.2.2.2.2.2.2.2.2.2.2.1, s.2.2.2.2.2.2.2.2.2.2.2.2.2.2.2.2.2.2.2.2.2.2.2.2.2.2.1, s.2.2.2.2.2.2.2.2.2.2.2.2.2.2.2.2.2.2.2.2.2.2.2.2.2.2.2.1, s.2.2.2.2.2.2.2.2.2.2.2.2.2.2.2.2.2.2.2.2.2.2.2.2.2.2.2.2.1, s.2.2.2.2.2.2.2.2.2.2.2.2.2.2.2.2.2.2.2.2.2.2.2.2.2.2.2.2.2.1, s.2.2.2.2.2.2.2.2.2.2.2.2.2.2.2.2.2.2.2.2.2.2.2.2.2.2.2.2.2.2.1, s.2.2.2.2.2.2.2.2.2.2.2.2.2.2.2.2.2.2.2.2.2.2.2.2.2.2.2.2.2.2.2.1, s.2.2.2.2.2.2.2.2.2.2.2.2.2.2.2.2.2.2.2.2.2.2.2.2.2.2.2.2.2.2.2.2.1, s.2.2.2.2.2.2.2.2.2.2.2.2.2.2.2.2.2.2.2.2.2.2.2.2.2.2.2.2.2.2.2.2.2.1, s.2.2.2.2.2.2.2.2.2.2.2.2.2.2.2.2.2.2.2.2.2.2.2.2.2.2.2.2.2.2.2.2.2.2.1, s.2.2.2.2.2.2.2.2.2.2.2.2.2.2.2.2.2.2.2.2.2.2.2.2.2.2.2.2.2.2.2.2.2.2.2.1, s.2.2.2.2.2.2.2.2.2.2.2.2.2.2.2.2.2.2.2.2.2.2.2.2.2.2.2.2.2.2.2.2.2.2.2.2.1, s.2.2.2.2.2.2.2.2.2.2.2.2.2.2.2.2.2.2.2.2.2.2.2.2.2.2.2.2.2.2.2.2.2.2.2.2.2.1, s.2.2.2.2.2.2.2.2.2.2.2.2.2.2.2.2.2.2.2.2.2.2.2.2.2.2.2.2.2.2.2.2.2.2.2.2.2.2))))
else
(some (Sum.inr (Sum.inl (s.1, s.2.1, s.2.2.1, s.2.2.2.1, s.2.2.2.2.1, s.2.2.2.2.2.1, s.2.2.2.2.2.2.1, s.2.2.2.2.2.2.2.1, s.2.2.2.2.2.2.2.2.1, s.2.2.2.2.2.2.2.2.2.1, s.2.2.2.2.2.2.2.2.2.2.1, s.2.2.2.2.2.2.2.2.2.2.2.1, s.2.2.2.2.2.2.2.2.2.2.2.2.1, s.2.2.2.2.2.2.2.2.2.2.2.2.2.2.2.1, s.2.2.2.2.2.2.2.2.2.2.2.2.2.2.2.2.1, s.2.2.2.2.2.2.2.2.2.2.2.2.2.2.2.2.2.1, s.2.2.2.2.2.2.2.2.2.2.2.2.2.2.2.2.2.2.1, s.2.2.2.2.2.2.2.2.2.2.2.2.2.2.2.2.2.2.2.1, s.2.2.2.2.2.2.2.2.2.2.2.2.2.2.2.2.2.2.2.2.1, s.2.2.2.2.2.2.2.2.2.2.2.2.2.2.2.2.2.2.2.2.2.1, s.2.2.2.2.2.2.2.2.2.2.2.2.2.2.2.2.2.2.2.2.2.2.1, s.2.2.2.2.2.2.2.2.2.2.2.2.2.2.2.2.2.2.2.2.2.2.2.1, s.2.2.2.2.2.2.2.2.2.2.2.2.2.2.2.2.2.2.2.2.2.2.2.2.1, s.2.2.2.2.2.2.2.2.2.2.2.2.2.2.2.2.2.2.2.2.2.2.2.2.2.1, s.2.2.2.2.2.2.2.2.2.2.2.2.2.2.2.2.2.2.2.2.2.2.2.2.2.2.1, s.2.2.2.2.2.2.2.2.2.2.2.2.2.2.2.2.2.2.2.2.2.2.2.2.2.2.2.1, s.2.2.2.2.2.2.2.2.2.2.2.2.2.2.2.2.2.2.2.2.2.2.2.2.2.2.2.2.1, s.2.2.2.2.2.2.2.2.2.2.2.2.2.2.2.2.2.2.2.2.2.2.2.2.2.2.2.2.2.1, s.2.2.2.2.2.2.2.2.2.2.2.2.2.2.2.2.2.2.2.2.2.2.2.2.2.2.2.2.2.2.1, s.2.2.2.2.2.2.2.2.2.2.2.2.2.2.2.2.2.2.2.2.2.2.2.2.2.2.2.2.2.2.2.1, s.2.2.2.2.2.2.2.2.2.2.2.2.2.2.2.2.2.2.2.2.2.2.2.2.2.2.2.2.2.2.2.2.1, s.2.2.2.2.2.2.2.2.2.2.2.2.2.2.2.2.2.2.2.2.2.2.2.2.2.2.2.2.2.2.2.2.2.1, s.2.2.2.2.2.2.2.2.2.2.2.2.2.2.2.2.2.2.2.2.2.2.2.2.2.2.2.2.2.2.2.2.2.2.1, s.2.2.2.2.2.2.2.2.2.2.2.2.2.2.2.2.2.2.2.2.2.2.2.2.2.2.2.2.2.2.2.2.2.2.2.1, s.2.2.2.2.2.2.2.2.2.2.2.2.2.2.2.2.2.2.2.2.2.2.2.2.2.2.2.2.2.2.2.2.2.2.2.2.1))))
noncomputable def g6x2 (s : (List Int) × (List Bool) × Int × Int × (List Segment) × Int × Int × (List Segment) × Int × Int × (List Claim) × Int × Int × Int × Int × Int × (List Int) × (List Claim) × Int × Int × Int × Int × Int × Int × Int × Int × Int × Int × Int × Int × Int × Int × Bool × (List Int) × List Claim) : Option (((List Int) × (List Bool) × Int × Int × (List Segment) × Int × Int × (List Segment) × Int × Int × (List Claim) × Int × Int × Int × Int × Int × (List Int) × (List Claim) × Int × Int × Int × Int × Int × Int × Int × Int × Int × Int × Int × Int × Int × Int × Bool × (List Int) × List Claim) ⊕ (((List Int) × (List Bool) × Int × Int × (List Segment) × Int × Int × (List Segment) × Int × Int × Int × Int × Int × (List Int) × (List Claim) × Int × Int × Int × Int × Int × Int × Int × Int × Int × Int × Int × Int × Int × Int × Bool × (List Int) × List Claim) ⊕ Bool)) :=
if (decide (s.2.2.2.2.2.2.2.2.2.2.2.2.1 < s.2.2.2.2.2.2.2.2.2.2.2.1)) then
((idx s.2.2.2.2.2.2.2.2.2.2.1 s.2.2.2.2.2.2.2.2.2.2.2.2.1).bind fun y73 =>
(lpU g6x1 (s.1, s.2.1, s.2.2.1, s.2.2.2.1, s.2.2.2.2.1, s.2.2.2.2.2.1, s.2.2.2.2.2.2.1, s.2.2.2.2.2.2.2.1, s.2.2.2.2.2.2.2.2.1, s.2.2.2.2.2.2.2.2.2.1, s.2.2.2.2.2.2.2.2.2.2.1, s.2.2.2.2.2.2.2.2.2.2.2.1, s.2.2.2.2.2.2.2.2.2.2.2.2.1, y73.2, (0 : Int), s.2.2.2.2.2.2.2.2.2.2.2.2.2.1, s.2.2.2.2.2.2.2.2.2.2.2.2.2.2.1, s.2.2.2.2.2.2.2.2.2.2.2.2.2.2.2.1, s.2.2.2.2.2.2.2.2.2.2.2.2.2.2.2.2.1, s.2.2.2.2.2.2.2.2.2.2.2.2.2.2.2.2.2.1, s.2.2.2.2.2.2.2.2.2.2.2.2.2.2.2.2.2.2.1, s.2.2.2.2.2.2.2.2.2.2.2.2.2.2.2.2.2.2.2.1, s.2.2.2.2.2.2.2.2.2.2.2.2.2.2.2.2.2.2.2.2.1, s.2.2.2.2.2.2.2.2.2.2.2.2.2.2.2.2.2.2.2.2.2.1, s.2.2.2.2.2.2.2.2.2.2.2.2.2.2.2.2.2.2.2.2.2.2.1, s.2.2.2.2.2.2.2.2.2.2.2.2.2.2.2.2.2.2.2.2.2.2.2.1, s.2.2.2.2.2.2.2.2.2.2.2.2.2.2.2.2.2.2.2.2.2.2.2.2.1, s.2.2.2.2.2.2.2.2.2.2.2.2.2.2.2.2.2.2.2.2.2.2.2.2.2.1, s.2.2.2.2.2.2.2.2.2.2.2.2.2.2.2.2.2.2.2.2.2.2.2.2.2.2.1, s.2.2.2.2.2.2.2.2.2.2.2.2.2.2.2.2.2.2.2.2.2.2.2.2.2.2.2.1, s.2.2.2.2.2.2.2.2.2.2.2.2.2.2.2.2.2.2.2.2.2.2.2.2.2.2.2.2.1, s.2.2.2.2.2.2.2.2.2.2.2.2.2.2.2.2.2.2.2.2.2.2.2.2.2.2.2.2.2.1, s.2.2.2.2.2.2.2.2.2.2.2.2.2.2.2.2.2.2.2.2.2.2.2.2.2.2.2.2.2.2.1, s.2.2.2.2.2.2.2.2.2.2.2.2.2.2.2.2.2.2.2.2.2.2.2.2.2.2.2.2.2.2.2.1, s.2.2.2.2.2.2.2.2.2.2.2.2.2.2.2.2.2.2.2.2.2.2.2.2.2.2.2.2.2.2.2.2.1, s.2.2.2.2.2.2.2.2.2.2.2.2.2.2.2.2.2.2.2.2.2.2.2.2.2.2.2.2.2.2.2.2.2.1, s.2.2.2.2.2.2.2.2.2.2.2.2.2.2.2.2.2.2.2.2.2.2.2.2.2.2.2.2.2.2.2.2.2.2, y73.1, y73.2)).bind fun z81 =>
match z81 with
| Sum.inl z82 => (let x84 := IntKind.i64.wrap (z82.2.2.2.2.2.2.2.2.2.2.2.2.1 + (1 : Int))
some (Sum.inl (z82.1, z82.2.1, z82.2.2.1, z82.2.2.2.1, z82.2.2.2.2.1, z82.2.2.2.2.2.1, z82.2.2.2.2.2.2.1, z82.2.2.2.2.2.2.2.1, z82.2.2.2.2.2.2.2.2.1, z82.2.2.2.2.2.2.2.2.2.1, z82.2.2.2.2.2.2.2.2.2.2.1, z82.2.2.2.2.2.2.2.2.2.2.2.1, x84, z82.2.2.2.2.2.2.2.2.2.2.2.2.2.1, z82.2.2.2.2.2.2.2.2.2.2.2.2.2.2.1, z82.2.2.2.2.2.2.2.2.2.2.2.2.2.2.2.1, z82.2.2.2.2.2.2.2.2.2.2.2.2.2.2.2.2.1, z82.2.2.2.2.2.2.2.2.2.2.2.2.2.2.2.2.2.1, z82.2.2.2.2.2.2.2.2.2.2.2.2.2.2.2.2.2.2.1, z82.2.2.2.2.2.2.2.2.2.2.2.2.2.2.2.2.2.2.2.1, z82.2.2.2.2.2.2.2.2.2.2.2.2.2.2.2.2.2.2.2.2.1, z82.2.2.2.2.2.2.2.2.2.2.2.2.2.2.2.2.2.2.2.2.2.1, z82.2.2.2.2.2.2.2.2.2.2.2.2.2.2.2.2.2.2.2.2.2.2.1, z82.2.2.2.2.2.2.2.2.2.2.2.2.2.2.2.2.2.2.2.2.2.2.2.1, z82.2.2.2.2.2.2.2.2.2.2.2.2.2.2.2.2.2.2.2.2.2.2.2.2.1, z82.2.2.2.2.2.2.2.2.2.2.2.2.2.2.2.2.2.2.2.2.2.2.2.2.2.1, z82.2.2.2.2.2.2.2.2.2.2.2.2.2.2.2.2.2.2.2.2.2.2.2.2.2.2.1, z82.2.2.2.2.2.2.2.2.2.2.2.2.2.2.2.2.2.2.2.2.2.2.2.2.2.2.2.1, z82.2.2.2.2.2.2.2.2.2.2.2.2.2.2.2.2.2.2.2.2.2.2.2.2.2.2.2.2.1, z82.2.2.2.2.2.2.2.2.2.2.2.2.2.2.2.2.2.2.2.2.2.2.2.2.2.2.2.2.2.1, z82.2.2.2.2.2.2.2.2.2.2.2.2.2.2.2.2.2.2.2.2.2.2.2.2.2.2.2.2.2.2.1, z82.2.2.2.2.2.2.2.2.2.2.2.2.2.2.2.2.2.2.2.2.2.2.2.2.2.2.2.2.2.2.2.1, z82.2.2.2.2.2.2.2.2.2.2.2.2.2.2.2.2.2.2.2.2.2.2.2.2.2.2.2.2.2.2.2.2.1, z82.2.2.2.2.2.2.2.2.2.2.2.2.2.2.2.2.2.2.2.2.2.2.2.2.2.2.2.2.2.2.2.2.2.1, z82.2.2.2.2.2.2.2.2.2.2.2.2.2.2.2.2.2.2.2.2.2.2.2.2.2.2.2.2.2.2.2.2.2.2)))
| Sum.inr z83 => (some (Sum.inr (Sum.inr (z83)))))
else
(some (Sum.inr (Sum.inl (s.1, s.2.1, s.2.2.1, s.2.2.2.1, s.2.2.2.2.1, s.2.2.2.2.2.1, s.2.2.2.2.2.2.1, s.2.2.2.2.2.2.2.1, s.2.2.2.2.2.2.2.2.1, s.2.2.2.2.2.2.2.2.2.1, s.2.2.2.2.2.2.2.2.2.2.2.2.2.1, s.2.2.2.2.2.2.2.2.2.2.2.2.2.2.1, s.2.2.2.2.2.2.2.2.2.2.2.2.2.2.2.1, s.2.2.2.2.2.2.2.2.2.2.2.2.2.2.2.2.1, s.2.2.2.2.2.2.2.2.2.2.2.2.2.2.2.2.2.1, s.2.2.2.2.2.2.2.2.2.2.2.2.2.2.2.2.2.2.1, s.2.2.2.2.2.2.2.2.2.2.2.2.2.2.2.2.2.2.2.1, s.2.2.2.2.2.2.2.2.2.2.2.2.2.2.2.2.2.2.2.2.1, s.2.2.2.2.2.2.2.2.2.2.2.2.2.2.2.2.2.2.2.2.2.1, s.2.2.2.2.2.2.2.2.2.2.2.2.2.2.2.2.2.2.2.2.2.2.1, s.2.2.2.2.2.2.2.2.2.2.2.2.2.2.2.2.2.2.2.2.2.2.2.1, s.2.2.2.2.2.2.2.2.2.2.2.2.2.2.2.2.2.2.2.2.2.2.2.2.1, s.2.2.2.2.2.2.2.2.2.2.2.2.2.2.2.2.2.2.2.2.2.2.2.2.2.1, s.2.2.2.2.2.2.2.2.2.2.2.2.2.2.2.2.2.2.2.2.2.2.2.2.2.2.1, s.2.2.2.2.2.2.2.2.2.2.2.2.2.2.2.2.2.2.2.2.2.2.2.2.2.2.2.1, s.2.2.2.2.2.2.2.2.2.2.2.2.2.2.2.2.2.2.2.2.2.2.2.2.2.2.2.2.1, s.2.2.2.2.2.2.2.2.2.2.2.2.2.2.2.2.2.2.2.2.2.2.2.2.2.2.2.2.2.1, s.2.2.2.2.2.2.2.2.2.2.2.2.2.2.2.2.2.2.2.2.2.2.2.2.2.2.2.2.2.2.1, s.2.2.2.2.2.2.2.2.2.2.2.2.2.2.2.2.2.2.2.2.2.2.2.2.2.2.2.2.2.2.2.1, s.2.2.2.2.2.2.2.2.2.2.2.2.2.2.2.2.2.2.2.2.2.2.2.2.2.2.2.2.2.2.2.2.1, s.2.2.2.2.2.2.2.2.2.2.2.2.2.2.2.2.2.2.2.2.2.2.2.2.2.2.2.2.2.2.2.2.2.1, s.2.2.2.2.2.2.2.2.2.2.2.2.2.2.2.2.2.2.2.2.2.2.2.2.2.2.2.2.2.2.2.2.2.2))))
noncomputable def g6x3 (s : (List Int) × (List Bool) × Int × Int × (List Segment) × Int × Int × (List Segment) × Int × Int × Int × Int × Int × (List Int) × (List Claim) × Int × Int × Int × Int × Int × Int × Int × Int × Int × Int × Int × Int × Int × Int × Bool × (List Int) × List Claim) : Option (((List Int) × (List Bool) × Int × Int × (List Segment) × Int × Int × (List Segment) × Int × Int × Int × Int × Int × (List Int) × (List Claim) × Int × Int × Int × Int × Int × Int × Int × Int × Int × Int × Int × Int × Int × Int × Bool × (List Int) × List Claim) ⊕ (((List Int) × (List Bool) × Int × Int × (List Segment) × Int × Int × Int × Int × Int × (List Int) × (List Claim) × Int × Int × Int × Int) ⊕ Bool)) :=
if (decide (s.2.2.2.2.2.2.2.2.2.1 < s.2.2.2.2.2.2.2.2.1)) then
((idx s.2.2.2.2.2.2.2.1 s.2.2.2.2.2.2.2.2.2.1).bind fun y64 =>
let x67 := if (y64.1 != (2 : Int)) then true else (y64.2.2.2.2.1 != s.2.2.2.2.2.2.2.2.2.2.2.2.2.2.2.2.2.2.2.2.2.2.1)
(if (!x67) then g30 y64 else some (0 : Int)).bind fun y68 =>
if (if x67 then true else (y68 != (0 : Int))) then
(some (Sum.inr (Sum.inr (false))))
else
(
(lpU g6x2 (s.1, s.2.1, s.2.2.1, s.2.2.2.1, s.2.2.2.2.1, s.2.2.2.2.2.1, s.2.2.2.2.2.2.1, s.2.2.2.2.2.2.2.1, s.2.2.2.2.2.2.2.2.1, s.2.2.2.2.2.2.2.2.2.1, y64.2.2.2.2.2.2.2.2.2.2.2.2, (y64.2.2.2.2.2.2.2.2.2.2.2.2.length : Int), (0 : Int), s.2.2.2.2.2.2.2.2.2.2.1, s.2.2.2.2.2.2.2.2.2.2.2.1, s.2.2.2.2.2.2.2.2.2.2.2.2.1, s.2.2.2.2.2.2.2.2.2.2.2.2.2.1, s.2.2.2.2.2.2.2.2.2.2.2.2.2.2.1, s.2.2.2.2.2.2.2.2.2.2.2.2.2.2.2.1, s.2.2.2.2.2.2.2.2.2.2.2.2.2.2.2.2.1, s.2.2.2.2.2.2.2.2.2.2.2.2.2.2.2.2.2.1, s.2.2.2.2.2.2.2.2.2.2.2.2.2.2.2.2.2.2.1, s.2.2.2.2.2.2.2.2.2.2.2.2.2.2.2.2.2.2.2.1, s.2.2.2.2.2.2.2.2.2.2.2.2.2.2.2.2.2.2.2.2.1, s.2.2.2.2.2.2.2.2.2.2.2.2.2.2.2.2.2.2.2.2.2.1, s.2.2.2.2.2.2.2.2.2.2.2.2.2.2.2.2.2.2.2.2.2.2.1, s.2.2.2.2.2.2.2.2.2.2.2.2.2.2.2.2.2.2.2.2.2.2.2.1, s.2.2.2.2.2.2.2.2.2.2.2.2.2.2.2.2.2.2.2.2.2.2.2.2.1, s.2.2.2.2.2.2.2.2.2.2.2.2.2.2.2.2.2.2.2.2.2.2.2.2.2.1, s.2.2.2.2.2.2.2.2.2.2.2.2.2.2.2.2.2.2.2.2.2.2.2.2.2.2.1, s.2.2.2.2.2.2.2.2.2.2.2.2.2.2.2.2.2.2.2.2.2.2.2.2.2.2.2.1, s.2.2.2.2.2.2.2.2.2.2.2.2.2.2.2.2.2.2.2.2.2.2.2.2.2.2.2.2.1, s.2.2.2.2.2.2.2.2.2.2.2.2.2.2.2.2.2.2.2.2.2.2.2.2.2.2.2.2.2.1, s.2.2.2.2.2.2.2.2.2.2.2.2.2.2.2.2.2.2.2.2.2.2.2.2.2.2.2.2.2.2.1, s.2.2.2.2.2.2.2.2.2.2.2.2.2.2.2.2.2.2.2.2.2.2.2.2.2.2.2.2.2.2.2)).bind fun z85 =>
match z85 with
| Sum.inl z86 => (let x88 := IntKind.i64.wrap (z86.2.2.2.2.2.2.2.2.2.1 + (1 : Int))
some (Sum.inl (z86.1, z86.2.1, z86.2.2.1, z86.2.2.2.1, z86.2.2.2.2.1, z86.2.2.2.2.2.1, z86.2.2.2.2.2.2.1, z86.2.2.2.2.2.2.2.1, z86.2.2.2.2.2.2.2.2.1, x88, z86.2.2.2.2.2.2.2.2.2.2.1, z86.2.2.2.2.2.2.2.2.2.2.2.1, z86.2.2.2.2.2.2.2.2.2.2.2.2.1, z86.2.2.2.2.2.2.2.2.2.2.2.2.2.1, z86.2.2.2.2.2.2.2.2.2.2.2.2.2.2.1, z86.2.2.2.2.2.2.2.2.2.2.2.2.2.2.2.1, z86.2.2.2.2.2.2.2.2.2.2.2.2.2.2.2.2.1, z86.2.2.2.2.2.2.2.2.2.2.2.2.2.2.2.2.2.1, z86.2.2.2.2.2.2.2.2.2.2.2.2.2.2.2.2.2.2.1, z86.2.2.2.2.2.2.2.2.2.2.2.2.2.2.2.2.2.2.2.1, z86.2.2.2.2.2.2.2.2.2.2.2.2.2.2.2.2.2.2.2.2.1, z86.2.2.2.2.2.2.2.2.2.2.2.2.2.2.2.2.2.2.2.2.2.1, z86.2.2.2.2.2.2.2.2.2.2.2.2.2.2.2.2.2.2.2.2.2.2.1, z86.2.2.2.2.2.2.2.2.2.2.2.2.2.2.2.2.2.2.2.2.2.2.2.1, z86.2.2.2.2.2.2.2.2.2.2.2.2.2.2.2.2.2.2.2.2.2.2.2.2.1, z86.2.2.2.2.2.2.2.2.2.2.2.2.2.2.2.2.2.2.2.2.2.2.2.2.2.1, z86.2.2.2.2.2.2.2.2.2.2.2.2.2.2.2.2.2.2.2.2.2.2.2.2.2.2.1, z86.2.2.2.2.2.2.2.2.2.2.2.2.2.2.2.2.2.2.2.2.2.2.2.2.2.2.2.1, z86.2.2.2.2.2.2.2.2.2.2.2.2.2.2.2.2.2.2.2.2.2.2.2.2.2.2.2.2.1, z86.2.2.2.2.2.2.2.2.2.2.2.2.2.2.2.2.2.2.2.2.2.2.2.2.2.2.2.2.2.1, z86.2.2.2.2.2.2.2.2.2.2.2.2.2.2.2.2.2.2.2.2.2.2.2.2.2.2.2.2.2.2.1, z86.2.2.2.2.2.2.2.2.2.2.2.2.2.2.2.2.2.2.2.2.2.2.2.2.2.2.2.2.2.2.2)))
| Sum.inr z87 => (some (Sum.inr (Sum.inr (z87))))))
else
(some (Sum.inr (Sum.inl (s.1, s.2.1, s.2.2.1, s.2.2.2.1, s.2.2.2.2.1, s.2.2.2.2.2.1, s.2.2.2.2.2.2.1, s.2.2.2.2.2.2.2.2.2.2.1, s.2.2.2.2.2.2.2.2.2.2.2.1, s.2.2.2.2.2.2.2.2.2.2.2.2.1, s.2.2.2.2.2.2.2.2.2.2.2.2.2.1, s.2.2.2.2.2.2.2.2.2.2.2.2.2.2.1, s.2.2.2.2.2.2.2.2.2.2.2.2.2.2.2.1, s.2.2.2.2.2.2.2.2.2.2.2.2.2.2.2.2.1, s.2.2.2.2.2.2.2.2.2.2.2.2.2.2.2.2.2.1, s.2.2.2.2.2.2.2.2.2.2.2.2.2.2.2.2.2.2.1))))
noncomputable def g6x4 (s : (List Int) × (List Bool) × Int × Int × (List Segment) × Int × Int × Int × Int × Int × (List Int) × (List Claim) × Int × Int × Int × Int) : Option (((List Int) × (List Bool) × Int × Int × (List Segment) × Int × Int × Int × Int × Int × (List Int) × (List Claim) × Int × Int × Int × Int) ⊕ ((Int × Int × Int × Int × (List Int) × (List Claim) × Int × Int × Int × Int) ⊕ Bool)) :=
if (decide (s.2.2.2.2.2.2.1 < s.2.2.2.2.2.1)) then
((idx s.2.2.2.2.1 s.2.2.2.2.2.2.1).bind fun y16 =>
(
if (s.2.2.2.2.2.2.1 == (0 : Int)) then
((g24 y16 s.2.2.2.1 (50 : Int)).bind fun y18 =>
some ((s.1, s.2.1, s.2.2.1, s.2.2.2.1, y18.2.1, y18.2.2, s.2.2.2.2.1, s.2.2.2.2.2.1, s.2.2.2.2.2.2.1, y18.1.1, y18.1.2.1, y18.1.2.2.1, y18.1.2.2.2.1, y18.1.2.2.2.2.1, y18.1.2.2.2.2.2.1, y18.1.2.2.2.2.2.2.1, y18.1.2.2.2.2.2.2.2.1, y18.1.2.2.2.2.2.2.2.2, y16.1, y16.2.1, y16.2.2.1, y16.2.2.2.1, y16.2.2.2.2.1, y16.2.2.2.2.2.1, y16.2.2.2.2.2.2.1, y16.2.2.2.2.2.2.2.1, y16.2.2.2.2.2.2.2.2.1, y16.2.2.2.2.2.2.2.2.2.1, y16.2.2.2.2.2.2.2.2.2.2.1, y16.2.2.2.2.2.2.2.2.2.2.2.1, y16.2.2.2.2.2.2.2.2.2.2.2.2)))
else
(
(g19 s.2.2.2.2.2.2.2 y16 (IntKind.i64.wrap (s.2.2.2.1 + s.2.2.2.2.2.2.1))).bind fun y20 =>
some ((s.1, s.2.1, s.2.2.1, s.2.2.2.1, y20.2.1, y20.2.2, s.2.2.2.2.1, s.2.2.2.2.2.1, s.2.2.2.2.2.2.1, y20.1.1, y20.1.2.1, y20.1.2.2.1, y20.1.2.2.2.1, y20.1.2.2.2.2.1, y20.1.2.2.2.2.2.1, y20.1.2.2.2.2.2.2.1, y20.1.2.2.2.2.2.2.2.1, y20.1.2.2.2.2.2.2.2.2, y16.1, y16.2.1, y16.2.2.1, y16.2.2.2.1, y16.2.2.2.2.1, y16.2.2.2.2.2.1, y16.2.2.2.2.2.2.1, y16.2.2.2.2.2.2.2.1, y16.2.2.2.2.2.2.2.2.1, y16.2.2.2.2.2.2.2.2.2.1, y16.2.2.2.2.2.2.2.2.2.2.1, y16.2.2.2.2.2.2.2.2.2.2.2.1, y16.2.2.2.2.2.2.2.2.2.2.2.2)))).bind fun z21 =>
(lpU g6x0 (z21.1, z21.2.1, z21.2.2.1, z21.2.2.2.1, z21.2.2.2.2.1, z21.2.2.2.2.2.1, z21.2.2.2.2.2.2.1, z21.2.2.2.2.2.2.2.1, z21.2.2.2.2.2.2.2.2.1, (z21.2.2.2.2.2.2.2.2.2.2.2.2.2.2.2.2.2.2.2.2.2.2.2.2.2.2.2.2.2.1.length : Int), (0 : Int), z21.2.2.2.2.2.2.2.2.2.1, z21.2.2.2.2.2.2.2.2.2.2.1, z21.2.2.2.2.2.2.2.2.2.2.2.1, z21.2.2.2.2.2.2.2.2.2.2.2.2.1, z21.2.2.2.2.2.2.2.2.2.2.2.2.2.1, z21.2.2.2.2.2.2.2.2.2.2.2.2.2.2.1, z21.2.2.2.2.2.2.2.2.2.2.2.2.2.2.2.1, z21.2.2.2.2.2.2.2.2.2.2.2.2.2.2.2.2.1, z21.2.2.2.2.2.2.2.2.2.2.2.2.2.2.2.2.2.1, z21.2.2.2.2.2.2.2.2.2.2.2.2.2.2.2.2.2.2.1, z21.2.2.2.2.2.2.2.2.2.2.2.2.2.2.2.2.2.2.2.1, z21.2.2.2.2.2.2.2.2.2.2.2.2.2.2.2.2.2.2.2.2.1, z21.2.2.2.2.2.2.2.2.2.2.2.2.2.2.2.2.2.2.2.2.2.1, z21.2.2.2.2.2.2.2.2.2.2.2.2.2.2.2.2.2.2.2.2.2.2.1, z21.2.2.2.2.2.2.2.2.2.2.2.2.2.2.2.2.2.2.2.2.2.2.2.1, z21.2.2.2.2.2.2.2.2.2.2.2.2.2.2.2.2.2.2.2.2.2.2.2.2.1, z21.2.2.2.2.2.2.2.2.2.2.2.2.2.2.2.2.2.2.2.2.2.2.2.2.2.1, z21.2.2.2.2.2.2.2.2.2.2.2.2.2.2.2.2.2.2.2.2.2.2.2.2.2.2.1, z21.2.2.2.2.2.2.2.2.2.2.2.2.2.2.2.2.2.2.2.2.2.2.2.2.2.2.2.1, z21.2.2.2.2.2.2.2.2.2.2.2.2.2.2.2.2.2.2.2.2.2.2.2.2.2.2.2.2.1, z21.2.2.2.2.2.2.2.2.2.2.2.2.2.2.2.2.2.2.2.2.2.2.2.2.2.2.2.2.2.1, z21.2.2.2.2.2.2.2.2.2.2.2.2.2.2.2.2.2.2.2.2.2.2.2.2.2.2.2.2.2.2)).bind fun z37 =>
(g13 (z37.2.2.2.2.2.2.2.2.2.1, z37.2.2.2.2.2.2.2.2.2.2.1, z37.2.2.2.2.2.2.2.2.2.2.2.1, z37.2.2.2.2.2.2.2.2.2.2.2.2.1, z37.2.2.2.2.2.2.2.2.2.2.2.2.2.1, z37.2.2.2.2.2.2.2.2.2.2.2.2.2.2.1, z37.2.2.2.2.2.2.2.2.2.2.2.2.2.2.2.1, z37.2.2.2.2.2.2.2.2.2.2.2.2.2.2.2.2.1, z37.2.2.2.2.2.2.2.2.2.2.2.2.2.2.2.2.2.1)).bind fun y38 =>
let x39 := z37.2.2.2.2.2.1 != (0 : Int)
(if (!x39) then g16 (z37.2.2.2.2.2.2.2.2.2.1, z37.2.2.2.2.2.2.2.2.2.2.1, z37.2.2.2.2.2.2.2.2.2.2.2.1, z37.2.2.2.2.2.2.2.2.2.2.2.2.1, z37.2.2.2.2.2.2.2.2.2.2.2.2.2.1, z37.2.2.2.2.2.2.2.2.2.2.2.2.2.2.1, z37.2.2.2.2.2.2.2.2.2.2.2.2.2.2.2.1, z37.2.2.2.2.2.2.2.2.2.2.2.2.2.2.2.2.1, z37.2.2.2.2.2.2.2.2.2.2.2.2.2.2.2.2.2.1) else some (0 : Int)).bind fun y40 =>
let x42 := if x39 then true else (y40 != (0 : Int))
(if (!x42) then g14 (z37.2.2.2.2.2.2.2.2.2.1, z37.2.2.2.2.2.2.2.2.2.2.1, z37.2.2.2.2.2.2.2.2.2.2.2.1, z37.2.2.2.2.2.2.2.2.2.2.2.2.1, z37.2.2.2.2.2.2.2.2.2.2.2.2.2.1, z37.2.2.2.2.2.2.2.2.2.2.2.2.2.2.1, z37.2.2.2.2.2.2.2.2.2.2.2.2.2.2.2.1, z37.2.2.2.2.2.2.2.2.2.2.2.2.2.2.2.2.1, z37.2.2.2.2.2.2.2.2.2.2.2.2.2.2.2.2.2.1) else some (0 : Int)).bind fun y43 =>
let x49 := if (if x42 then true else (y43 != z37.2.2.1)) then true else (((y38.2 == (0 : Int)) == (z37.2.2.1 == (0 : Int))) != true)
let x50 := y38.2 == (0 : Int)
(if ((!x49) && x50) then g29 y38.1 z37.1 else some false).bind fun y51 =>
if (if (if (if x49 then true else (if x50 then (!y51) else false)) then true else ((((z37.2.2.2.2.1.length : Int) == (1 : Int)) == z37.2.2.2.2.2.2.2.2.2.2.2.2.2.2.2.2.2.2.2.2.2.2.2.2.2.2.2.2.1) != true)) then true else (decide ((z37.2.2.2.2.1.length : Int) > (1 : Int)))) then
(some (Sum.inr (Sum.inr (false))))
else
(
(lpU g6x3 (z37.1, z37.2.1, z37.2.2.1, z37.2.2.2.1, z37.2.2.2.2.2.2.1, z37.2.2.2.2.2.2.2.1, z37.2.2.2.2.2.2.2.2.1, z37.2.2.2.2.1, (z37.2.2.2.2.1.length : Int), (0 : Int), z37.2.2.2.2.2.2.2.2.2.1, z37.2.2.2.2.2.2.2.2.2.2.1, z37.2.2.2.2.2.2.2.2.2.2.2.1, z37.2.2.2.2.2.2.2.2.2.2.2.2.1, z37.2.2.2.2.2.2.2.2.2.2.2.2.2.1, z37.2.2.2.2.2.2.2.2.2.2.2.2.2.2.1, z37.2.2.2.2.2.2.2.2.2.2.2.2.2.2.2.1, z37.2.2.2.2.2.2.2.2.2.2.2.2.2.2.2.2.1, z37.2.2.2.2.2.2.2.2.2.2.2.2.2.2.2.2.2.1, z37.2.2.2.2.2.2.2.2.2.2.2.2.2.2.2.2.2.2.1, z37.2.2.2.2.2.2.2.2.2.2.2.2.2.2.2.2.2.2.2.1, z37.2.2.2.2.2.2.2.2.2.2.2.2.2.2.2.2.2.2.2.2.1, z37.2.2.2.2.2.2.2.2.2.2.2.2.2.2.2.2.2.2.2.2.2.1, z37.2.2.2.2.2.2.2.2.2.2.2.2.2.2.2.2.2.2.2.2.2.2.1, z37.2.2.2.2.2.2.2.2.2.2.2.2.2.2.2.2.2.2.2.2.2.2.2.1, z37.2.2.2.2.2.2.2.2.2.2.2.2.2.2.2.2.2.2.2.2.2.2.2.2.1, z37.2.2.2.2.2.2.2.2.2.2.2.2.2.2.2.2.2.2.2.2.2.2.2.2.2.1, z37.2.2.2.2.2.2.2.2.2.2.2.2.2.2.2.2.2.2.2.2.2.2.2.2.2.2.1, z37.2.2.2.2.2.2.2.2.2.2.2.2.2.2.2.2.2.2.2.2.2.2.2.2.2.2.2.1, z37.2.2.2.2.2.2.2.2.2.2.2.2.2.2.2.2.2.2.2.2.2.2.2.2.2.2.2.2.1, z37.2.2.2.2.2.2.2.2.2.2.2.2.2.2.2.2.2.2.2.2.2.2.2.2.2.2.2.2.2.1, z37.2.2.2.2.2.2.2.2.2.2.2.2.2.2.2.2.2.2.2.2.2.2.2.2.2.2.2.2.2.2)).bind fun z89 =>
match z89 with
| Sum.inl z90 => (let x92 := IntKind.i64.wrap (z90.2.2.2.2.2.2.1 + (1 : Int))
some (Sum.inl (z90.1, z90.2.1, z90.2.2.1, z90.2.2.2.1, z90.2.2.2.2.1, z90.2.2.2.2.2.1, x92, z90.2.2.2.2.2.2.2.1, z90.2.2.2.2.2.2.2.2.1, z90.2.2.2.2.2.2.2.2.2.1, z90.2.2.2.2.2.2.2.2.2.2.1, z90.2.2.2.2.2.2.2.2.2.2.2.1, z90.2.2.2.2.2.2.2.2.2.2.2.2.1, z90.2.2.2.2.2.2.2.2.2.2.2.2.2.1, z90.2.2.2.2.2.2.2.2.2.2.2.2.2.2.1, z90.2.2.2.2.2.2.2.2.2.2.2.2.2.2.2)))
| Sum.inr z91 => (some (Sum.inr (Sum.inr (z91))))))
else
(some (Sum.inr (Sum.inl (s.2.2.1, s.2.2.2.2.2.2.2.1, s.2.2.2.2.2.2.2.2.1, s.2.2.2.2.2.2.2.2.2.1, s.2.2.2.2.2.2.2.2.2.2.1, s.2.2.2.2.2.2.2.2.2.2.2.1, s.2.2.2.2.2.2.2.2.2.2.2.2.1, s.2.2.2.2.2.2.2.2.2.2.2.2.2.1, s.2.2.2.2.2.2.2.2.2.2.2.2.2.2.1, s.2.2.2.2.2.2.2.2.2.2.2.2.2.2.2))))
noncomputable def g6 (a0 : List Int) (a1 : List Cut) (a2 : Int) : Option Bool :=
(g8).bind fun y1 =>
if (!y1) then
(some false)
else
(
if (if (decide ((a0.length : Int) < (1 : Int))) then true else (decide ((a0.length : Int) > (512 : Int)))) then
(some true)
else
(let x8 := (a0.length : Int)
(mkl 1 x8 x8 false).bind fun y9 =>
(g28 a0 a1).bind fun y13 =>
(lpU g6x4 (a0, y9, (a0.length : Int), ((if (0 : Int) > a2 then (0 : Int) else a2).tmod (1000 : Int)), y13, (y13.length : Int), (0 : Int), (0 : Int), (0 : Int), (0 : Int), [], [], (0 : Int), (0 : Int), (0 : Int), (0 : Int))).bind fun z93 =>
match z93 with
| Sum.inl z94 => (let x96 := z94.1 == (0 : Int)
some (if x96 then (z94.2.2.2.2.2.2.2.1 == (2 : Int)) else false))
| Sum.inr z95 => (some z95)))
noncomputable def tf6 : TF := .par ⟨[.v (.l .ro (.i .u8)), .v (.l .ro YCut), .v (.i .i64)], .b⟩ (fun x => g6 x.1 x.2.1 x.2.2)
theorem e6 : evFn (tabU [(8, tf8), (13, tf13), (14, tf14), (16, tf16), (19, tf19), (24, tf24), (28, tf28), (29, tf29), (30, tf30)]) ⟨F6.res, F6.keep, tf6.sg⟩ T6 = fun x => g6 x.1 x.2.1 x.2.2 := by kernel_rfl
theorem o6 : TOK (EF pg) 6 tf6 := tok_of p6 rfl (tabU_cons o8 (tabU_cons o13 (tabU_cons o14 (tabU_cons o16 (tabU_cons o19 (tabU_cons o24 (tabU_cons o28 (tabU_cons o29 (tabU_cons o30 (tabU_nil)))))))))) ⟨rfl, rfl, by decide⟩ rfl fun x y h => (congrFun e6 x).trans h
end Go.Proofs.Ytmbhpchkhilheaa.Ev.U
