/- The functions as plain ones. Conditions: none. -/
import Derived.Test.YtfopbiiffiickaaFu16
set_option linter.all false
namespace Go.Proofs.Ytfopbiiffiickaa.Ev.U
open Go
open Zz
noncomputable def h24 (a0:Int) (a1:Int) (a2:Int):Bool:=
(if(decide (a0>=a1))then(decide (a0<=a2))else false)
noncomputable def tf24:TF:=.tot ⟨[.v (.i .i64),.v (.i .i64),.v (.i .i64)],.b⟩ (fun x=>h24 x.1 x.2.1 x.2.2)
theorem o24:TOK (EF pg) 24 tf24:=tkt T24 rfl tn (by kernel_rfl) (by kernel_rfl)
noncomputable def h23 (a0:Int):Bool:=
(h24 a0 (1:Int) (6:Int))
noncomputable def tf23:TF:=.tot ⟨[.v (.i .i64)],.b⟩ (fun x=>h23 x)
theorem o23:TOK (EF pg) 23 tf23:=tkt T23 rfl (tc o24 tn) (by kernel_rfl) (by kernel_rfl)
noncomputable def h28 (a0:Int):Bool:=
(if(decide (a0>=(1:Int)))then(decide (a0<=(6:Int)))else false)
noncomputable def tf28:TF:=.tot ⟨[.v (.i .i64)],.b⟩ (fun x=>h28 x)
theorem o28:TOK (EF pg) 28 tf28:=tkt T28 rfl tn (by kernel_rfl) (by kernel_rfl)
noncomputable def h29 (a0:Rules):Bool:=
(if(if(if(if(if(decide (a0.1>=(1:Int)))then(decide (a0.1<=(4096:Int)))else false)then(decide (a0.2.1>=(1:Int)))else false)then(decide (a0.2.1<=(16:Int)))else false)then(decide (a0.2.2>=(1:Int)))else false)then(decide (a0.2.2<=(65536:Int)))else false)
noncomputable def tf29:TF:=.tot ⟨[.v YRules],.b⟩ (fun x=>h29 x)
theorem o29:TOK (EF pg) 29 tf29:=tkt T29 rfl tn (by kernel_rfl) (by kernel_rfl)
noncomputable def g32x0 (s:(List Closed)×(List Taking)×Int×Int×Int×Int×Int×Int×Int×(List Outward)×(List Taking)×List Closed):Option (((List Closed)×(List Taking)×Int×Int×Int×Int×Int×Int×Int×(List Outward)×(List Taking)×List Closed)⊕(((List Closed)×Int×Int×Int×Int×Int×(List Outward)×(List Taking)×List Closed))):=
if(decide (s.2.2.2.1<s.2.2.1))then
((idx s.2.1 s.2.2.2.1).bind fun y3=>
(apd 32 s.1 ([(y3.1,y3.2.1,(0:Int),false,(0:Int))])).bind fun y4=>
some (Sum.inl (y4,s.2.1,s.2.2.1,(IntKind.i64.wrap (s.2.2.2.1+(1:Int))),s.2.2.2.2)))
else
(some (Sum.inr (s.1,s.2.2.2.2)))
noncomputable def g32x1 (s:(List Closed)×(List Closed)×Int×Int×(List Closed)×Int×Int×Int×Int×Int×Bool×Int):Option (((List Closed)×(List Closed)×Int×Int×(List Closed)×Int×Int×Int×Int×Int×Bool×Int)⊕(((List Closed)×(List Closed)×Int×Int)⊕Bool)):=
if(decide (s.2.2.2.2.2.2.1<s.2.2.2.2.2.1))then
((idx s.2.2.2.2.1 s.2.2.2.2.2.2.1).bind fun y14=>
if(if(s.2.2.2.2.2.2.2.1==y14.1)then(s.2.2.2.2.2.2.2.2.1==y14.2.1)else false)then
(some (Sum.inr (Sum.inr (false))))
else
(
some (Sum.inl (s.1,s.2.1,s.2.2.1,s.2.2.2.1,s.2.2.2.2.1,s.2.2.2.2.2.1,(IntKind.i64.wrap (s.2.2.2.2.2.2.1+(1:Int))),s.2.2.2.2.2.2.2))))
else
(some (Sum.inr (Sum.inl (s.1,s.2.1,s.2.2.1,s.2.2.2.1))))
noncomputable def g32x2 (s:(List Closed)×(List Closed)×Int×Int):Option (((List Closed)×(List Closed)×Int×Int)⊕(Unit⊕Bool)):=
if(decide (s.2.2.2<s.2.2.1))then
((idx s.2.1 s.2.2.2).bind fun y10=>
(cut s.1 0 s.2.2.2).bind fun y11=>
(lpU g32x1 (s.1,s.2.1,s.2.2.1,s.2.2.2,y11,(y11.length:Int),(0:Int),y10)).bind fun z19=>
match z19 with
|Sum.inl z20=>(let x22:=IntKind.i64.wrap (z20.2.2.2+(1:Int))
some (Sum.inl (z20.1,z20.2.1,z20.2.2.1,x22)))
|Sum.inr z21=>(some (Sum.inr (Sum.inr (z21)))))
else
(some (Sum.inr (Sum.inl ())))
noncomputable def g32 (a0:Ltp):Option Bool:=
(lpU g32x0 ([],a0.2.2.2.2.2.2.1,(a0.2.2.2.2.2.2.1.length:Int),(0:Int),a0)).bind fun z6=>
(apd 32 z6.1 z6.2.2.2.2.2.2.2.2).bind fun y7=>
(lpU g32x2 (y7,y7,(y7.length:Int),(0:Int))).bind fun z23=>
match z23 with
|Sum.inl z24=>(some true)
|Sum.inr z25=>(some z25)
noncomputable def tf32:TF:=.par ⟨[.v YLtp],.b⟩ (fun x=>g32 x)
theorem o32:TOK (EF pg) 32 tf32:=tkp T32 rfl tn (by kernel_rfl) (by kernel_rfl)
noncomputable def h33 (a0:Int) (a1:Ltp):Bool:=
(if(h23 a0)then(a0 !=a1.1)else false)
noncomputable def tf33:TF:=.tot ⟨[.v (.i .i64),.o (.p (.i .i64) (.p (.i .i64) (.p (.i .i64) (.p (.i .i64) (.p (.i .u32) (.p (.l .ro YOutward) (.p (.l .ro YTaking) (.l .ro YClosed))))))))],.b⟩ (fun x=>h33 x.1 x.2)
theorem o33:TOK (EF pg) 33 tf33:=tkt T33 rfl (tc o23 tn) (by kernel_rfl) (by kernel_rfl)
noncomputable def h39 (a0:Rules):Bool:=
(if(if(h24 a0.1 (1:Int) (4096:Int))then(h24 a0.2.1 (1:Int) (16:Int))else false)then(h24 a0.2.2 (1:Int) (65536:Int))else false)
noncomputable def tf39:TF:=.tot ⟨[.v YRules],.b⟩ (fun x=>h39 x)
theorem o39:TOK (EF pg) 39 tf39:=tkt T39 rfl (tc o24 tn) (by kernel_rfl) (by kernel_rfl)
noncomputable def h44 (a0:Outward):Id:=
(a0.2.1,a0.2.2.1)
noncomputable def tf44:TF:=.tot ⟨[.v YOutward],YId⟩ (fun x=>h44 x)
theorem o44:TOK (EF pg) 44 tf44:=tkt T44 rfl tn (by kernel_rfl) (by kernel_rfl)
noncomputable def h46 (a0:Taking):Id:=
(a0.1,a0.2.1)
noncomputable def tf46:TF:=.tot ⟨[.v YTaking],YId⟩ (fun x=>h46 x)
theorem o46:TOK (EF pg) 46 tf46:=tkt T46 rfl tn (by kernel_rfl) (by kernel_rfl)
noncomputable def h48 (a0:Closed):Id:=
(a0.1,a0.2.1)
noncomputable def tf48:TF:=.tot ⟨[.v YClosed],YId⟩ (fun x=>h48 x)
theorem o48:TOK (EF pg) 48 tf48:=tkt T48 rfl tn (by kernel_rfl) (by kernel_rfl)
noncomputable def g50 (a0:Sending):Option (Int×Int×(List Int)×Int×Int×Int×(List Claim)×Int×Int×Int×Int×Int×Int×Int×Int×Int×Int×Bool×(List Int)×(List Claim)×Int×Int×(List Int)×Int):=
(apd 1 [] a0.2.2.1).bind fun y1=>
(apd 16 [] a0.2.2.2.2.2.2.1).bind fun y2=>
(apd 4 [] a0.2.2.2.2.2.2.2.2.2.2.2.2.2.2.2.2.2.2.2.2.2.2.1).bind fun y3=>
(apd 1 [] a0.2.2.2.2.2.2.2.2.2.2.2.2.2.2.2.2.2.2.1).bind fun y4=>
(apd 16 [] a0.2.2.2.2.2.2.2.2.2.2.2.2.2.2.2.2.2.2.2.1).bind fun y5=>
some (a0.1,a0.2.1,y1,a0.2.2.2.1,a0.2.2.2.2.1,a0.2.2.2.2.2.1,y2,a0.2.2.2.2.2.2.2.1,a0.2.2.2.2.2.2.2.2.1,a0.2.2.2.2.2.2.2.2.2.1,a0.2.2.2.2.2.2.2.2.2.2.1,a0.2.2.2.2.2.2.2.2.2.2.2.1,a0.2.2.2.2.2.2.2.2.2.2.2.2.1,a0.2.2.2.2.2.2.2.2.2.2.2.2.2.1,a0.2.2.2.2.2.2.2.2.2.2.2.2.2.2.1,a0.2.2.2.2.2.2.2.2.2.2.2.2.2.2.2.1,a0.2.2.2.2.2.2.2.2.2.2.2.2.2.2.2.2.1,a0.2.2.2.2.2.2.2.2.2.2.2.2.2.2.2.2.2.1,y4,y5,a0.2.2.2.2.2.2.2.2.2.2.2.2.2.2.2.2.2.2.2.2.1,a0.2.2.2.2.2.2.2.2.2.2.2.2.2.2.2.2.2.2.2.2.2.1,y3,a0.2.2.2.2.2.2.2.2.2.2.2.2.2.2.2.2.2.2.2.2.2.2.2)
noncomputable def tf50:TF:=.par ⟨[.v YSending],(.g (.p (.i .i64) (.p (.i .u32) (.p (.l .app (.i .u8)) (.p (.i .i64) (.p (.i .i64) (.p (.i .i64) (.p (.l .app YClaim) (.p (.i .i64) (.p (.i .i64) (.p (.i .u32) (.p (.i .u32) (.p (.i .u32) (.p (.i .i64) (.p (.i .i64) (.p (.i .i64) (.p (.i .i64) (.p (.i .i64) (.p .b (.p (.l .app (.i .u8)) (.p (.l .app YClaim) (.p (.i .i64) (.p (.i .i64) (.p (.l .app (.i .u32)) (.i .i64)))))))))))))))))))))))))⟩ (fun x=>g50 x)
theorem o50:TOK (EF pg) 50 tf50:=tkp T50 rfl tn (by kernel_rfl) (by kernel_rfl)
noncomputable def g54x0 (s:Int×Int×Int×Int×Int×Int×Int×Int×Int×Int×Int×Int×Bool×(List Int)×(List Claim)×Int×Int×Int×Int×Int×Int×Int×Int×Int×Int×Bool×(List Int)×List Claim):Option ((Int×Int×Int×Int×Int×Int×Int×Int×Int×Int×Int×Int×Bool×(List Int)×(List Claim)×Int×Int×Int×Int×Int×Int×Int×Int×Int×Int×Bool×(List Int)×List Claim)⊕((Int×Int×Int×Int×Int×Int×Int×Int×Int×Int×Bool×(List Int)×(List Claim)×Int×Int×Int×Int×Int×Int×Int×Int×Int×Int×Bool×(List Int)×List Claim)⊕Bool)):=
if(decide (s.2.1<s.1))then
((idx s.2.2.2.2.2.2.2.2.2.2.2.2.2.2.1 s.2.1).bind fun y6=>
(idx s.2.2.2.2.2.2.2.2.2.2.2.2.2.2.2.2.2.2.2.2.2.2.2.2.2.2.2 s.2.1).bind fun y7=>
if(!((y6.1==y7.1)&&((y6.2==y7.2)&&(true))))then
(some (Sum.inr (Sum.inr (false))))
else
(
some (Sum.inl (s.1,(IntKind.i64.wrap (s.2.1+(1:Int))),s.2.2))))
else
(some (Sum.inr (Sum.inl (s.2.2))))
noncomputable def g54 (a0:Segment) (a1:Segment):Option Bool:=
if((a0.2.2.2.2.2.2.2.2.2.2.2.2.length:Int)!=(a1.2.2.2.2.2.2.2.2.2.2.2.2.length:Int))then
(some false)
else
(
(lpU g54x0 ((a0.2.2.2.2.2.2.2.2.2.2.2.2.length:Int),(0:Int),a0.1,a0.2.1,a0.2.2.1,a0.2.2.2.1,a0.2.2.2.2.1,a0.2.2.2.2.2.1,a0.2.2.2.2.2.2.1,a0.2.2.2.2.2.2.2.1,a0.2.2.2.2.2.2.2.2.1,a0.2.2.2.2.2.2.2.2.2.1,a0.2.2.2.2.2.2.2.2.2.2.1,a0.2.2.2.2.2.2.2.2.2.2.2.1,a0.2.2.2.2.2.2.2.2.2.2.2.2,a1)).bind fun z10=>
match z10 with
|Sum.inl z11=>(let x13:=z11.1==z11.2.2.2.2.2.2.2.2.2.2.2.2.2.1
some (if(if(if(if(if(if(if(if(if(if(if x13 then(z11.2.1==z11.2.2.2.2.2.2.2.2.2.2.2.2.2.2.1)else false)then(z11.2.2.1==z11.2.2.2.2.2.2.2.2.2.2.2.2.2.2.2.1)else false)then(z11.2.2.2.1==z11.2.2.2.2.2.2.2.2.2.2.2.2.2.2.2.2.1)else false)then(z11.2.2.2.2.1==z11.2.2.2.2.2.2.2.2.2.2.2.2.2.2.2.2.2.1)else false)then(z11.2.2.2.2.2.1==z11.2.2.2.2.2.2.2.2.2.2.2.2.2.2.2.2.2.2.1)else false)then(z11.2.2.2.2.2.2.1==z11.2.2.2.2.2.2.2.2.2.2.2.2.2.2.2.2.2.2.2.1)else false)then(z11.2.2.2.2.2.2.2.1==z11.2.2.2.2.2.2.2.2.2.2.2.2.2.2.2.2.2.2.2.2.1)else false)then(z11.2.2.2.2.2.2.2.2.1==z11.2.2.2.2.2.2.2.2.2.2.2.2.2.2.2.2.2.2.2.2.2.1)else false)then(z11.2.2.2.2.2.2.2.2.2.1==z11.2.2.2.2.2.2.2.2.2.2.2.2.2.2.2.2.2.2.2.2.2.2.1)else false)then((z11.2.2.2.2.2.2.2.2.2.2.1==z11.2.2.2.2.2.2.2.2.2.2.2.2.2.2.2.2.2.2.2.2.2.2.2.1)!=false)else false)then(decide (z11.2.2.2.2.2.2.2.2.2.2.2.1=z11.2.2.2.2.2.2.2.2.2.2.2.2.2.2.2.2.2.2.2.2.2.2.2.2.1))else false))
|Sum.inr z12=>(some z12))
noncomputable def tf54:TF:=.par ⟨[.v YSegment,.v YSegment],.b⟩ (fun x=>g54 x.1 x.2)
theorem o54:TOK (EF pg) 54 tf54:=tkp T54 rfl tn (by kernel_rfl) (by kernel_rfl)
noncomputable def g52x0 (s:Int×Int×Int×Int×(List Int)×Int×Int×Int×(List Claim)×Int×Int×Int×Int×Int×Int×Int×Int×Int×Int×Bool×(List Int)×(List Claim)×Int×Int×(List Int)×Int×Int×Int×(List Int)×Int×Int×Int×(List Claim)×Int×Int×Int×Int×Int×Int×Int×Int×Int×Int×Bool×(List Int)×(List Claim)×Int×Int×(List Int)×Int):Option ((Int×Int×Int×Int×(List Int)×Int×Int×Int×(List Claim)×Int×Int×Int×Int×Int×Int×Int×Int×Int×Int×Bool×(List Int)×(List Claim)×Int×Int×(List Int)×Int×Int×Int×(List Int)×Int×Int×Int×(List Claim)×Int×Int×Int×Int×Int×Int×Int×Int×Int×Int×Bool×(List Int)×(List Claim)×Int×Int×(List Int)×Int)⊕((Int×Int×(List Int)×Int×Int×Int×(List Claim)×Int×Int×Int×Int×Int×Int×Int×Int×Int×Int×Bool×(List Int)×(List Claim)×Int×Int×(List Int)×Int×Int×Int×(List Int)×Int×Int×Int×(List Claim)×Int×Int×Int×Int×Int×Int×Int×Int×Int×Int×Bool×(List Int)×(List Claim)×Int×Int×(List Int)×Int)⊕Bool)):=
if(decide (s.2.1<s.1))then
((idx s.2.2.2.2.2.2.2.2.1 s.2.1).bind fun y31=>
(idx s.2.2.2.2.2.2.2.2.2.2.2.2.2.2.2.2.2.2.2.2.2.2.2.2.2.2.2.2.2.2.2.2.1 s.2.1).bind fun y32=>
if(!((y31.1==y32.1)&&((y31.2==y32.2)&&(true))))then
(some (Sum.inr (Sum.inr (false))))
else
(
some (Sum.inl (s.1,(IntKind.i64.wrap (s.2.1+(1:Int))),s.2.2))))
else
(some (Sum.inr (Sum.inl (s.2.2))))
noncomputable def g52x1 (s:Int×Int×Int×Int×(List Int)×Int×Int×Int×(List Claim)×Int×Int×Int×Int×Int×Int×Int×Int×Int×Int×Bool×(List Int)×(List Claim)×Int×Int×(List Int)×Int×Int×Int×(List Int)×Int×Int×Int×(List Claim)×Int×Int×Int×Int×Int×Int×Int×Int×Int×Int×Bool×(List Int)×(List Claim)×Int×Int×(List Int)×Int):Option ((Int×Int×Int×Int×(List Int)×Int×Int×Int×(List Claim)×Int×Int×Int×Int×Int×Int×Int×Int×Int×Int×Bool×(List Int)×(List Claim)×Int×Int×(List Int)×Int×Int×Int×(List Int)×Int×Int×Int×(List Claim)×Int×Int×Int×Int×Int×Int×Int×Int×Int×Int×Bool×(List Int)×(List Claim)×Int×Int×(List Int)×Int)⊕(Unit⊕Bool)):=
if(decide (s.2.1<s.1))then
((idx s.2.2.2.2.2.2.2.2.2.2.2.2.2.2.2.2.2.2.2.2.2.2.2.2.1 s.2.1).bind fun y40=>
(idx s.2.2.2.2.2.2.2.2.2.2.2.2.2.2.2.2.2.2.2.2.2.2.2.2.2.2.2.2.2.2.2.2.2.2.2.2.2.2.2.2.2.2.2.2.2.2.2.2.1 s.2.1).bind fun y41=>
if(y40 !=y41)then
(some (Sum.inr (Sum.inr (false))))
else
(
some (Sum.inl (s.1,(IntKind.i64.wrap (s.2.1+(1:Int))),s.2.2))))
else
(some (Sum.inr (Sum.inl ())))
noncomputable def g52 (a0:Sending) (a1:Sending):Option Bool:=
let x17:=if(if(if(if(if(if(if(if(a0.1 !=a1.1)then true else(a0.2.1 !=a1.2.1))then true else(a0.2.2.2.1 !=a1.2.2.2.1))then true else(a0.2.2.2.2.1 !=a1.2.2.2.2.1))then true else(!decide (a0.2.2.1=a1.2.2.1)))then true else(a0.2.2.2.2.2.1 !=a1.2.2.2.2.2.1))then true else(a0.2.2.2.2.2.2.2.2.2.2.2.2.2.2.2.2.2.2.2.2.1 !=a1.2.2.2.2.2.2.2.2.2.2.2.2.2.2.2.2.2.2.2.2.1))then true else(a0.2.2.2.2.2.2.2.2.2.2.2.2.2.2.2.2.2.2.2.2.2.1 !=a1.2.2.2.2.2.2.2.2.2.2.2.2.2.2.2.2.2.2.2.2.2.1))then true else(a0.2.2.2.2.2.2.2.2.2.2.2.2.2.2.2.2.2.2.2.2.2.2.2 !=a1.2.2.2.2.2.2.2.2.2.2.2.2.2.2.2.2.2.2.2.2.2.2.2)
(if(!x17)then g54 (a0.2.2.2.2.2.2.2.1,a0.2.2.2.2.2.2.2.2.1,a0.2.2.2.2.2.2.2.2.2.1,a0.2.2.2.2.2.2.2.2.2.2.1,a0.2.2.2.2.2.2.2.2.2.2.2.1,a0.2.2.2.2.2.2.2.2.2.2.2.2.1,a0.2.2.2.2.2.2.2.2.2.2.2.2.2.1,a0.2.2.2.2.2.2.2.2.2.2.2.2.2.2.1,a0.2.2.2.2.2.2.2.2.2.2.2.2.2.2.2.1,a0.2.2.2.2.2.2.2.2.2.2.2.2.2.2.2.2.1,a0.2.2.2.2.2.2.2.2.2.2.2.2.2.2.2.2.2.1,a0.2.2.2.2.2.2.2.2.2.2.2.2.2.2.2.2.2.2.1,a0.2.2.2.2.2.2.2.2.2.2.2.2.2.2.2.2.2.2.2.1) (a1.2.2.2.2.2.2.2.1,a1.2.2.2.2.2.2.2.2.1,a1.2.2.2.2.2.2.2.2.2.1,a1.2.2.2.2.2.2.2.2.2.2.1,a1.2.2.2.2.2.2.2.2.2.2.2.1,a1.2.2.2.2.2.2.2.2.2.2.2.2.1,a1.2.2.2.2.2.2.2.2.2.2.2.2.2.1,a1.2.2.2.2.2.2.2.2.2.2.2.2.2.2.1,a1.2.2.2.2.2.2.2.2.2.2.2.2.2.2.2.1,a1.2.2.2.2.2.2.2.2.2.2.2.2.2.2.2.2.1,a1.2.2.2.2.2.2.2.2.2.2.2.2.2.2.2.2.2.1,a1.2.2.2.2.2.2.2.2.2.2.2.2.2.2.2.2.2.2.1,a1.2.2.2.2.2.2.2.2.2.2.2.2.2.2.2.2.2.2.2.1)else some false).bind fun y18=>
if(if(if(if x17 then true else(!y18))then true else((a0.2.2.2.2.2.2.1.length:Int)!=(a1.2.2.2.2.2.2.1.length:Int)))then true else((a0.2.2.2.2.2.2.2.2.2.2.2.2.2.2.2.2.2.2.2.2.2.2.1.length:Int)!=(a1.2.2.2.2.2.2.2.2.2.2.2.2.2.2.2.2.2.2.2.2.2.2.1.length:Int)))then
(some false)
else
(
(lpU g52x0 ((a0.2.2.2.2.2.2.1.length:Int),(0:Int),a0.1,a0.2.1,a0.2.2.1,a0.2.2.2.1,a0.2.2.2.2.1,a0.2.2.2.2.2.1,a0.2.2.2.2.2.2.1,a0.2.2.2.2.2.2.2.1,a0.2.2.2.2.2.2.2.2.1,a0.2.2.2.2.2.2.2.2.2.1,a0.2.2.2.2.2.2.2.2.2.2.1,a0.2.2.2.2.2.2.2.2.2.2.2.1,a0.2.2.2.2.2.2.2.2.2.2.2.2.1,a0.2.2.2.2.2.2.2.2.2.2.2.2.2.1,a0.2.2.2.2.2.2.2.2.2.2.2.2.2.2.1,a0.2.2.2.2.2.2.2.2.2.2.2.2.2.2.2.1,a0.2.2.2.2.2.2.2.2.2.2.2.2.2.2.2.2.1,a0.2.2.2.2.2.2.2.2.2.2.2.2.2.2.2.2.2.1,a0.2.2.2.2.2.2.2.2.2.2.2.2.2.2.2.2.2.2.1,a0.2.2.2.2.2.2.2.2.2.2.2.2.2.2.2.2.2.2.2.1,a0.2.2.2.2.2.2.2.2.2.2.2.2.2.2.2.2.2.2.2.2.1,a0.2.2.2.2.2.2.2.2.2.2.2.2.2.2.2.2.2.2.2.2.2.1,a0.2.2.2.2.2.2.2.2.2.2.2.2.2.2.2.2.2.2.2.2.2.2.1,a0.2.2.2.2.2.2.2.2.2.2.2.2.2.2.2.2.2.2.2.2.2.2.2,a1)).bind fun z35=>
match z35 with
|Sum.inl z36=>(let x38:=(z36.2.2.2.2.2.2.2.2.2.2.2.2.2.2.2.2.2.2.2.2.2.2.1.length:Int)
(lpU g52x1 (x38,(0:Int),z36)).bind fun z44=>
match z44 with
|Sum.inl z45=>(some true)
|Sum.inr z46=>(some z46))
|Sum.inr z37=>(some z37))
noncomputable def tf52:TF:=.par ⟨[.v YSending,.v YSending],.b⟩ (fun x=>g52 x.1 x.2)
theorem o52:TOK (EF pg) 52 tf52:=tkp T52 rfl (tc o54 tn) (by kernel_rfl) (by kernel_rfl)
noncomputable def g57x0 (s:(List Outward)×((Outward×Outward)->Option Bool)×(List Outward)×Int×Int):Option (((List Outward)×((Outward×Outward)->Option Bool)×(List Outward)×Int×Int)⊕(Unit⊕Bool)):=
if(decide (s.2.2.2.2<s.2.2.2.1))then
((idx s.2.2.1 s.2.2.2.2).bind fun y6=>
(idx s.1 s.2.2.2.2).bind fun y7=>
(s.2.1 (y6,y7)).bind fun y8=>
if(!y8)then
(some (Sum.inr (Sum.inr (false))))
else
(
some (Sum.inl (s.1,s.2.1,s.2.2.1,s.2.2.2.1,(IntKind.i64.wrap (s.2.2.2.2+(1:Int)))))))
else
(some (Sum.inr (Sum.inl ())))
noncomputable def g57 (a0:List Outward) (a1:List Outward) (a2:(Outward×Outward)->Option Bool):Option Bool:=
if((a0.length:Int)!=(a1.length:Int))then
(some false)
else
(
(lpU g57x0 (a1,a2,a0,(a0.length:Int),(0:Int))).bind fun z11=>
match z11 with
|Sum.inl z12=>(some true)
|Sum.inr z13=>(some z13))
noncomputable def tf57:TF:=.par ⟨[.v (.l .ro YOutward),.v (.l .ro YOutward),.v (.fn (.t YOutward YOutward) .b)],.b⟩ (fun x=>g57 x.1 x.2.1 x.2.2)
theorem o57:TOK (EF pg) 57 tf57:=tkp T57 rfl tn (by kernel_rfl) (by kernel_rfl)
noncomputable def g58x0 (s:(List Taking)×((Taking×Taking)->Option Bool)×(List Taking)×Int×Int):Option (((List Taking)×((Taking×Taking)->Option Bool)×(List Taking)×Int×Int)⊕(Unit⊕Bool)):=
if(decide (s.2.2.2.2<s.2.2.2.1))then
((idx s.2.2.1 s.2.2.2.2).bind fun y6=>
(idx s.1 s.2.2.2.2).bind fun y7=>
(s.2.1 (y6,y7)).bind fun y8=>
if(!y8)then
(some (Sum.inr (Sum.inr (false))))
else
(
some (Sum.inl (s.1,s.2.1,s.2.2.1,s.2.2.2.1,(IntKind.i64.wrap (s.2.2.2.2+(1:Int)))))))
else
(some (Sum.inr (Sum.inl ())))
noncomputable def g58 (a0:List Taking) (a1:List Taking) (a2:(Taking×Taking)->Option Bool):Option Bool:=
if((a0.length:Int)!=(a1.length:Int))then
(some false)
else
(
(lpU g58x0 (a1,a2,a0,(a0.length:Int),(0:Int))).bind fun z11=>
match z11 with
|Sum.inl z12=>(some true)
|Sum.inr z13=>(some z13))
noncomputable def tf58:TF:=.par ⟨[.v (.l .ro YTaking),.v (.l .ro YTaking),.v (.fn (.t YTaking YTaking) .b)],.b⟩ (fun x=>g58 x.1 x.2.1 x.2.2)
theorem o58:TOK (EF pg) 58 tf58:=tkp T58 rfl tn (by kernel_rfl) (by kernel_rfl)
noncomputable def g60x0 (s:(List Closed)×(List Closed)×Int×Int):Option (((List Closed)×(List Closed)×Int×Int)⊕(Unit⊕Bool)):=
if(decide (s.2.2.2<s.2.2.1))then
((idx s.1 s.2.2.2).bind fun y6=>
(idx s.2.1 s.2.2.2).bind fun y7=>
if(!((y6.1==y7.1)&&((y6.2.1==y7.2.1)&&((y6.2.2.1==y7.2.2.1)&&((y6.2.2.2.1==y7.2.2.2.1)&&((y6.2.2.2.2==y7.2.2.2.2)&&(true)))))))then
(some (Sum.inr (Sum.inr (false))))
else
(
some (Sum.inl (s.1,s.2.1,s.2.2.1,(IntKind.i64.wrap (s.2.2.2+(1:Int)))))))
else
(some (Sum.inr (Sum.inl ())))
noncomputable def g60 (a0:List Closed) (a1:List Closed):Option Bool:=
if((a0.length:Int)!=(a1.length:Int))then
(some false)
else
(
(lpU g60x0 (a0,a1,(a0.length:Int),(0:Int))).bind fun z10=>
match z10 with
|Sum.inl z11=>(some true)
|Sum.inr z12=>(some z12))
noncomputable def tf60:TF:=.par ⟨[.v (.l .ro YClosed),.v (.l .ro YClosed)],.b⟩ (fun x=>g60 x.1 x.2)
theorem o60:TOK (EF pg) 60 tf60:=tkp T60 rfl tn (by kernel_rfl) (by kernel_rfl)
noncomputable def g61 (a0:Taking):Option Taking:=
(apd 1 [] a0.2.2.2.1).bind fun y1=>
(apd 16 [] a0.2.2.2.2.1).bind fun y2=>
some (a0.1,a0.2.1,a0.2.2.1,y1,y2,a0.2.2.2.2.2)
noncomputable def tf61:TF:=.par ⟨[.v YTaking],YTaking⟩ (fun x=>g61 x)
theorem o61:TOK (EF pg) 61 tf61:=tkp T61 rfl tn (by kernel_rfl) (by kernel_rfl)
noncomputable def g20x0 (s:(List Outward)×(List Outward)×Int×Int×Int×Int×Int×Int×Int×(List Outward)×(List Taking)×(List Closed)×Int×Int×Int×Int×Int):Option (((List Outward)×(List Outward)×Int×Int×Int×Int×Int×Int×Int×(List Outward)×(List Taking)×(List Closed)×Int×Int×Int×Int×Int)⊕(((List Outward)×Int×Int×Int×Int×Int×(List Outward)×(List Taking)×(List Closed)×Int×Int×Int×Int×Int))):=
if(decide (s.2.2.2.1<s.2.2.1))then
((idx s.2.1 s.2.2.2.1).bind fun y3=>
(g50 y3.2).bind fun y4=>
(apd 272 s.1 ([(y3.1,y4)])).bind fun y5=>
some (Sum.inl (y5,s.2.1,s.2.2.1,(IntKind.i64.wrap (s.2.2.2.1+(1:Int))),s.2.2.2.2)))
else
(some (Sum.inr (s.1,s.2.2.2.2)))
noncomputable def g20x1 (s:(List Outward)×(List Taking)×(List Taking)×Int×Int×Int×Int×Int×Int×Int×(List Outward)×(List Taking)×(List Closed)×Int×Int×Int×Int×Int):Option (((List Outward)×(List Taking)×(List Taking)×Int×Int×Int×Int×Int×Int×Int×(List Outward)×(List Taking)×(List Closed)×Int×Int×Int×Int×Int)⊕(((List Outward)×(List Taking)×Int×Int×Int×Int×Int×(List Outward)×(List Taking)×(List Closed)×Int×Int×Int×Int×Int))):=
if(decide (s.2.2.2.2.1<s.2.2.2.1))then
((idx s.2.2.1 s.2.2.2.2.1).bind fun y10=>
(g61 y10).bind fun y11=>
(apd 104 s.2.1 ([y11])).bind fun y12=>
some (Sum.inl (s.1,y12,s.2.2.1,s.2.2.2.1,(IntKind.i64.wrap (s.2.2.2.2.1+(1:Int))),s.2.2.2.2.2)))
else
(some (Sum.inr (s.1,s.2.1,s.2.2.2.2.2)))
noncomputable def g20 (a0:Ltp):Option (Int×Int×Int×Int×Int×(List Outward)×(List Taking)×List Closed):=
(lpU g20x0 ([],a0.2.2.2.2.2.1,(a0.2.2.2.2.2.1.length:Int),(0:Int),a0.1,a0.2.1,a0.2.2.1,a0.2.2.2.1,a0.2.2.2.2.1,a0.2.2.2.2.2.1,a0.2.2.2.2.2.2.1,a0.2.2.2.2.2.2.2,(0:Int),(0:Int),(0:Int),(0:Int),(0:Int))).bind fun z7=>
(lpU g20x1 (z7.1,[],z7.2.2.2.2.2.2.2.1,(z7.2.2.2.2.2.2.2.1.length:Int),(0:Int),z7.2)).bind fun z14=>
(apd 32 [] z14.2.2.2.2.2.2.2.2.2.1).bind fun y15=>
some (z14.2.2.1,z14.2.2.2.1,z14.2.2.2.2.1,z14.2.2.2.2.2.1,z14.2.2.2.2.2.2.1,z14.1,z14.2.1,y15)
noncomputable def tf20:TF:=.par ⟨[.v YLtp],(.g (.p (.i .i64) (.p (.i .i64) (.p (.i .i64) (.p (.i .i64) (.p (.i .u32) (.p (.l .mu YOutward) (.p (.l .mu YTaking) (.l .app YClosed)))))))))⟩ (fun x=>g20 x)
theorem o20:TOK (EF pg) 20 tf20:=tkp T20 rfl (tc o50 (tc o61 tn)) (by kernel_rfl) (by kernel_rfl)
noncomputable def g8x0 (s:Int×Int×Int×Int×Int×Int×Int×(List Outward)×(List Taking)×(List Closed)×Int×Int×Int×Int×Int):Option ((Int×Int×Int×Int×Int×Int×Int×(List Outward)×(List Taking)×(List Closed)×Int×Int×Int×Int×Int)⊕((Int×Int×Int×Int×Int×(List Outward)×(List Taking)×(List Closed)×Int×Int×Int×Int×Int))):=
if(decide (s.2.1<s.1))then
((chkI s.2.1 (s.2.2.2.2.2.2.2.1.length:Int)).bind fun y13=>
(idx s.2.2.2.2.2.2.2.1 s.2.1).bind fun y14=>
(idx s.2.2.2.2.2.2.2.1 s.2.1).bind fun y15=>
let x16:=(y15.2.2.2.1.length:Int)
(cut y14.2.2.2.1 0 (if(600:Int)<x16 then(600:Int)else x16)).bind fun y18=>
(idx s.2.2.2.2.2.2.2.1 s.2.1).bind fun y19=>
(idx s.2.2.2.2.2.2.2.1 s.2.1).bind fun y20=>
let x21:=(y20.2.2.2.2.2.2.2.1.length:Int)
(cut y19.2.2.2.2.2.2.2.1 0 (if(300:Int)<x21 then(300:Int)else x21)).bind fun y23=>
(idx s.2.2.2.2.2.2.2.1 s.2.1).bind fun y24=>
(idx s.2.2.2.2.2.2.2.1 s.2.1).bind fun y25=>
let x26:=(y25.2.2.2.2.2.2.2.2.2.2.2.2.2.2.2.2.2.2.2.2.2.2.2.1.length:Int)
(cut y24.2.2.2.2.2.2.2.2.2.2.2.2.2.2.2.2.2.2.2.2.2.2.2.1 0 (if(40:Int)<x26 then(40:Int)else x26)).bind fun y28=>
(idx s.2.2.2.2.2.2.2.1 s.2.1).bind fun y29=>
(idx s.2.2.2.2.2.2.2.1 s.2.1).bind fun y30=>
let x31:=(y30.2.2.2.2.2.2.2.2.2.2.2.2.2.2.2.2.2.2.2.1.length:Int)
(cut y29.2.2.2.2.2.2.2.2.2.2.2.2.2.2.2.2.2.2.2.1 0 (if(200:Int)<x31 then(200:Int)else x31)).bind fun y33=>
(idx s.2.2.2.2.2.2.2.1 s.2.1).bind fun y34=>
let x35:=List.set s.2.2.2.2.2.2.2.1 (Int.toNat s.2.1) (y34.1,y34.2.1,y34.2.2.1,y18,y34.2.2.2.2)
(idx x35 s.2.1).bind fun y36=>
let x37:=List.set x35 (Int.toNat s.2.1) (y36.1,y36.2.1,y36.2.2.1,y36.2.2.2.1,y36.2.2.2.2.1,y36.2.2.2.2.2.1,y36.2.2.2.2.2.2.1,y23,y36.2.2.2.2.2.2.2.2)
(idx x37 s.2.1).bind fun y38=>
let x39:=List.set x37 (Int.toNat s.2.1) (y38.1,y38.2.1,y38.2.2.1,y38.2.2.2.1,y38.2.2.2.2.1,y38.2.2.2.2.2.1,y38.2.2.2.2.2.2.1,y38.2.2.2.2.2.2.2.1,y38.2.2.2.2.2.2.2.2.1,y38.2.2.2.2.2.2.2.2.2.1,y38.2.2.2.2.2.2.2.2.2.2.1,y38.2.2.2.2.2.2.2.2.2.2.2.1,y38.2.2.2.2.2.2.2.2.2.2.2.2.1,y38.2.2.2.2.2.2.2.2.2.2.2.2.2.1,y38.2.2.2.2.2.2.2.2.2.2.2.2.2.2.1,y38.2.2.2.2.2.2.2.2.2.2.2.2.2.2.2.1,y38.2.2.2.2.2.2.2.2.2.2.2.2.2.2.2.2.1,y38.2.2.2.2.2.2.2.2.2.2.2.2.2.2.2.2.2.1,y38.2.2.2.2.2.2.2.2.2.2.2.2.2.2.2.2.2.2.1,y38.2.2.2.2.2.2.2.2.2.2.2.2.2.2.2.2.2.2.2.1,y38.2.2.2.2.2.2.2.2.2.2.2.2.2.2.2.2.2.2.2.2.1,y38.2.2.2.2.2.2.2.2.2.2.2.2.2.2.2.2.2.2.2.2.2.1,y38.2.2.2.2.2.2.2.2.2.2.2.2.2.2.2.2.2.2.2.2.2.2.1,y28,y38.2.2.2.2.2.2.2.2.2.2.2.2.2.2.2.2.2.2.2.2.2.2.2.2)
(idx x39 s.2.1).bind fun y40=>
(eqI (s.2.2.2.2.2.2.2.1.length:Int) (s.2.2.2.2.2.2.2.1.length:Int)).bind fun _u=>
some (Sum.inl (s.1,(IntKind.i64.wrap (s.2.1+(1:Int))),s.2.2.1,s.2.2.2.1,s.2.2.2.2.1,s.2.2.2.2.2.1,s.2.2.2.2.2.2.1,(List.set x39 (Int.toNat s.2.1) (y40.1,y40.2.1,y40.2.2.1,y40.2.2.2.1,y40.2.2.2.2.1,y40.2.2.2.2.2.1,y40.2.2.2.2.2.2.1,y40.2.2.2.2.2.2.2.1,y40.2.2.2.2.2.2.2.2.1,y40.2.2.2.2.2.2.2.2.2.1,y40.2.2.2.2.2.2.2.2.2.2.1,y40.2.2.2.2.2.2.2.2.2.2.2.1,y40.2.2.2.2.2.2.2.2.2.2.2.2.1,y40.2.2.2.2.2.2.2.2.2.2.2.2.2.1,y40.2.2.2.2.2.2.2.2.2.2.2.2.2.2.1,y40.2.2.2.2.2.2.2.2.2.2.2.2.2.2.2.1,y40.2.2.2.2.2.2.2.2.2.2.2.2.2.2.2.2.1,y40.2.2.2.2.2.2.2.2.2.2.2.2.2.2.2.2.2.1,y40.2.2.2.2.2.2.2.2.2.2.2.2.2.2.2.2.2.2.1,y33,y40.2.2.2.2.2.2.2.2.2.2.2.2.2.2.2.2.2.2.2.2)),s.2.2.2.2.2.2.2.2)))
else
(some (Sum.inr (s.2.2)))
noncomputable def g8x1 (s:Int×Int×Int×Int×Int×Int×Int×(List Outward)×(List Taking)×(List Closed)×Int×Int×Int×Int×Int):Option ((Int×Int×Int×Int×Int×Int×Int×(List Outward)×(List Taking)×(List Closed)×Int×Int×Int×Int×Int)⊕((Int×Int×Int×Int×Int×(List Outward)×(List Taking)×(List Closed)×Int×Int×Int×Int×Int))):=
if(decide (s.2.1<s.1))then
((chkI s.2.1 (s.2.2.2.2.2.2.2.2.1.length:Int)).bind fun y46=>
(idx s.2.2.2.2.2.2.2.2.1 s.2.1).bind fun y47=>
(idx s.2.2.2.2.2.2.2.2.1 s.2.1).bind fun y48=>
let x49:=(y48.2.2.2.1.length:Int)
(cut y47.2.2.2.1 0 (if(600:Int)<x49 then(600:Int)else x49)).bind fun y51=>
(idx s.2.2.2.2.2.2.2.2.1 s.2.1).bind fun y52=>
(idx s.2.2.2.2.2.2.2.2.1 s.2.1).bind fun y53=>
let x54:=(y53.2.2.2.2.1.length:Int)
(cut y52.2.2.2.2.1 0 (if(300:Int)<x54 then(300:Int)else x54)).bind fun y56=>
(idx s.2.2.2.2.2.2.2.2.1 s.2.1).bind fun y57=>
let x58:=List.set s.2.2.2.2.2.2.2.2.1 (Int.toNat s.2.1) (y57.1,y57.2.1,y57.2.2.1,y51,y57.2.2.2.2)
(idx x58 s.2.1).bind fun y59=>
(eqI (s.2.2.2.2.2.2.2.2.1.length:Int) (s.2.2.2.2.2.2.2.2.1.length:Int)).bind fun _u=>
some (Sum.inl (s.1,(IntKind.i64.wrap (s.2.1+(1:Int))),s.2.2.1,s.2.2.2.1,s.2.2.2.2.1,s.2.2.2.2.2.1,s.2.2.2.2.2.2.1,s.2.2.2.2.2.2.2.1,(List.set x58 (Int.toNat s.2.1) (y59.1,y59.2.1,y59.2.2.1,y59.2.2.2.1,y56,y59.2.2.2.2.2)),s.2.2.2.2.2.2.2.2.2)))
else
(some (Sum.inr (s.2.2)))
noncomputable def g8 (a0:Ltp):Option Ltp:=
let x1:=(a0.2.2.2.2.2.1.length:Int)
(cut a0.2.2.2.2.2.1 0 (if(10:Int)<x1 then(10:Int)else x1)).bind fun y3=>
let x4:=(a0.2.2.2.2.2.2.1.length:Int)
(cut a0.2.2.2.2.2.2.1 0 (if(10:Int)<x4 then(10:Int)else x4)).bind fun y6=>
let x7:=(a0.2.2.2.2.2.2.2.length:Int)
(cut a0.2.2.2.2.2.2.2 0 (if(20:Int)<x7 then(20:Int)else x7)).bind fun y9=>
(g20 (a0.1,a0.2.1,a0.2.2.1,a0.2.2.2.1,a0.2.2.2.2.1,y3,y6,y9)).bind fun y10=>
(eqI (y10.2.2.2.2.2.1.length:Int) (y10.2.2.2.2.2.1.length:Int)).bind fun y11=>
(lpU g8x0 ((y10.2.2.2.2.2.1.length:Int),(0:Int),y10.1,y10.2.1,y10.2.2.1,y10.2.2.2.1,y10.2.2.2.2.1,y10.2.2.2.2.2.1,y10.2.2.2.2.2.2.1,y10.2.2.2.2.2.2.2,(0:Int),(0:Int),(0:Int),(0:Int),(0:Int))).bind fun z43=>
(eqI (z43.2.2.2.2.2.2.1.length:Int) (z43.2.2.2.2.2.2.1.length:Int)).bind fun y44=>
(lpU g8x1 ((z43.2.2.2.2.2.2.1.length:Int),(0:Int),z43)).bind fun z62=>
some (z62.1,z62.2.1,z62.2.2.1,z62.2.2.2.1,z62.2.2.2.2.1,z62.2.2.2.2.2.1,z62.2.2.2.2.2.2.1,z62.2.2.2.2.2.2.2.1)
noncomputable def tf8:TF:=.par ⟨[.v YLtp],YLtp⟩ (fun x=>g8 x)
theorem o8:TOK (EF pg) 8 tf8:=tkp T8 rfl (tc o20 tn) (by kernel_rfl) (by kernel_rfl)
noncomputable def h78 (a0:Start):Bool:=
(if(if(if(if(if(if(if(if(decide (a0.1>=(1:Int)))then(decide (a0.1<=(6:Int)))else false)then(decide (a0.2.1>(0:Int)))else false)then(decide ((a0.2.2.1.length:Int)>=(1:Int)))else false)then(decide ((a0.2.2.1.length:Int)<=(512:Int)))else false)then(decide (a0.2.2.2.1>=(1:Int)))else false)then(decide (a0.2.2.2.1<=(4096:Int)))else false)then(decide (a0.2.2.2.2>=(1:Int)))else false)then(decide (a0.2.2.2.2<=(16:Int)))else false)
noncomputable def tf78:TF:=.tot ⟨[.v YStart],.b⟩ (fun x=>h78 x)
theorem o78:TOK (EF pg) 78 tf78:=tkt T78 rfl tn (by kernel_rfl) (by kernel_rfl)
noncomputable def g79x0 (s:Int×Int×(List Claim)×Int×Int):Option ((Int×Int×(List Claim)×Int×Int)⊕(Unit⊕Bool)):=
if(decide (s.2.2.2.2<s.2.2.2.1))then
((idx s.2.2.1 s.2.2.2.2).bind fun y3=>
if(if(if(if(if(decide (y3.2<(1:Int)))then true else(decide (y3.2>s.1)))then true else(decide (y3.1<=s.2.1)))then true else(decide (y3.1>s.1)))then true else(decide ((IntKind.i64.wrap (y3.1+y3.2))>s.1)))then
(some (Sum.inr (Sum.inr (false))))
else
(
some (Sum.inl (s.1,(IntKind.i64.wrap (y3.1+y3.2)),s.2.2.1,s.2.2.2.1,(IntKind.i64.wrap (s.2.2.2.2+(1:Int)))))))
else
(some (Sum.inr (Sum.inl ())))
noncomputable def g79 (a0:List Claim) (a1:Int):Option Bool:=
(lpU g79x0 (a1,(-1:Int),a0,(a0.length:Int),(0:Int))).bind fun z16=>
match z16 with
|Sum.inl z17=>(some true)
|Sum.inr z18=>(some z18)
noncomputable def tf79:TF:=.par ⟨[.v (.l .ro YClaim),.v (.i .i64)],.b⟩ (fun x=>g79 x.1 x.2)
theorem o79:TOK (EF pg) 79 tf79:=tkp T79 rfl tn (by kernel_rfl) (by kernel_rfl)
noncomputable def g81 (a0:Taking):Option Bool:=
let x2:=(a0.2.2.2.2.1.length:Int)==(1:Int)
(if x2 then idx a0.2.2.2.2.1 (0:Int)else some ((0:Int),(0:Int))).bind fun y3=>
let x5:=if x2 then(y3.1==(0:Int))else false
(if x5 then idx a0.2.2.2.2.1 (0:Int)else some ((0:Int),(0:Int))).bind fun y6=>
some (if x5 then(y6.2==a0.2.2.1)else false)
noncomputable def tf81:TF:=.par ⟨[.v YTaking],.b⟩ (fun x=>g81 x)
theorem o81:TOK (EF pg) 81 tf81:=tkp T81 rfl tn (by kernel_rfl) (by kernel_rfl)
noncomputable def g31x0 (s:Int×Int×Int×Int×(List Int)×(List Claim)×Int×Int×Int×Int):Option ((Int×Int×Int×Int×(List Int)×(List Claim)×Int×Int×Int×Int)⊕((Int×Int×Int×(List Int)×(List Claim)×Int×Int×Int×Int)⊕Bool)):=
if(decide (s.1<(s.2.2.2.2.2.1.length:Int)))then
((idx s.2.2.2.2.2.1 s.1).bind fun y23=>
let x33:=if(if(if(if(decide (y23.2<(1:Int)))then true else(decide (y23.2>(512:Int))))then true else(decide (y23.1<(0:Int))))then true else(decide (y23.1>(512:Int))))then true else(decide ((IntKind.i64.wrap (y23.1+y23.2))>s.2.2.2.1))
let x34:=decide (s.1>(0:Int))
(if((!x33)&&x34)then idx s.2.2.2.2.2.1 (IntKind.i64.wrap (s.1-(1:Int)))else some ((0:Int),(0:Int))).bind fun y36=>
(if((!x33)&&x34)then idx s.2.2.2.2.2.1 (IntKind.i64.wrap (s.1-(1:Int)))else some ((0:Int),(0:Int))).bind fun y38=>
if(if x33 then true else(if x34 then(decide (y23.1<=(IntKind.i64.wrap (y36.1+y38.2))))else false))then
(some (Sum.inr (Sum.inr (false))))
else
(
some (Sum.inl ((IntKind.i64.wrap (s.1+(1:Int))),s.2))))
else
(some (Sum.inr (Sum.inl (s.2))))
noncomputable def g31 (a0:Taking):Option Bool:=
if(if(if(if(if(if(if(if(if(if(decide (a0.1<(1:Int)))then true else(decide (a0.1>(6:Int))))then true else(a0.2.1==(0:Int)))then true else(decide (a0.2.2.1<(1:Int))))then true else(decide (a0.2.2.1>(512:Int))))then true else((a0.2.2.2.1.length:Int)!=a0.2.2.1))then true else(decide (a0.2.2.2.2.2.2.2.1<(1:Int))))then true else(decide (a0.2.2.2.2.2.2.2.1>(65536:Int))))then true else(decide (a0.2.2.2.2.2.2.2.2<(0:Int))))then true else(decide (a0.2.2.2.2.2.2.2.2>(1114112:Int))))then
(some false)
else
((lpU g31x0 ((0:Int),a0)).bind fun z44=>
match z44 with
|Sum.inl z45=>(let x47:=z45.2.2.2.2.2.2.1==(1:Int)
(if x47 then g81 z45 else some false).bind fun y48=>
let x50:=if x47 then(!y48)else false
let x51:=z45.2.2.2.2.2.2.1==(2:Int)
(if((!x50)&&x51)then g81 z45 else some false).bind fun y52=>
some (if(if x50 then true else(if x51 then y52 else false))then true else(z45.2.2.2.2.2.2.1==(4:Int))))
|Sum.inr z46=>(some z46))
noncomputable def tf31:TF:=.par ⟨[.v YTaking],.b⟩ (fun x=>g31 x)
theorem o31:TOK (EF pg) 31 tf31:=tkp T31 rfl (tc o81 tn) (by kernel_rfl) (by kernel_rfl)
noncomputable def h82 (a0:Int) (a1:Int) (a2:Int):Bool:=
(if(decide (a0>=a1))then(decide (a0<=a2))else false)
noncomputable def tf82:TF:=.tot ⟨[.v (.i .i64),.v (.i .i64),.v (.i .i64)],.b⟩ (fun x=>h82 x.1 x.2.1 x.2.2)
theorem o82:TOK (EF pg) 82 tf82:=tkt T82 rfl tn (by kernel_rfl) (by kernel_rfl)
noncomputable def h70 (a0:Start):Bool:=
(if(if(if(if(h82 a0.1 (1:Int) (6:Int))then(decide (a0.2.1>(0:Int)))else false)then(h82 (a0.2.2.1.length:Int) (1:Int) (512:Int))else false)then(h82 a0.2.2.2.1 (1:Int) (4096:Int))else false)then(h82 a0.2.2.2.2 (1:Int) (16:Int))else false)
noncomputable def tf70:TF:=.tot ⟨[.v YStart],.b⟩ (fun x=>h70 x)
theorem o70:TOK (EF pg) 70 tf70:=tkt T70 rfl (tc o82 tn) (by kernel_rfl) (by kernel_rfl)
noncomputable def g83x0 (s:Int×Int×(List Claim)×Int×Int):Option ((Int×Int×(List Claim)×Int×Int)⊕(Unit⊕Bool)):=
if(decide (s.2.2.2.2<s.2.2.2.1))then
((idx s.2.2.1 s.2.2.2.2).bind fun y3=>
if(if(if(if(decide (y3.2<(1:Int)))then true else(decide (y3.1<=s.2.1)))then true else(decide (y3.1>=s.1)))then true else(decide (y3.2>(IntKind.i64.wrap (s.1-y3.1)))))then
(some (Sum.inr (Sum.inr (false))))
else
(
some (Sum.inl (s.1,(IntKind.i64.wrap (y3.1+y3.2)),s.2.2.1,s.2.2.2.1,(IntKind.i64.wrap (s.2.2.2.2+(1:Int)))))))
else
(some (Sum.inr (Sum.inl ())))
noncomputable def g83 (a0:List Claim) (a1:Int):Option Bool:=
(lpU g83x0 (a1,(-1:Int),a0,(a0.length:Int),(0:Int))).bind fun z14=>
match z14 with
|Sum.inl z15=>(some true)
|Sum.inr z16=>(some z16)
noncomputable def tf83:TF:=.par ⟨[.v (.l .ro YClaim),.v (.i .i64)],.b⟩ (fun x=>g83 x.1 x.2)
theorem o83:TOK (EF pg) 83 tf83:=tkp T83 rfl tn (by kernel_rfl) (by kernel_rfl)
noncomputable def g85x0 (s:(List Int)×(List Int)×Int×Int):Option (((List Int)×(List Int)×Int×Int)⊕(Unit⊕Bool)):=
if(decide (s.2.2.2<s.2.2.1))then
((idx s.1 s.2.2.2).bind fun y6=>
(idx s.2.1 s.2.2.2).bind fun y7=>
if(y6 !=y7)then
(some (Sum.inr (Sum.inr (false))))
else
(
some (Sum.inl (s.1,s.2.1,s.2.2.1,(IntKind.i64.wrap (s.2.2.2+(1:Int)))))))
else
(some (Sum.inr (Sum.inl ())))
noncomputable def g85 (a0:List Int) (a1:List Int):Option Bool:=
if((a0.length:Int)!=(a1.length:Int))then
(some false)
else
(
(lpU g85x0 (a0,a1,(a0.length:Int),(0:Int))).bind fun z10=>
match z10 with
|Sum.inl z11=>(some true)
|Sum.inr z12=>(some z12))
noncomputable def tf85:TF:=.par ⟨[.v (.l .ro (.i .u8)),.v (.l .ro (.i .u8))],.b⟩ (fun x=>g85 x.1 x.2)
theorem o85:TOK (EF pg) 85 tf85:=tkp T85 rfl tn (by kernel_rfl) (by kernel_rfl)
noncomputable def h87 (a0:Int) (a1:Int) (a2:Int):Bool:=
(if(decide (a0>=a1))then(decide (a0<=a2))else false)
noncomputable def tf87:TF:=.tot ⟨[.v (.i .i64),.v (.i .i64),.v (.i .i64)],.b⟩ (fun x=>h87 x.1 x.2.1 x.2.2)
theorem o87:TOK (EF pg) 87 tf87:=tkt T87 rfl tn (by kernel_rfl) (by kernel_rfl)
noncomputable def g88 (a0:Taking):Option Bool:=
let x2:=(a0.2.2.2.2.1.length:Int)==(1:Int)
(if x2 then idx a0.2.2.2.2.1 (0:Int)else some ((0:Int),(0:Int))).bind fun y3=>
some (if x2 then((y3.1==(0:Int))&&((y3.2==a0.2.2.1)&&(true)))else false)
noncomputable def tf88:TF:=.par ⟨[.v YTaking],.b⟩ (fun x=>g88 x)
theorem o88:TOK (EF pg) 88 tf88:=tkp T88 rfl tn (by kernel_rfl) (by kernel_rfl)
noncomputable def g37x0 (s:Bool×Int×(List Claim)×Int×Int×Int×Int×Int×(List Int)×(List Claim)×Int×Int×Int×Int):Option ((Bool×Int×(List Claim)×Int×Int×Int×Int×Int×(List Int)×(List Claim)×Int×Int×Int×Int)⊕((Bool×Int×Int×Int×(List Int)×(List Claim)×Int×Int×Int×Int)⊕Int)):=
if(decide (s.2.2.2.2.1<s.2.2.2.1))then
((idx s.2.2.1 s.2.2.2.2.1).bind fun y11=>
let x20:=if(if(if(if s.1 then(decide (y11.2>(0:Int)))else false)then(decide (y11.1>s.2.1))else false)then(decide (y11.1<=s.2.2.2.2.2.2.2.1))else false)then(decide (y11.2<=(IntKind.i64.wrap (s.2.2.2.2.2.2.2.1-y11.1))))else false
if(!x20)then
(some (Sum.inr (Sum.inr ((250:Int)))))
else
(
some (Sum.inl (x20,(IntKind.i64.wrap (y11.1+y11.2)),s.2.2.1,s.2.2.2.1,(IntKind.i64.wrap (s.2.2.2.2.1+(1:Int))),s.2.2.2.2.2))))
else
(some (Sum.inr (Sum.inl (s.1,s.2.2.2.2.2))))
noncomputable def g37 (a0:Taking):Option Int:=
(lpU g37x0 ((if(if(if(h87 a0.1 (1:Int) (6:Int))then(decide (a0.2.1>(0:Int)))else false)then(h87 a0.2.2.1 (1:Int) (512:Int))else false)then((a0.2.2.2.1.length:Int)==a0.2.2.1)else false),(-1:Int),a0.2.2.2.2.1,(a0.2.2.2.2.1.length:Int),(0:Int),a0)).bind fun z24=>
match z24 with
|Sum.inl z25=>(let x27:=h87 z25.2.2.2.2.2.2.2.2.1 (1:Int) (65536:Int)
let x30:=if(if z25.1 then x27 else false)then(h87 z25.2.2.2.2.2.2.2.2.2 (0:Int) (1114112:Int))else false
if(z25.2.2.2.2.2.2.2.1==(1:Int))then
((if x30 then g88 z25.2 else some false).bind fun y32=>
if(!(if x30 then(!y32)else false))then
(some (250:Int))
else
(some (0:Int)))
else
(
if(z25.2.2.2.2.2.2.2.1==(2:Int))then
((if x30 then g88 z25.2 else some false).bind fun y37=>
if(!(if x30 then y37 else false))then
(some (250:Int))
else
(some (0:Int)))
else
(
if(z25.2.2.2.2.2.2.2.1==(4:Int))then
(
if(!x30)then
(some (250:Int))
else
(some (0:Int)))
else
(
if(!false)then
(some (250:Int))
else
(some (0:Int))))))
|Sum.inr z26=>(some z26)
noncomputable def tf37:TF:=.par ⟨[.v YTaking],(.i .i64)⟩ (fun x=>g37 x)
theorem o37:TOK (EF pg) 37 tf37:=tkp T37 rfl (tc o87 (tc o88 tn)) (by kernel_rfl) (by kernel_rfl)
noncomputable def g36 (a0:Taking) (a1:Ltp):Option Bool:=
(g37 a0).bind fun y1=>
some (if(if(if(y1 !=(0:Int))then true else(a0.2.2.2.2.2.2.1 !=(1:Int)))then true else(a0.2.2.2.2.2.2.2.1 !=a1.2.2.2.1))then true else(a0.1==a1.1))
noncomputable def tf36:TF:=.par ⟨[.v YTaking,.o (.p (.i .i64) (.p (.i .i64) (.p (.i .i64) (.p (.i .i64) (.p (.i .u32) (.p (.l .ro YOutward) (.p (.l .ro YTaking) (.l .ro YClosed))))))))],.b⟩ (fun x=>g36 x.1 x.2)
theorem o36:TOK (EF pg) 36 tf36:=tkp T36 rfl (tc o37 tn) (by kernel_rfl) (by kernel_rfl)
noncomputable def g89x0 (s:(List Outward)×(Outward->Option Bool)×Int×Int):Option (((List Outward)×(Outward->Option Bool)×Int×Int)⊕(Unit⊕Int)):=
if(decide (s.2.2.2<s.2.2.1))then
((idx s.1 s.2.2.2).bind fun y3=>
(s.2.1 y3).bind fun y4=>
if y4 then
(some (Sum.inr (Sum.inr (s.2.2.2))))
else
(
some (Sum.inl (s.1,s.2.1,s.2.2.1,(IntKind.i64.wrap (s.2.2.2+(1:Int)))))))
else
(some (Sum.inr (Sum.inl ())))
noncomputable def g89 (a0:List Outward) (a1:Outward->Option Bool):Option Int:=
(lpU g89x0 (a0,a1,(a0.length:Int),(0:Int))).bind fun z6=>
match z6 with
|Sum.inl z7=>(some (-1:Int))
|Sum.inr z8=>(some z8)
noncomputable def tf89:TF:=.par ⟨[.v (.l .ro YOutward),.v (.fn YOutward .b)],(.i .i64)⟩ (fun x=>g89 x.1 x.2)
theorem o89:TOK (EF pg) 89 tf89:=tkp T89 rfl tn (by kernel_rfl) (by kernel_rfl)
noncomputable def g40 (a0:List Outward) (a1:Outward->Option Bool):Option Bool:=
(g89 a0 a1).bind fun y1=>
some (decide (y1>=(0:Int)))
noncomputable def tf40:TF:=.par ⟨[.v (.l .ro YOutward),.v (.fn YOutward .b)],.b⟩ (fun x=>g40 x.1 x.2)
theorem o40:TOK (EF pg) 40 tf40:=tkp T40 rfl (tc o89 tn) (by kernel_rfl) (by kernel_rfl)
noncomputable def g90x0 (s:(List Taking)×(Taking->Option Bool)×Int×Int):Option (((List Taking)×(Taking->Option Bool)×Int×Int)⊕(Unit⊕Int)):=
if(decide (s.2.2.2<s.2.2.1))then
((idx s.1 s.2.2.2).bind fun y3=>
(s.2.1 y3).bind fun y4=>
if y4 then
(some (Sum.inr (Sum.inr (s.2.2.2))))
else
(
some (Sum.inl (s.1,s.2.1,s.2.2.1,(IntKind.i64.wrap (s.2.2.2+(1:Int)))))))
else
(some (Sum.inr (Sum.inl ())))
noncomputable def g90 (a0:List Taking) (a1:Taking->Option Bool):Option Int:=
(lpU g90x0 (a0,a1,(a0.length:Int),(0:Int))).bind fun z6=>
match z6 with
|Sum.inl z7=>(some (-1:Int))
|Sum.inr z8=>(some z8)
noncomputable def tf90:TF:=.par ⟨[.v (.l .ro YTaking),.v (.fn YTaking .b)],(.i .i64)⟩ (fun x=>g90 x.1 x.2)
theorem o90:TOK (EF pg) 90 tf90:=tkp T90 rfl tn (by kernel_rfl) (by kernel_rfl)
noncomputable def g41 (a0:List Taking) (a1:Taking->Option Bool):Option Bool:=
(g90 a0 a1).bind fun y1=>
some (decide (y1>=(0:Int)))
noncomputable def tf41:TF:=.par ⟨[.v (.l .ro YTaking),.v (.fn YTaking .b)],.b⟩ (fun x=>g41 x.1 x.2)
theorem o41:TOK (EF pg) 41 tf41:=tkp T41 rfl (tc o90 tn) (by kernel_rfl) (by kernel_rfl)
noncomputable def g91x0 (s:(List Closed)×(Closed->Option Bool)×Int×Int):Option (((List Closed)×(Closed->Option Bool)×Int×Int)⊕(Unit⊕Int)):=
if(decide (s.2.2.2<s.2.2.1))then
((idx s.1 s.2.2.2).bind fun y3=>
(s.2.1 y3).bind fun y4=>
if y4 then
(some (Sum.inr (Sum.inr (s.2.2.2))))
else
(
some (Sum.inl (s.1,s.2.1,s.2.2.1,(IntKind.i64.wrap (s.2.2.2+(1:Int)))))))
else
(some (Sum.inr (Sum.inl ())))
noncomputable def g91 (a0:List Closed) (a1:Closed->Option Bool):Option Int:=
(lpU g91x0 (a0,a1,(a0.length:Int),(0:Int))).bind fun z6=>
match z6 with
|Sum.inl z7=>(some (-1:Int))
|Sum.inr z8=>(some z8)
noncomputable def tf91:TF:=.par ⟨[.v (.l .ro YClosed),.v (.fn YClosed .b)],(.i .i64)⟩ (fun x=>g91 x.1 x.2)
theorem o91:TOK (EF pg) 91 tf91:=tkp T91 rfl tn (by kernel_rfl) (by kernel_rfl)
noncomputable def g42 (a0:List Closed) (a1:Closed->Option Bool):Option Bool:=
(g91 a0 a1).bind fun y1=>
some (decide (y1>=(0:Int)))
noncomputable def tf42:TF:=.par ⟨[.v (.l .ro YClosed),.v (.fn YClosed .b)],.b⟩ (fun x=>g42 x.1 x.2)
theorem o42:TOK (EF pg) 42 tf42:=tkp T42 rfl (tc o91 tn) (by kernel_rfl) (by kernel_rfl)
noncomputable def g94x0 (s:(List Int)×(List Int)×Int):Option (((List Int)×(List Int)×Int)⊕(Unit⊕Bool)):=
if(decide (s.2.2<(s.1.length:Int)))then
((idx s.1 s.2.2).bind fun y6=>
(idx s.2.1 s.2.2).bind fun y7=>
if(y6 !=y7)then
(some (Sum.inr (Sum.inr (false))))
else
(
some (Sum.inl (s.1,s.2.1,(IntKind.i64.wrap (s.2.2+(1:Int)))))))
else
(some (Sum.inr (Sum.inl ())))
noncomputable def g94 (a0:List Int) (a1:List Int):Option Bool:=
if((a0.length:Int)!=(a1.length:Int))then
(some false)
else
((lpU g94x0 (a0,a1,(0:Int))).bind fun z10=>
match z10 with
|Sum.inl z11=>(some true)
|Sum.inr z12=>(some z12))
noncomputable def tf94:TF:=.par ⟨[.v (.l .ro (.i .u8)),.v (.l .ro (.i .u8))],.b⟩ (fun x=>g94 x.1 x.2)
theorem o94:TOK (EF pg) 94 tf94:=tkp T94 rfl tn (by kernel_rfl) (by kernel_rfl)
noncomputable def g53x0 (s:Int×Int×Int×Int×(List Int)×(List Claim)×Int×Int×Int×Int×Int×Int×Int×(List Int)×(List Claim)×Int×Int×Int×Int):Option ((Int×Int×Int×Int×(List Int)×(List Claim)×Int×Int×Int×Int×Int×Int×Int×(List Int)×(List Claim)×Int×Int×Int×Int)⊕(Unit⊕Bool)):=
if(decide (s.1<(s.2.2.2.2.2.1.length:Int)))then
((idx s.2.2.2.2.2.1 s.1).bind fun y23=>
(idx s.2.2.2.2.2.2.2.2.2.2.2.2.2.2.1 s.1).bind fun y24=>
if(!((y23.1==y24.1)&&((y23.2==y24.2)&&(true))))then
(some (Sum.inr (Sum.inr (false))))
else
(
some (Sum.inl ((IntKind.i64.wrap (s.1+(1:Int))),s.2))))
else
(some (Sum.inr (Sum.inl ())))
noncomputable def g53 (a0:Taking) (a1:Taking):Option Bool:=
let x5:=if(if(a0.1 !=a1.1)then true else(a0.2.1 !=a1.2.1))then true else(a0.2.2.1 !=a1.2.2.1)
(if(!x5)then g94 a0.2.2.2.1 a1.2.2.2.1 else some false).bind fun y6=>
if(if(if(if(if(if(if x5 then true else(!y6))then true else((a0.2.2.2.2.1.length:Int)!=(a1.2.2.2.2.1.length:Int)))then true else(a0.2.2.2.2.2.1 !=a1.2.2.2.2.2.1))then true else(a0.2.2.2.2.2.2.1 !=a1.2.2.2.2.2.2.1))then true else(a0.2.2.2.2.2.2.2.1 !=a1.2.2.2.2.2.2.2.1))then true else(a0.2.2.2.2.2.2.2.2 !=a1.2.2.2.2.2.2.2.2))then
(some false)
else
((lpU g53x0 ((0:Int),a0.1,a0.2.1,a0.2.2.1,a0.2.2.2.1,a0.2.2.2.2.1,a0.2.2.2.2.2.1,a0.2.2.2.2.2.2.1,a0.2.2.2.2.2.2.2.1,a0.2.2.2.2.2.2.2.2,a1)).bind fun z27=>
match z27 with
|Sum.inl z28=>(some true)
|Sum.inr z29=>(some z29))
noncomputable def tf53:TF:=.par ⟨[.v YTaking,.v YTaking],.b⟩ (fun x=>g53 x.1 x.2)
theorem o53:TOK (EF pg) 53 tf53:=tkp T53 rfl (tc o94 tn) (by kernel_rfl) (by kernel_rfl)
noncomputable def g14x0 (s:Int×Int×Int×Int×Int×Int×Int×(List Outward)×(List Taking)×(List Closed)×Int×Int×Int×Int×Int×(List Outward)×(List Taking)×List Closed):Option ((Int×Int×Int×Int×Int×Int×Int×(List Outward)×(List Taking)×(List Closed)×Int×Int×Int×Int×Int×(List Outward)×(List Taking)×List Closed)⊕((Int×Int×Int×Int×Int×(List Outward)×(List Taking)×(List Closed)×Int×Int×Int×Int×Int×(List Outward)×(List Taking)×List Closed)⊕Bool)):=
if(decide (s.2.1<s.1))then
((idx s.2.2.2.2.2.2.2.1 s.2.1).bind fun y20=>
(idx s.2.2.2.2.2.2.2.2.2.2.2.2.2.2.2.1 s.2.1).bind fun y21=>
let x22:=y20.1 !=y21.1
(if(!x22)then idx s.2.2.2.2.2.2.2.1 s.2.1 else some ((0:Int),((0:Int),((0:Int),([],((0:Int),((0:Int),((0:Int),([],((0:Int),((0:Int),((0:Int),((0:Int),((0:Int),((0:Int),((0:Int),((0:Int),((0:Int),((0:Int),(false,([],([],((0:Int),((0:Int),([],(0:Int)))))))))))))))))))))))))).bind fun y23=>
(if(!x22)then idx s.2.2.2.2.2.2.2.2.2.2.2.2.2.2.2.1 s.2.1 else some ((0:Int),((0:Int),((0:Int),([],((0:Int),((0:Int),((0:Int),([],((0:Int),((0:Int),((0:Int),((0:Int),((0:Int),((0:Int),((0:Int),((0:Int),((0:Int),((0:Int),(false,([],([],((0:Int),((0:Int),([],(0:Int)))))))))))))))))))))))))).bind fun y24=>
(if(!x22)then g52 y23.2 y24.2 else some false).bind fun y25=>
if(if x22 then true else(!y25))then
(some (Sum.inr (Sum.inr (false))))
else
(
some (Sum.inl (s.1,(IntKind.i64.wrap (s.2.1+(1:Int))),s.2.2))))
else
(some (Sum.inr (Sum.inl (s.2.2))))
noncomputable def g14x1 (s:Int×Int×Int×Int×Int×Int×Int×(List Outward)×(List Taking)×(List Closed)×Int×Int×Int×Int×Int×(List Outward)×(List Taking)×List Closed):Option ((Int×Int×Int×Int×Int×Int×Int×(List Outward)×(List Taking)×(List Closed)×Int×Int×Int×Int×Int×(List Outward)×(List Taking)×List Closed)⊕((Int×Int×Int×Int×Int×(List Outward)×(List Taking)×(List Closed)×Int×Int×Int×Int×Int×(List Outward)×(List Taking)×List Closed)⊕Bool)):=
if(decide (s.2.1<s.1))then
((idx s.2.2.2.2.2.2.2.2.1 s.2.1).bind fun y34=>
(idx s.2.2.2.2.2.2.2.2.2.2.2.2.2.2.2.2.1 s.2.1).bind fun y35=>
(g53 y34 y35).bind fun y36=>
if(!y36)then
(some (Sum.inr (Sum.inr (false))))
else
(
some (Sum.inl (s.1,(IntKind.i64.wrap (s.2.1+(1:Int))),s.2.2))))
else
(some (Sum.inr (Sum.inl (s.2.2))))
noncomputable def g14x2 (s:Int×Int×Int×Int×Int×Int×Int×(List Outward)×(List Taking)×(List Closed)×Int×Int×Int×Int×Int×(List Outward)×(List Taking)×List Closed):Option ((Int×Int×Int×Int×Int×Int×Int×(List Outward)×(List Taking)×(List Closed)×Int×Int×Int×Int×Int×(List Outward)×(List Taking)×List Closed)⊕(Unit⊕Bool)):=
if(decide (s.2.1<s.1))then
((idx s.2.2.2.2.2.2.2.2.2.1 s.2.1).bind fun y44=>
(idx s.2.2.2.2.2.2.2.2.2.2.2.2.2.2.2.2.2 s.2.1).bind fun y45=>
if(!((y44.1==y45.1)&&((y44.2.1==y45.2.1)&&((y44.2.2.1==y45.2.2.1)&&((y44.2.2.2.1==y45.2.2.2.1)&&((y44.2.2.2.2==y45.2.2.2.2)&&(true)))))))then
(some (Sum.inr (Sum.inr (false))))
else
(
some (Sum.inl (s.1,(IntKind.i64.wrap (s.2.1+(1:Int))),s.2.2))))
else
(some (Sum.inr (Sum.inl ())))
noncomputable def g14 (a0:Ltp) (a1:Ltp):Option Bool:=
if(if(if(if(if(if(a0.1 !=a1.1)then true else(!((a0.2.1==a1.2.1)&&((a0.2.2.1==a1.2.2.1)&&((a0.2.2.2.1==a1.2.2.2.1)&&(true))))))then true else(a0.2.2.2.2.1 !=a1.2.2.2.2.1))then true else((a0.2.2.2.2.2.1.length:Int)!=(a1.2.2.2.2.2.1.length:Int)))then true else((a0.2.2.2.2.2.2.1.length:Int)!=(a1.2.2.2.2.2.2.1.length:Int)))then true else((a0.2.2.2.2.2.2.2.length:Int)!=(a1.2.2.2.2.2.2.2.length:Int)))then
(some false)
else
(
(lpU g14x0 ((a0.2.2.2.2.2.1.length:Int),(0:Int),a0.1,a0.2.1,a0.2.2.1,a0.2.2.2.1,a0.2.2.2.2.1,a0.2.2.2.2.2.1,a0.2.2.2.2.2.2.1,a0.2.2.2.2.2.2.2,a1)).bind fun z29=>
match z29 with
|Sum.inl z30=>(let x32:=(z30.2.2.2.2.2.2.1.length:Int)
(lpU g14x1 (x32,(0:Int),z30)).bind fun z39=>
match z39 with
|Sum.inl z40=>(let x42:=(z40.2.2.2.2.2.2.2.1.length:Int)
(lpU g14x2 (x42,(0:Int),z40)).bind fun z48=>
match z48 with
|Sum.inl z49=>(some true)
|Sum.inr z50=>(some z50))
|Sum.inr z41=>(some z41))
|Sum.inr z31=>(some z31))
noncomputable def tf14:TF:=.par ⟨[.v YLtp,.v YLtp],.b⟩ (fun x=>g14 x.1 x.2)
theorem o14:TOK (EF pg) 14 tf14:=tkp T14 rfl (tc o52 (tc o53 tn)) (by kernel_rfl) (by kernel_rfl)
noncomputable def h95 (a0:Sending):Rest:=
(a0.1,a0.2.2.2.1,a0.2.2.2.2.1,a0.2.2.2.2.2.1,a0.2.2.2.2.2.2.2.2.2.2.2.2.2.2.2.2.2.2.2.2.1,a0.2.2.2.2.2.2.2.2.2.2.2.2.2.2.2.2.2.2.2.2.2.1,a0.2.2.2.2.2.2.2.2.2.2.2.2.2.2.2.2.2.2.2.2.2.2.2,a0.2.1)
noncomputable def tf95:TF:=.tot ⟨[.v YSending],YRest⟩ (fun x=>h95 x)
theorem o95:TOK (EF pg) 95 tf95:=tkt T95 rfl tn (by kernel_rfl) (by kernel_rfl)
noncomputable def g96x0 (s:(List Claim)×(List Claim)×Int×Int):Option (((List Claim)×(List Claim)×Int×Int)⊕(Unit⊕Bool)):=
if(decide (s.2.2.2<s.2.2.1))then
((idx s.1 s.2.2.2).bind fun y6=>
(idx s.2.1 s.2.2.2).bind fun y7=>
if(!((y6.1==y7.1)&&((y6.2==y7.2)&&(true))))then
(some (Sum.inr (Sum.inr (false))))
else
(
some (Sum.inl (s.1,s.2.1,s.2.2.1,(IntKind.i64.wrap (s.2.2.2+(1:Int)))))))
else
(some (Sum.inr (Sum.inl ())))
noncomputable def g96 (a0:List Claim) (a1:List Claim):Option Bool:=
if((a0.length:Int)!=(a1.length:Int))then
(some false)
else
(
(lpU g96x0 (a0,a1,(a0.length:Int),(0:Int))).bind fun z10=>
match z10 with
|Sum.inl z11=>(some true)
|Sum.inr z12=>(some z12))
noncomputable def tf96:TF:=.par ⟨[.v (.l .ro YClaim),.v (.l .ro YClaim)],.b⟩ (fun x=>g96 x.1 x.2)
theorem o96:TOK (EF pg) 96 tf96:=tkp T96 rfl tn (by kernel_rfl) (by kernel_rfl)
noncomputable def g97x0 (s:(List Int)×(List Int)×Int×Int):Option (((List Int)×(List Int)×Int×Int)⊕(Unit⊕Bool)):=
if(decide (s.2.2.2<s.2.2.1))then
((idx s.1 s.2.2.2).bind fun y6=>
(idx s.2.1 s.2.2.2).bind fun y7=>
if(y6 !=y7)then
(some (Sum.inr (Sum.inr (false))))
else
(
some (Sum.inl (s.1,s.2.1,s.2.2.1,(IntKind.i64.wrap (s.2.2.2+(1:Int)))))))
else
(some (Sum.inr (Sum.inl ())))
noncomputable def g97 (a0:List Int) (a1:List Int):Option Bool:=
if((a0.length:Int)!=(a1.length:Int))then
(some false)
else
(
(lpU g97x0 (a0,a1,(a0.length:Int),(0:Int))).bind fun z10=>
match z10 with
|Sum.inl z11=>(some true)
|Sum.inr z12=>(some z12))
noncomputable def tf97:TF:=.par ⟨[.v (.l .ro (.i .u32)),.v (.l .ro (.i .u32))],.b⟩ (fun x=>g97 x.1 x.2)
theorem o97:TOK (EF pg) 97 tf97:=tkp T97 rfl tn (by kernel_rfl) (by kernel_rfl)
noncomputable def g99 (a0:List Int) (a1:List Int):Option Bool:=
(g85 a0 a1).bind fun y1=>
some y1
noncomputable def tf99:TF:=.par ⟨[.v (.l .ro (.i .u8)),.v (.l .ro (.i .u8))],.b⟩ (fun x=>g99 x.1 x.2)
theorem o99:TOK (EF pg) 99 tf99:=tkp T99 rfl (tc o85 tn) (by kernel_rfl) (by kernel_rfl)
noncomputable def g59 (a0:Taking) (a1:Taking):Option Bool:=
let x5:=if(if(a0.1==a1.1)then(a0.2.1==a1.2.1)else false)then(a0.2.2.1==a1.2.2.1)else false
(if x5 then g99 a0.2.2.2.1 a1.2.2.2.1 else some false).bind fun y6=>
let x7:=if x5 then y6 else false
(if x7 then g96 a0.2.2.2.2.1 a1.2.2.2.2.1 else some false).bind fun y8=>
some (if(if(if(if(if x7 then y8 else false)then(a0.2.2.2.2.2.1==a1.2.2.2.2.2.1)else false)then(a0.2.2.2.2.2.2.1==a1.2.2.2.2.2.2.1)else false)then(a0.2.2.2.2.2.2.2.1==a1.2.2.2.2.2.2.2.1)else false)then(a0.2.2.2.2.2.2.2.2==a1.2.2.2.2.2.2.2.2)else false)
noncomputable def tf59:TF:=.par ⟨[.v YTaking,.v YTaking],.b⟩ (fun x=>g59 x.1 x.2)
theorem o59:TOK (EF pg) 59 tf59:=tkp T59 rfl (tc o96 (tc o99 tn)) (by kernel_rfl) (by kernel_rfl)
noncomputable def g109 (a0:Segment):Option Segment:=
if(a0.1==(1:Int))then
(some (a0.1,a0.2.1,a0.2.2.1,a0.2.2.2.1,(0:Int),a0.2.2.2.2.2.1,a0.2.2.2.2.2.2.1,(0:Int),(0:Int),(0:Int),a0.2.2.2.2.2.2.2.2.2.2.1,a0.2.2.2.2.2.2.2.2.2.2.2.1,[]))
else
(
if(a0.1==(2:Int))then
(some (a0.1,a0.2.1,a0.2.2.1,a0.2.2.2.1,a0.2.2.2.2.1,(0:Int),(0:Int),a0.2.2.2.2.2.2.2.1,a0.2.2.2.2.2.2.2.2.1,(0:Int),false,[],a0.2.2.2.2.2.2.2.2.2.2.2.2))
else
(
if(a0.1==(3:Int))then
(some (a0.1,a0.2.1,a0.2.2.1,a0.2.2.2.1,(0:Int),(0:Int),(0:Int),(0:Int),(0:Int),(0:Int),false,[],[]))
else
(let x4:=a0.1==(4:Int)
if x4 then
(if x4 then
(some (a0.1,a0.2.1,a0.2.2.1,(0:Int),(0:Int),(0:Int),(0:Int),(0:Int),(0:Int),a0.2.2.2.2.2.2.2.2.2.1,false,[],[]))
else
(some (a0.1,a0.2.1,a0.2.2.1,(0:Int),(0:Int),(0:Int),(0:Int),(0:Int),(0:Int),(0:Int),false,[],[])))
else
(
if(a0.1==(6:Int))then
(some (a0.1,a0.2.1,a0.2.2.1,(0:Int),(0:Int),(0:Int),(0:Int),(0:Int),(0:Int),a0.2.2.2.2.2.2.2.2.2.1,false,[],[]))
else
(some (a0.1,a0.2.1,a0.2.2.1,(0:Int),(0:Int),(0:Int),(0:Int),(0:Int),(0:Int),(0:Int),false,[],[]))))))
noncomputable def tf109:TF:=.par ⟨[.v YSegment],YSegment⟩ (fun x=>g109 x)
theorem o109:TOK (EF pg) 109 tf109:=tkp T109 rfl tn (by kernel_rfl) (by kernel_rfl)
noncomputable def g110x0 (s:Int×Int×(List Claim)×Int×Int):Option ((Int×Int×(List Claim)×Int×Int)⊕(Unit⊕Bool)):=
if(decide (s.2.2.2.2<s.2.2.2.1))then
((idx s.2.2.1 s.2.2.2.2).bind fun y6=>
if(if(if(if(if(decide (y6.2<(1:Int)))then true else(decide (y6.1<=s.2.1)))then true else(decide (y6.2>(512:Int))))then true else(decide (y6.1>(512:Int))))then true else(decide ((IntKind.i64.wrap (y6.1+y6.2))>s.1)))then
(some (Sum.inr (Sum.inr (false))))
else
(
some (Sum.inl (s.1,(IntKind.i64.wrap (y6.1+y6.2)),s.2.2.1,s.2.2.2.1,(IntKind.i64.wrap (s.2.2.2.2+(1:Int)))))))
else
(some (Sum.inr (Sum.inl ())))
noncomputable def g110 (a0:List Claim) (a1:Int) (a2:Int):Option Bool:=
if(decide ((a0.length:Int)>(20:Int)))then
(some false)
else
(
(lpU g110x0 (a2,(IntKind.i64.wrap (a1-(1:Int))),a0,(a0.length:Int),(0:Int))).bind fun z19=>
match z19 with
|Sum.inl z20=>(some true)
|Sum.inr z21=>(some z21))
noncomputable def tf110:TF:=.par ⟨[.v (.l .ro YClaim),.v (.i .i64),.v (.i .i64)],.b⟩ (fun x=>g110 x.1 x.2.1 x.2.2)
theorem o110:TOK (EF pg) 110 tf110:=tkp T110 rfl tn (by kernel_rfl) (by kernel_rfl)
noncomputable def g80 (a0:Segment):Option Bool:=
let x5:=if(if(decide (a0.2.1<(1:Int)))then true else(decide (a0.2.1>(6:Int))))then true else(a0.2.2.1==(0:Int))
(if(!x5)then g109 a0 else some ((0:Int),((0:Int),((0:Int),((0:Int),((0:Int),((0:Int),((0:Int),((0:Int),((0:Int),((0:Int),(false,([],[]))))))))))))).bind fun y6=>
(if(!x5)then g54 a0 y6 else some false).bind fun y7=>
if(if x5 then true else(!y7))then
(some false)
else
(
if(a0.1==(1:Int))then
(let x11:=(a0.2.2.2.2.2.2.2.2.2.2.2.1.length:Int)
some (if(if(if(if(if(if(decide (a0.2.2.2.2.2.2.1>=(1:Int)))then(decide (a0.2.2.2.2.2.2.1<=(512:Int)))else false)then(decide (x11>=(1:Int)))else false)then(decide (x11<=(100:Int)))else false)then(decide (a0.2.2.2.2.2.1>=(0:Int)))else false)then(decide (a0.2.2.2.2.2.1<=(IntKind.i64.wrap (a0.2.2.2.2.2.2.1-x11))))else false)then((a0.2.2.2.2.2.2.2.2.2.2.1==(decide (a0.2.2.2.1>(0:Int))))!=false)else false))
else
(
if(a0.1==(2:Int))then
(
let x36:=if(if(if(if(decide (a0.2.2.2.1>(0:Int)))then(decide (a0.2.2.2.2.1>(0:Int)))else false)then(decide (a0.2.2.2.2.2.2.2.1>=(0:Int)))else false)then(decide (a0.2.2.2.2.2.2.2.1<a0.2.2.2.2.2.2.2.2.1))else false)then(decide (a0.2.2.2.2.2.2.2.2.1<=(512:Int)))else false
(if x36 then g110 a0.2.2.2.2.2.2.2.2.2.2.2.2 a0.2.2.2.2.2.2.2.1 a0.2.2.2.2.2.2.2.2.1 else some false).bind fun y37=>
some (if x36 then y37 else false))
else
(
if(a0.1==(3:Int))then
(
some (decide (a0.2.2.2.1>(0:Int))))
else
((let x41:=a0.1==(4:Int)
if x41 then
(some ((a0.1,x41,a0)))
else
(
some ((a0.1,(a0.1==(6:Int)),a0)))).bind fun z43=>
if z43.2.1 then
(
some (if(decide (z43.2.2.2.2.2.2.2.2.2.2.2.1>=(0:Int)))then(decide (z43.2.2.2.2.2.2.2.2.2.2.2.1<=(255:Int)))else false))
else
(let x47:=z43.1==(5:Int)
if x47 then
(if x47 then
(some true)
else
(some false))
else
(
if(z43.1==(7:Int))then
(some true)
else
(some false)))))))
noncomputable def tf80:TF:=.par ⟨[.v YSegment],.b⟩ (fun x=>g80 x)
theorem o80:TOK (EF pg) 80 tf80:=tkp T80 rfl (tc o54 (tc o109 (tc o110 tn))) (by kernel_rfl) (by kernel_rfl)
noncomputable def g30x0 (s:(List Int)×Int×Int×Int×Int×(List Int)×Int×Int×Int×(List Claim)×Int×Int×Int×Int×Int×Int×Int×Int×Int×Int×Bool×(List Int)×(List Claim)×Int×Int×(List Int)×Int):Option (((List Int)×Int×Int×Int×Int×(List Int)×Int×Int×Int×(List Claim)×Int×Int×Int×Int×Int×Int×Int×Int×Int×Int×Bool×(List Int)×(List Claim)×Int×Int×(List Int)×Int)⊕((Int×Int×(List Int)×Int×Int×Int×(List Claim)×Int×Int×Int×Int×Int×Int×Int×Int×Int×Int×Bool×(List Int)×(List Claim)×Int×Int×(List Int)×Int)⊕Bool)):=
if(decide (s.2.2.1<s.2.1))then
((idx s.1 s.2.2.1).bind fun y31=>
if(y31==(0:Int))then
(some (Sum.inr (Sum.inr (false))))
else
(
some (Sum.inl (s.1,s.2.1,(IntKind.i64.wrap (s.2.2.1+(1:Int))),s.2.2.2))))
else
(some (Sum.inr (Sum.inl (s.2.2.2))))
noncomputable def g30 (a0:Sending):Option Bool:=
let x6:=if(if(!(h78 (a0.1,a0.2.1,a0.2.2.1,a0.2.2.2.1,a0.2.2.2.2.1)))then true else(decide (a0.2.2.2.2.2.1<(1:Int))))then true else(decide (a0.2.2.2.2.2.1>(4:Int)))
(if(!x6)then g79 a0.2.2.2.2.2.2.1 (a0.2.2.1.length:Int)else some false).bind fun y8=>
if(if x6 then true else(!y8))then
(some false)
else
((g80 (a0.2.2.2.2.2.2.2.1,a0.2.2.2.2.2.2.2.2.1,a0.2.2.2.2.2.2.2.2.2.1,a0.2.2.2.2.2.2.2.2.2.2.1,a0.2.2.2.2.2.2.2.2.2.2.2.1,a0.2.2.2.2.2.2.2.2.2.2.2.2.1,a0.2.2.2.2.2.2.2.2.2.2.2.2.2.1,a0.2.2.2.2.2.2.2.2.2.2.2.2.2.2.1,a0.2.2.2.2.2.2.2.2.2.2.2.2.2.2.2.1,a0.2.2.2.2.2.2.2.2.2.2.2.2.2.2.2.2.1,a0.2.2.2.2.2.2.2.2.2.2.2.2.2.2.2.2.2.1,a0.2.2.2.2.2.2.2.2.2.2.2.2.2.2.2.2.2.2.1,a0.2.2.2.2.2.2.2.2.2.2.2.2.2.2.2.2.2.2.2.1)).bind fun y11=>
let x23:=if(if(if(if(if(!y11)then true else(a0.2.2.2.2.2.2.2.1 !=(1:Int)))then true else(!a0.2.2.2.2.2.2.2.2.2.2.2.2.2.2.2.2.2.1))then true else(a0.2.2.2.2.2.2.2.2.1 !=a0.1))then true else(a0.2.2.2.2.2.2.2.2.2.1 !=a0.2.1))then true else(a0.2.2.2.2.2.2.2.2.2.2.2.2.2.1 !=(a0.2.2.1.length:Int))
(if(!x23)then cut a0.2.2.1 a0.2.2.2.2.2.2.2.2.2.2.2.2.1 (IntKind.i64.wrap (a0.2.2.2.2.2.2.2.2.2.2.2.2.1+(a0.2.2.2.2.2.2.2.2.2.2.2.2.2.2.2.2.2.2.1.length:Int)))else some []).bind fun y26=>
if(if x23 then true else(!decide (a0.2.2.2.2.2.2.2.2.2.2.2.2.2.2.2.2.2.2.1=y26)))then
(some false)
else
(
(lpU g30x0 (a0.2.2.2.2.2.2.2.2.2.2.2.2.2.2.2.2.2.2.2.2.2.2.1,(a0.2.2.2.2.2.2.2.2.2.2.2.2.2.2.2.2.2.2.2.2.2.2.1.length:Int),(0:Int),a0)).bind fun z34=>
match z34 with
|Sum.inl z35=>(let x37:=decide (z35.2.2.2.2.2.2.2.2.2.2.2.2.2.2.2.2.2.2.2.2.1>=(0:Int))
some (if(if(if(if(if(if x37 then(decide (z35.2.2.2.2.2.2.2.2.2.2.2.2.2.2.2.2.2.2.2.2.1<=(1114112:Int)))else false)then(decide (z35.2.2.2.2.2.2.2.2.2.2.2.2.2.2.2.2.2.2.2.2.2.1>=(0:Int)))else false)then(decide (z35.2.2.2.2.2.2.2.2.2.2.2.2.2.2.2.2.2.2.2.2.2.1<=z35.2.2.2.2.1))else false)then(decide ((z35.2.2.2.2.2.2.2.2.2.2.2.2.2.2.2.2.2.2.2.2.2.2.1.length:Int)<=(32:Int)))else false)then(decide (z35.2.2.2.2.2.2.2.2.2.2.2.2.2.2.2.2.2.2.2.2.2.2.2>=(0:Int)))else false)then(decide (z35.2.2.2.2.2.2.2.2.2.2.2.2.2.2.2.2.2.2.2.2.2.2.2<=(255:Int)))else false))
|Sum.inr z36=>(some z36)))
noncomputable def tf30:TF:=.par ⟨[.v YSending],.b⟩ (fun x=>g30 x)
theorem o30:TOK (EF pg) 30 tf30:=tkp T30 rfl (tc o78 (tc o79 (tc o80 tn))) (by kernel_rfl) (by kernel_rfl)
noncomputable def g10x0 (s:(List Outward)×Int×Int×(List Outward)×Int×Int×Int×Int×Int×Int×Int×(List Outward)×(List Taking)×(List Closed)×Int×Int×(List Int)×Int×Int×Int×(List Claim)×Int×Int×Int×Int×Int×Int×Int×Int×Int×Int×Bool×(List Int)×(List Claim)×Int×Int×(List Int)×Int):Option (((List Outward)×Int×Int×(List Outward)×Int×Int×Int×Int×Int×Int×Int×(List Outward)×(List Taking)×(List Closed)×Int×Int×(List Int)×Int×Int×Int×(List Claim)×Int×Int×Int×Int×Int×Int×Int×Int×Int×Int×Bool×(List Int)×(List Claim)×Int×Int×(List Int)×Int)⊕(((List Outward)×Int×Int×Int×Int×Int×Int×Int×(List Outward)×(List Taking)×List Closed)⊕Bool)):=
if(decide (s.2.2.2.2.2.1<s.2.2.2.2.1))then
((idx s.2.2.2.1 s.2.2.2.2.2.1).bind fun y40=>
if(y40.2.2.1==s.2.2.2.2.2.2.2.2.2.2.2.2.2.2.2.1)then
(some (Sum.inr (Sum.inr (false))))
else
(
some (Sum.inl (s.1,s.2.1,s.2.2.1,s.2.2.2.1,s.2.2.2.2.1,(IntKind.i64.wrap (s.2.2.2.2.2.1+(1:Int))),s.2.2.2.2.2.2))))
else
(some (Sum.inr (Sum.inl (s.1,s.2.1,s.2.2.1,s.2.2.2.2.2.2.1,s.2.2.2.2.2.2.2.1,s.2.2.2.2.2.2.2.2.1,s.2.2.2.2.2.2.2.2.2.1,s.2.2.2.2.2.2.2.2.2.2.1,s.2.2.2.2.2.2.2.2.2.2.2.1,s.2.2.2.2.2.2.2.2.2.2.2.2.1,s.2.2.2.2.2.2.2.2.2.2.2.2.2.1))))
noncomputable def g10x1 (s:(List Outward)×Int×Int×Int×Int×Int×Int×Int×(List Outward)×(List Taking)×List Closed):Option (((List Outward)×Int×Int×Int×Int×Int×Int×Int×(List Outward)×(List Taking)×List Closed)⊕((Int×Int×Int×Int×Int×(List Outward)×(List Taking)×List Closed)⊕Bool)):=
if(decide (s.2.2.1<s.2.1))then
((idx s.1 s.2.2.1).bind fun y19=>
(g30 y19.2).bind fun y20=>
if(if(if(if(if(if(if(!y20)then true else(if(y19.2.2.2.2.2.2.1 !=(1:Int))then(y19.2.2.2.2.2.2.1 !=(3:Int))else false))then true else(y19.2.1 !=s.2.2.2.1))then true else(y19.2.2.2.2.1 !=s.2.2.2.2.1))then true else(y19.2.2.2.2.2.1 !=s.2.2.2.2.2.1))then true else(!(h28 y19.1)))then true else(y19.1==s.2.2.2.1))then
(some (Sum.inr (Sum.inr (false))))
else
((cut s.2.2.2.2.2.2.2.2.1 0 s.2.2.1).bind fun y37=>
(lpU g10x0 (s.1,s.2.1,s.2.2.1,y37,(y37.length:Int),(0:Int),s.2.2.2.1,s.2.2.2.2.1,s.2.2.2.2.2.1,s.2.2.2.2.2.2.1,s.2.2.2.2.2.2.2.1,s.2.2.2.2.2.2.2.2.1,s.2.2.2.2.2.2.2.2.2.1,s.2.2.2.2.2.2.2.2.2.2,y19.2)).bind fun z43=>
match z43 with
|Sum.inl z44=>(let x46:=IntKind.i64.wrap (z44.2.2.1+(1:Int))
some (Sum.inl (z44.1,z44.2.1,x46,z44.2.2.2)))
|Sum.inr z45=>(some (Sum.inr (Sum.inr (z45))))))
else
(some (Sum.inr (Sum.inl (s.2.2.2))))
noncomputable def g10x2 (s:(List Taking)×Int×Int×Int×Int×Int×Int×Int×(List Outward)×(List Taking)×List Closed):Option (((List Taking)×Int×Int×Int×Int×Int×Int×Int×(List Outward)×(List Taking)×List Closed)⊕((Int×Int×Int×Int×Int×(List Outward)×(List Taking)×List Closed)⊕Bool)):=
if(decide (s.2.2.1<s.2.1))then
((idx s.1 s.2.2.1).bind fun y52=>
(g31 y52).bind fun y53=>
if(if(if(if(!y53)then true else(y52.2.2.2.2.2.2.1 !=(1:Int)))then true else(y52.2.2.2.2.2.2.2.1 !=s.2.2.2.2.2.2.1))then true else(y52.1==s.2.2.2.1))then
(some (Sum.inr (Sum.inr (false))))
else
(
some (Sum.inl (s.1,s.2.1,(IntKind.i64.wrap (s.2.2.1+(1:Int))),s.2.2.2))))
else
(some (Sum.inr (Sum.inl (s.2.2.2))))
noncomputable def g10x3 (s:(List Closed)×Int×Int×Int×Int×Int×Int×Int×(List Outward)×(List Taking)×List Closed):Option (((List Closed)×Int×Int×Int×Int×Int×Int×Int×(List Outward)×(List Taking)×List Closed)⊕((Int×Int×Int×Int×Int×(List Outward)×(List Taking)×List Closed)⊕Bool)):=
if(decide (s.2.2.1<s.2.1))then
((idx s.1 s.2.2.1).bind fun y67=>
if(if(if(if(if(!(h28 y67.1))then true else(y67.1==s.2.2.2.1))then true else(y67.2.1==(0:Int)))then true else(decide (y67.2.2.1<(1:Int))))then true else(decide (y67.2.2.1>(512:Int))))then
(some (Sum.inr (Sum.inr (false))))
else
(
some (Sum.inl (s.1,s.2.1,(IntKind.i64.wrap (s.2.2.1+(1:Int))),s.2.2.2))))
else
(some (Sum.inr (Sum.inl (s.2.2.2))))
noncomputable def g10 (a0:Ltp):Option Bool:=
if(if(if(if(if(if(!(h28 a0.1))then true else(!(h29 (a0.2.1,a0.2.2.1,a0.2.2.2.1))))then true else(a0.2.2.2.2.1==(0:Int)))then true else(decide ((a0.2.2.2.2.2.1.length:Int)>(8:Int))))then true else(decide ((a0.2.2.2.2.2.2.1.length:Int)>(8:Int))))then true else(decide ((a0.2.2.2.2.2.2.2.length:Int)>(16:Int))))then
(some false)
else
(
(lpU g10x1 (a0.2.2.2.2.2.1,(a0.2.2.2.2.2.1.length:Int),(0:Int),a0)).bind fun z47=>
match z47 with
|Sum.inl z48=>(let x50:=(z48.2.2.2.2.2.2.1.length:Int)
(lpU g10x2 (z48.2.2.2.2.2.2.1,x50,(0:Int),z48)).bind fun z62=>
match z62 with
|Sum.inl z63=>(let x65:=(z63.2.2.2.2.2.2.2.length:Int)
(lpU g10x3 (z63.2.2.2.2.2.2.2,x65,(0:Int),z63)).bind fun z79=>
match z79 with
|Sum.inl z80=>((g32 z80).bind fun y82=>
some y82)
|Sum.inr z81=>(some z81))
|Sum.inr z64=>(some z64))
|Sum.inr z49=>(some z49))
noncomputable def tf10:TF:=.par ⟨[.v YLtp],.b⟩ (fun x=>g10 x)
theorem o10:TOK (EF pg) 10 tf10:=tkp T10 rfl (tc o28 (tc o29 (tc o30 (tc o31 (tc o32 tn))))) (by kernel_rfl) (by kernel_rfl)
noncomputable def h111 (a0:Int) (a1:Int) (a2:Int):Bool:=
(if(decide (a0>=a1))then(decide (a0<=a2))else false)
noncomputable def tf111:TF:=.tot ⟨[.v (.i .i64),.v (.i .i64),.v (.i .i64)],.b⟩ (fun x=>h111 x.1 x.2.1 x.2.2)
theorem o111:TOK (EF pg) 111 tf111:=tkt T111 rfl tn (by kernel_rfl) (by kernel_rfl)
noncomputable def g112x0 (s:(List Claim)×Int×Int×(List Claim)×Int×Int):Option (((List Claim)×Int×Int×(List Claim)×Int×Int)⊕((List Claim)⊕Bool)):=
if(decide (s.2.2.2.2.2<s.2.2.2.2.1))then
((idx s.2.2.2.1 s.2.2.2.2.2).bind fun y4=>
if(if(if(if(decide (y4.2<(1:Int)))then true else(decide (y4.1<=s.2.2.1)))then true else(decide (y4.1>=s.2.1)))then true else(decide (y4.2>(IntKind.i64.wrap (s.2.1-y4.1)))))then
(some (Sum.inr (Sum.inr (false))))
else
(
some (Sum.inl (s.1,s.2.1,(IntKind.i64.wrap (y4.1+y4.2)),s.2.2.2.1,s.2.2.2.2.1,(IntKind.i64.wrap (s.2.2.2.2.2+(1:Int)))))))
else
(some (Sum.inr (Sum.inl s.1)))
noncomputable def g112 (a0:List Claim) (a1:Int) (a2:Int):Option Bool:=
(lpU g112x0 (a0,a2,(IntKind.i64.wrap (a1-(1:Int))),a0,(a0.length:Int),(0:Int))).bind fun z15=>
match z15 with
|Sum.inl z16=>(let x18:=(z16.length:Int)
some (decide (x18<=(20:Int))))
|Sum.inr z17=>(some z17)
noncomputable def tf112:TF:=.par ⟨[.v (.l .ro YClaim),.v (.i .i64),.v (.i .i64)],.b⟩ (fun x=>g112 x.1 x.2.1 x.2.2)
theorem o112:TOK (EF pg) 112 tf112:=tkp T112 rfl tn (by kernel_rfl) (by kernel_rfl)
noncomputable def g113x0 (s:(List Int)×Int×Int×Int):Option (((List Int)×Int×Int×Int)⊕(Unit⊕Int)):=
if(decide (s.2.2.2<s.2.2.1))then
((idx s.1 s.2.2.2).bind fun y3=>
if(s.2.1==y3)then
(some (Sum.inr (Sum.inr (s.2.2.2))))
else
(
some (Sum.inl (s.1,s.2.1,s.2.2.1,(IntKind.i64.wrap (s.2.2.2+(1:Int)))))))
else
(some (Sum.inr (Sum.inl ())))
noncomputable def g113 (a0:List Int) (a1:Int):Option Int:=
(lpU g113x0 (a0,a1,(a0.length:Int),(0:Int))).bind fun z6=>
match z6 with
|Sum.inl z7=>(some (-1:Int))
|Sum.inr z8=>(some z8)
noncomputable def tf113:TF:=.par ⟨[.v (.l .ro (.i .u32)),.v (.i .u32)],(.i .i64)⟩ (fun x=>g113 x.1 x.2)
theorem o113:TOK (EF pg) 113 tf113:=tkp T113 rfl tn (by kernel_rfl) (by kernel_rfl)
noncomputable def g86 (a0:List Int) (a1:Int):Option Bool:=
(g113 a0 a1).bind fun y1=>
some (decide (y1>=(0:Int)))
noncomputable def tf86:TF:=.par ⟨[.v (.l .ro (.i .u32)),.v (.i .u32)],.b⟩ (fun x=>g86 x.1 x.2)
theorem o86:TOK (EF pg) 86 tf86:=tkp T86 rfl (tc o113 tn) (by kernel_rfl) (by kernel_rfl)
noncomputable def h114 (a0:Segment):Rest_:=
(a0.1,a0.2.1,a0.2.2.2.2.2.1,a0.2.2.2.2.2.2.1,a0.2.2.2.2.2.2.2.1,a0.2.2.2.2.2.2.2.2.1,a0.2.2.2.2.2.2.2.2.2.1,a0.2.2.1,a0.2.2.2.1,a0.2.2.2.2.1,a0.2.2.2.2.2.2.2.2.2.2.1)
noncomputable def tf114:TF:=.tot ⟨[.v YSegment],YRest_⟩ (fun x=>h114 x)
theorem o114:TOK (EF pg) 114 tf114:=tkt T114 rfl tn (by kernel_rfl) (by kernel_rfl)
noncomputable def g98 (a0:Segment) (a1:Segment):Option Bool:=
let x1:=h114 a0
let x2:=h114 a1
let x3:=(x1.1==x2.1)&&((x1.2.1==x2.2.1)&&((x1.2.2.1==x2.2.2.1)&&((x1.2.2.2.1==x2.2.2.2.1)&&((x1.2.2.2.2.1==x2.2.2.2.2.1)&&((x1.2.2.2.2.2.1==x2.2.2.2.2.2.1)&&((x1.2.2.2.2.2.2.1==x2.2.2.2.2.2.2.1)&&((x1.2.2.2.2.2.2.2.1==x2.2.2.2.2.2.2.2.1)&&((x1.2.2.2.2.2.2.2.2.1==x2.2.2.2.2.2.2.2.2.1)&&((x1.2.2.2.2.2.2.2.2.2.1==x2.2.2.2.2.2.2.2.2.2.1)&&((x1.2.2.2.2.2.2.2.2.2.2==x2.2.2.2.2.2.2.2.2.2.2)&&(true)))))))))))
(if x3 then g85 a0.2.2.2.2.2.2.2.2.2.2.2.1 a1.2.2.2.2.2.2.2.2.2.2.2.1 else some false).bind fun y4=>
let x5:=if x3 then y4 else false
(if x5 then g96 a0.2.2.2.2.2.2.2.2.2.2.2.2 a1.2.2.2.2.2.2.2.2.2.2.2.2 else some false).bind fun y6=>
some (if x5 then y6 else false)
noncomputable def tf98:TF:=.par ⟨[.v YSegment,.v YSegment],.b⟩ (fun x=>g98 x.1 x.2)
theorem o98:TOK (EF pg) 98 tf98:=tkp T98 rfl (tc o85 (tc o96 (tc o114 tn))) (by kernel_rfl) (by kernel_rfl)
noncomputable def g56 (a0:Sending) (a1:Sending):Option Bool:=
let x1:=h95 a0
let x2:=h95 a1
let x3:=(x1.1==x2.1)&&((x1.2.1==x2.2.1)&&((x1.2.2.1==x2.2.2.1)&&((x1.2.2.2.1==x2.2.2.2.1)&&((x1.2.2.2.2.1==x2.2.2.2.2.1)&&((x1.2.2.2.2.2.1==x2.2.2.2.2.2.1)&&((x1.2.2.2.2.2.2.1==x2.2.2.2.2.2.2.1)&&((x1.2.2.2.2.2.2.2==x2.2.2.2.2.2.2.2)&&(true))))))))
(if x3 then g85 a0.2.2.1 a1.2.2.1 else some false).bind fun y4=>
let x5:=if x3 then y4 else false
(if x5 then g96 a0.2.2.2.2.2.2.1 a1.2.2.2.2.2.2.1 else some false).bind fun y6=>
let x7:=if x5 then y6 else false
(if x7 then g97 a0.2.2.2.2.2.2.2.2.2.2.2.2.2.2.2.2.2.2.2.2.2.2.1 a1.2.2.2.2.2.2.2.2.2.2.2.2.2.2.2.2.2.2.2.2.2.2.1 else some false).bind fun y8=>
let x9:=if x7 then y8 else false
(if x9 then g98 (a0.2.2.2.2.2.2.2.1,a0.2.2.2.2.2.2.2.2.1,a0.2.2.2.2.2.2.2.2.2.1,a0.2.2.2.2.2.2.2.2.2.2.1,a0.2.2.2.2.2.2.2.2.2.2.2.1,a0.2.2.2.2.2.2.2.2.2.2.2.2.1,a0.2.2.2.2.2.2.2.2.2.2.2.2.2.1,a0.2.2.2.2.2.2.2.2.2.2.2.2.2.2.1,a0.2.2.2.2.2.2.2.2.2.2.2.2.2.2.2.1,a0.2.2.2.2.2.2.2.2.2.2.2.2.2.2.2.2.1,a0.2.2.2.2.2.2.2.2.2.2.2.2.2.2.2.2.2.1,a0.2.2.2.2.2.2.2.2.2.2.2.2.2.2.2.2.2.2.1,a0.2.2.2.2.2.2.2.2.2.2.2.2.2.2.2.2.2.2.2.1) (a1.2.2.2.2.2.2.2.1,a1.2.2.2.2.2.2.2.2.1,a1.2.2.2.2.2.2.2.2.2.1,a1.2.2.2.2.2.2.2.2.2.2.1,a1.2.2.2.2.2.2.2.2.2.2.2.1,a1.2.2.2.2.2.2.2.2.2.2.2.2.1,a1.2.2.2.2.2.2.2.2.2.2.2.2.2.1,a1.2.2.2.2.2.2.2.2.2.2.2.2.2.2.1,a1.2.2.2.2.2.2.2.2.2.2.2.2.2.2.2.1,a1.2.2.2.2.2.2.2.2.2.2.2.2.2.2.2.2.1,a1.2.2.2.2.2.2.2.2.2.2.2.2.2.2.2.2.2.1,a1.2.2.2.2.2.2.2.2.2.2.2.2.2.2.2.2.2.2.1,a1.2.2.2.2.2.2.2.2.2.2.2.2.2.2.2.2.2.2.2.1)else some false).bind fun y10=>
some (if x9 then y10 else false)
noncomputable def tf56:TF:=.par ⟨[.v YSending,.v YSending],.b⟩ (fun x=>g56 x.1 x.2)
theorem o56:TOK (EF pg) 56 tf56:=tkp T56 rfl (tc o85 (tc o95 (tc o96 (tc o97 (tc o98 tn))))) (by kernel_rfl) (by kernel_rfl)
noncomputable def g55 (a0:Outward) (a1:Outward):Option Bool:=
let x1:=a0.1==a1.1
(if x1 then g56 a0.2 a1.2 else some false).bind fun y2=>
some (if x1 then y2 else false)
noncomputable def tf55:TF:=.par ⟨[.v YOutward,.v YOutward],.b⟩ (fun x=>g55 x.1 x.2)
theorem o55:TOK (EF pg) 55 tf55:=tkp T55 rfl (tc o56 tn) (by kernel_rfl) (by kernel_rfl)
noncomputable def g19 (a0:Ltp) (a1:Ltp):Option Bool:=
let x5:=if(if(a0.1==a1.1)then((a0.2.1==a1.2.1)&&((a0.2.2.1==a1.2.2.1)&&((a0.2.2.2.1==a1.2.2.2.1)&&(true))))else false)then(a0.2.2.2.2.1==a1.2.2.2.2.1)else false
(if x5 then g57 a0.2.2.2.2.2.1 a1.2.2.2.2.2.1 (fun v6=>(g55 v6.1 v6.2).bind some)else some false).bind fun y7=>
let x8:=if x5 then y7 else false
(if x8 then g58 a0.2.2.2.2.2.2.1 a1.2.2.2.2.2.2.1 (fun v9=>(g59 v9.1 v9.2).bind some)else some false).bind fun y10=>
let x11:=if x8 then y10 else false
(if x11 then g60 a0.2.2.2.2.2.2.2 a1.2.2.2.2.2.2.2 else some false).bind fun y12=>
some (if x11 then y12 else false)
noncomputable def tf19:TF:=.par ⟨[.v YLtp,.v YLtp],.b⟩ (fun x=>g19 x.1 x.2)
theorem o19:TOK (EF pg) 19 tf19:=tkp T19 rfl (tc o55 (tc o57 (tc o58 (tc o59 (tc o60 tn))))) (by kernel_rfl) (by kernel_rfl)
noncomputable def g84 (a0:Segment):Option Int:=
let x3:=if(h111 a0.2.1 (1:Int) (6:Int))then(decide (a0.2.2.1>(0:Int)))else false
(
if(a0.1==(1:Int))then
(let x5:=(a0.2.2.2.2.2.2.2.2.2.2.2.1.length:Int)
some (((if(if(if(if x3 then(h111 a0.2.2.2.2.2.2.1 (1:Int) (512:Int))else false)then(h111 x5 (1:Int) (100:Int))else false)then(h111 a0.2.2.2.2.2.1 (0:Int) (IntKind.i64.wrap (a0.2.2.2.2.2.2.1-x5)))else false)then((a0.2.2.2.2.2.2.2.2.2.2.1==(decide (a0.2.2.2.1>(0:Int))))!=false)else false),a0.1,a0.2.1,a0.2.2.1,a0.2.2.2.1,a0.2.2.2.2.1,a0.2.2.2.2.2.1,a0.2.2.2.2.2.2.1,a0.2.2.2.2.2.2.2.1,a0.2.2.2.2.2.2.2.2.1,a0.2.2.2.2.2.2.2.2.2.1,a0.2.2.2.2.2.2.2.2.2.2.1,a0.2.2.2.2.2.2.2.2.2.2.2.1,a0.2.2.2.2.2.2.2.2.2.2.2.2,a0.1,a0.2.1,a0.2.2.1,a0.2.2.2.1,(0:Int),a0.2.2.2.2.2.1,a0.2.2.2.2.2.2.1,(0:Int),(0:Int),(0:Int),a0.2.2.2.2.2.2.2.2.2.2.1,a0.2.2.2.2.2.2.2.2.2.2.2.1,[])))
else
(
if(a0.1==(2:Int))then
(
let x25:=if(if(if(if x3 then(decide (a0.2.2.2.1>(0:Int)))else false)then(decide (a0.2.2.2.2.1>(0:Int)))else false)then(h111 a0.2.2.2.2.2.2.2.2.1 (1:Int) (512:Int))else false)then(h111 a0.2.2.2.2.2.2.2.1 (0:Int) (IntKind.i64.wrap (a0.2.2.2.2.2.2.2.2.1-(1:Int))))else false
(if x25 then g112 a0.2.2.2.2.2.2.2.2.2.2.2.2 a0.2.2.2.2.2.2.2.1 a0.2.2.2.2.2.2.2.2.1 else some false).bind fun y26=>
some (((if x25 then y26 else false),a0.1,a0.2.1,a0.2.2.1,a0.2.2.2.1,a0.2.2.2.2.1,a0.2.2.2.2.2.1,a0.2.2.2.2.2.2.1,a0.2.2.2.2.2.2.2.1,a0.2.2.2.2.2.2.2.2.1,a0.2.2.2.2.2.2.2.2.2.1,a0.2.2.2.2.2.2.2.2.2.2.1,a0.2.2.2.2.2.2.2.2.2.2.2.1,a0.2.2.2.2.2.2.2.2.2.2.2.2,a0.1,a0.2.1,a0.2.2.1,a0.2.2.2.1,a0.2.2.2.2.1,(0:Int),(0:Int),a0.2.2.2.2.2.2.2.1,a0.2.2.2.2.2.2.2.2.1,(0:Int),false,[],a0.2.2.2.2.2.2.2.2.2.2.2.2)))
else
(
if(a0.1==(3:Int))then
(
some (((if x3 then(decide (a0.2.2.2.1>(0:Int)))else false),a0.1,a0.2.1,a0.2.2.1,a0.2.2.2.1,a0.2.2.2.2.1,a0.2.2.2.2.2.1,a0.2.2.2.2.2.2.1,a0.2.2.2.2.2.2.2.1,a0.2.2.2.2.2.2.2.2.1,a0.2.2.2.2.2.2.2.2.2.1,a0.2.2.2.2.2.2.2.2.2.2.1,a0.2.2.2.2.2.2.2.2.2.2.2.1,a0.2.2.2.2.2.2.2.2.2.2.2.2,a0.1,a0.2.1,a0.2.2.1,a0.2.2.2.1,(0:Int),(0:Int),(0:Int),(0:Int),(0:Int),(0:Int),false,[],[])))
else
((let x31:=a0.1==(4:Int)
if x31 then
(some ((x3,a0.1,x31,a0.1,a0.2.1,a0.2.2.1,a0.2.2.2.1,a0.2.2.2.2.1,a0.2.2.2.2.2.1,a0.2.2.2.2.2.2.1,a0.2.2.2.2.2.2.2.1,a0.2.2.2.2.2.2.2.2.1,a0.2.2.2.2.2.2.2.2.2.1,a0.2.2.2.2.2.2.2.2.2.2.1,a0.2.2.2.2.2.2.2.2.2.2.2.1,a0.2.2.2.2.2.2.2.2.2.2.2.2,a0.1,a0.2.1,a0.2.2.1,(0:Int),(0:Int),(0:Int),(0:Int),(0:Int),(0:Int),(0:Int),false)))
else
(
some ((x3,a0.1,(a0.1==(6:Int)),a0.1,a0.2.1,a0.2.2.1,a0.2.2.2.1,a0.2.2.2.2.1,a0.2.2.2.2.2.1,a0.2.2.2.2.2.2.1,a0.2.2.2.2.2.2.2.1,a0.2.2.2.2.2.2.2.2.1,a0.2.2.2.2.2.2.2.2.2.1,a0.2.2.2.2.2.2.2.2.2.2.1,a0.2.2.2.2.2.2.2.2.2.2.2.1,a0.2.2.2.2.2.2.2.2.2.2.2.2,a0.1,a0.2.1,a0.2.2.1,(0:Int),(0:Int),(0:Int),(0:Int),(0:Int),(0:Int),(0:Int),false)))).bind fun z33=>
if z33.2.2.1 then
(
some (((if z33.1 then(h111 z33.2.2.2.2.2.2.2.2.2.2.2.2.1 (0:Int) (255:Int))else false),z33.2.2.2.1,z33.2.2.2.2.1,z33.2.2.2.2.2.1,z33.2.2.2.2.2.2.1,z33.2.2.2.2.2.2.2.1,z33.2.2.2.2.2.2.2.2.1,z33.2.2.2.2.2.2.2.2.2.1,z33.2.2.2.2.2.2.2.2.2.2.1,z33.2.2.2.2.2.2.2.2.2.2.2.1,z33.2.2.2.2.2.2.2.2.2.2.2.2.1,z33.2.2.2.2.2.2.2.2.2.2.2.2.2.1,z33.2.2.2.2.2.2.2.2.2.2.2.2.2.2.1,z33.2.2.2.2.2.2.2.2.2.2.2.2.2.2.2.1,z33.2.2.2.2.2.2.2.2.2.2.2.2.2.2.2.2.1,z33.2.2.2.2.2.2.2.2.2.2.2.2.2.2.2.2.2.1,z33.2.2.2.2.2.2.2.2.2.2.2.2.2.2.2.2.2.2.1,z33.2.2.2.2.2.2.2.2.2.2.2.2.2.2.2.2.2.2.2.1,z33.2.2.2.2.2.2.2.2.2.2.2.2.2.2.2.2.2.2.2.2.1,z33.2.2.2.2.2.2.2.2.2.2.2.2.2.2.2.2.2.2.2.2.2.1,z33.2.2.2.2.2.2.2.2.2.2.2.2.2.2.2.2.2.2.2.2.2.2.1,z33.2.2.2.2.2.2.2.2.2.2.2.2.2.2.2.2.2.2.2.2.2.2.2.1,z33.2.2.2.2.2.2.2.2.2.2.2.2.2.2.2.2.2.2.2.2.2.2.2.2.1,z33.2.2.2.2.2.2.2.2.2.2.2.2.1,z33.2.2.2.2.2.2.2.2.2.2.2.2.2.2.2.2.2.2.2.2.2.2.2.2.2.2,[],[])))
else
(let x36:=z33.2.1==(5:Int)
if x36 then
(if x36 then
(some ((z33.1,z33.2.2.2.1,z33.2.2.2.2.1,z33.2.2.2.2.2.1,z33.2.2.2.2.2.2.1,z33.2.2.2.2.2.2.2.1,z33.2.2.2.2.2.2.2.2.1,z33.2.2.2.2.2.2.2.2.2.1,z33.2.2.2.2.2.2.2.2.2.2.1,z33.2.2.2.2.2.2.2.2.2.2.2.1,z33.2.2.2.2.2.2.2.2.2.2.2.2.1,z33.2.2.2.2.2.2.2.2.2.2.2.2.2.1,z33.2.2.2.2.2.2.2.2.2.2.2.2.2.2.1,z33.2.2.2.2.2.2.2.2.2.2.2.2.2.2.2.1,z33.2.2.2.2.2.2.2.2.2.2.2.2.2.2.2.2.1,z33.2.2.2.2.2.2.2.2.2.2.2.2.2.2.2.2.2.1,z33.2.2.2.2.2.2.2.2.2.2.2.2.2.2.2.2.2.2.1,z33.2.2.2.2.2.2.2.2.2.2.2.2.2.2.2.2.2.2.2.1,z33.2.2.2.2.2.2.2.2.2.2.2.2.2.2.2.2.2.2.2.2.1,z33.2.2.2.2.2.2.2.2.2.2.2.2.2.2.2.2.2.2.2.2.2.1,z33.2.2.2.2.2.2.2.2.2.2.2.2.2.2.2.2.2.2.2.2.2.2.1,z33.2.2.2.2.2.2.2.2.2.2.2.2.2.2.2.2.2.2.2.2.2.2.2.1,z33.2.2.2.2.2.2.2.2.2.2.2.2.2.2.2.2.2.2.2.2.2.2.2.2.1,z33.2.2.2.2.2.2.2.2.2.2.2.2.2.2.2.2.2.2.2.2.2.2.2.2.2.1,z33.2.2.2.2.2.2.2.2.2.2.2.2.2.2.2.2.2.2.2.2.2.2.2.2.2.2,[],[])))
else
(some ((false,z33.2.2.2.1,z33.2.2.2.2.1,z33.2.2.2.2.2.1,z33.2.2.2.2.2.2.1,z33.2.2.2.2.2.2.2.1,z33.2.2.2.2.2.2.2.2.1,z33.2.2.2.2.2.2.2.2.2.1,z33.2.2.2.2.2.2.2.2.2.2.1,z33.2.2.2.2.2.2.2.2.2.2.2.1,z33.2.2.2.2.2.2.2.2.2.2.2.2.1,z33.2.2.2.2.2.2.2.2.2.2.2.2.2.1,z33.2.2.2.2.2.2.2.2.2.2.2.2.2.2.1,z33.2.2.2.2.2.2.2.2.2.2.2.2.2.2.2.1,z33.2.2.2.2.2.2.2.2.2.2.2.2.2.2.2.2.1,z33.2.2.2.2.2.2.2.2.2.2.2.2.2.2.2.2.2.1,z33.2.2.2.2.2.2.2.2.2.2.2.2.2.2.2.2.2.2.1,z33.2.2.2.2.2.2.2.2.2.2.2.2.2.2.2.2.2.2.2.1,z33.2.2.2.2.2.2.2.2.2.2.2.2.2.2.2.2.2.2.2.2.1,z33.2.2.2.2.2.2.2.2.2.2.2.2.2.2.2.2.2.2.2.2.2.1,z33.2.2.2.2.2.2.2.2.2.2.2.2.2.2.2.2.2.2.2.2.2.2.1,z33.2.2.2.2.2.2.2.2.2.2.2.2.2.2.2.2.2.2.2.2.2.2.2.1,z33.2.2.2.2.2.2.2.2.2.2.2.2.2.2.2.2.2.2.2.2.2.2.2.2.1,z33.2.2.2.2.2.2.2.2.2.2.2.2.2.2.2.2.2.2.2.2.2.2.2.2.2.1,z33.2.2.2.2.2.2.2.2.2.2.2.2.2.2.2.2.2.2.2.2.2.2.2.2.2.2,[],[]))))
else
(
if(z33.2.1==(7:Int))then
(some ((z33.1,z33.2.2.2.1,z33.2.2.2.2.1,z33.2.2.2.2.2.1,z33.2.2.2.2.2.2.1,z33.2.2.2.2.2.2.2.1,z33.2.2.2.2.2.2.2.2.1,z33.2.2.2.2.2.2.2.2.2.1,z33.2.2.2.2.2.2.2.2.2.2.1,z33.2.2.2.2.2.2.2.2.2.2.2.1,z33.2.2.2.2.2.2.2.2.2.2.2.2.1,z33.2.2.2.2.2.2.2.2.2.2.2.2.2.1,z33.2.2.2.2.2.2.2.2.2.2.2.2.2.2.1,z33.2.2.2.2.2.2.2.2.2.2.2.2.2.2.2.1,z33.2.2.2.2.2.2.2.2.2.2.2.2.2.2.2.2.1,z33.2.2.2.2.2.2.2.2.2.2.2.2.2.2.2.2.2.1,z33.2.2.2.2.2.2.2.2.2.2.2.2.2.2.2.2.2.2.1,z33.2.2.2.2.2.2.2.2.2.2.2.2.2.2.2.2.2.2.2.1,z33.2.2.2.2.2.2.2.2.2.2.2.2.2.2.2.2.2.2.2.2.1,z33.2.2.2.2.2.2.2.2.2.2.2.2.2.2.2.2.2.2.2.2.2.1,z33.2.2.2.2.2.2.2.2.2.2.2.2.2.2.2.2.2.2.2.2.2.2.1,z33.2.2.2.2.2.2.2.2.2.2.2.2.2.2.2.2.2.2.2.2.2.2.2.1,z33.2.2.2.2.2.2.2.2.2.2.2.2.2.2.2.2.2.2.2.2.2.2.2.2.1,z33.2.2.2.2.2.2.2.2.2.2.2.2.2.2.2.2.2.2.2.2.2.2.2.2.2.1,z33.2.2.2.2.2.2.2.2.2.2.2.2.2.2.2.2.2.2.2.2.2.2.2.2.2.2,[],[])))
else
(some ((false,z33.2.2.2.1,z33.2.2.2.2.1,z33.2.2.2.2.2.1,z33.2.2.2.2.2.2.1,z33.2.2.2.2.2.2.2.1,z33.2.2.2.2.2.2.2.2.1,z33.2.2.2.2.2.2.2.2.2.1,z33.2.2.2.2.2.2.2.2.2.2.1,z33.2.2.2.2.2.2.2.2.2.2.2.1,z33.2.2.2.2.2.2.2.2.2.2.2.2.1,z33.2.2.2.2.2.2.2.2.2.2.2.2.2.1,z33.2.2.2.2.2.2.2.2.2.2.2.2.2.2.1,z33.2.2.2.2.2.2.2.2.2.2.2.2.2.2.2.1,z33.2.2.2.2.2.2.2.2.2.2.2.2.2.2.2.2.1,z33.2.2.2.2.2.2.2.2.2.2.2.2.2.2.2.2.2.1,z33.2.2.2.2.2.2.2.2.2.2.2.2.2.2.2.2.2.2.1,z33.2.2.2.2.2.2.2.2.2.2.2.2.2.2.2.2.2.2.2.1,z33.2.2.2.2.2.2.2.2.2.2.2.2.2.2.2.2.2.2.2.2.1,z33.2.2.2.2.2.2.2.2.2.2.2.2.2.2.2.2.2.2.2.2.2.1,z33.2.2.2.2.2.2.2.2.2.2.2.2.2.2.2.2.2.2.2.2.2.2.1,z33.2.2.2.2.2.2.2.2.2.2.2.2.2.2.2.2.2.2.2.2.2.2.2.1,z33.2.2.2.2.2.2.2.2.2.2.2.2.2.2.2.2.2.2.2.2.2.2.2.2.1,z33.2.2.2.2.2.2.2.2.2.2.2.2.2.2.2.2.2.2.2.2.2.2.2.2.2.1,z33.2.2.2.2.2.2.2.2.2.2.2.2.2.2.2.2.2.2.2.2.2.2.2.2.2.2,[],[]))))))))).bind fun z38=>
let x39:= !z38.1
(if(!x39)then g98 (z38.2.1,z38.2.2.1,z38.2.2.2.1,z38.2.2.2.2.1,z38.2.2.2.2.2.1,z38.2.2.2.2.2.2.1,z38.2.2.2.2.2.2.2.1,z38.2.2.2.2.2.2.2.2.1,z38.2.2.2.2.2.2.2.2.2.1,z38.2.2.2.2.2.2.2.2.2.2.1,z38.2.2.2.2.2.2.2.2.2.2.2.1,z38.2.2.2.2.2.2.2.2.2.2.2.2.1,z38.2.2.2.2.2.2.2.2.2.2.2.2.2.1) z38.2.2.2.2.2.2.2.2.2.2.2.2.2.2 else some false).bind fun y40=>
if(if x39 then true else(!y40))then
(some (200:Int))
else
(some (0:Int))
noncomputable def tf84:TF:=.par ⟨[.v YSegment],(.i .i64)⟩ (fun x=>g84 x)
theorem o84:TOK (EF pg) 84 tf84:=tkp T84 rfl (tc o98 (tc o111 (tc o112 tn))) (by kernel_rfl) (by kernel_rfl)
noncomputable def g35 (a0:Sending):Option Int:=
let x1:=(a0.2.2.1.length:Int)
(
let x3:= !(h70 (a0.1,a0.2.1,a0.2.2.1,a0.2.2.2.1,a0.2.2.2.2.1))
if x3 then
(some ((x1,x3,a0.1,a0.2.1,a0.2.2.1,a0.2.2.2.1,a0.2.2.2.2.1,a0.2.2.2.2.2.1,a0.2.2.2.2.2.2.1,a0.2.2.2.2.2.2.2.1,a0.2.2.2.2.2.2.2.2.1,a0.2.2.2.2.2.2.2.2.2.1,a0.2.2.2.2.2.2.2.2.2.2.1,a0.2.2.2.2.2.2.2.2.2.2.2.1,a0.2.2.2.2.2.2.2.2.2.2.2.2.1,a0.2.2.2.2.2.2.2.2.2.2.2.2.2.1,a0.2.2.2.2.2.2.2.2.2.2.2.2.2.2.1,a0.2.2.2.2.2.2.2.2.2.2.2.2.2.2.2.1,a0.2.2.2.2.2.2.2.2.2.2.2.2.2.2.2.2.1,a0.2.2.2.2.2.2.2.2.2.2.2.2.2.2.2.2.2.1,a0.2.2.2.2.2.2.2.2.2.2.2.2.2.2.2.2.2.2.1,a0.2.2.2.2.2.2.2.2.2.2.2.2.2.2.2.2.2.2.2.1,a0.2.2.2.2.2.2.2.2.2.2.2.2.2.2.2.2.2.2.2.2.1,a0.2.2.2.2.2.2.2.2.2.2.2.2.2.2.2.2.2.2.2.2.2.1,a0.2.2.2.2.2.2.2.2.2.2.2.2.2.2.2.2.2.2.2.2.2.2.1,a0.2.2.2.2.2.2.2.2.2.2.2.2.2.2.2.2.2.2.2.2.2.2.2,a0.2.2.2.2.2.2.2.1,a0.2.2.2.2.2.2.2.2.1,a0.2.2.2.2.2.2.2.2.2.1,a0.2.2.2.2.2.2.2.2.2.2.1,a0.2.2.2.2.2.2.2.2.2.2.2.1,a0.2.2.2.2.2.2.2.2.2.2.2.2.1,a0.2.2.2.2.2.2.2.2.2.2.2.2.2.1,a0.2.2.2.2.2.2.2.2.2.2.2.2.2.2.1,a0.2.2.2.2.2.2.2.2.2.2.2.2.2.2.2.1,a0.2.2.2.2.2.2.2.2.2.2.2.2.2.2.2.2.1,a0.2.2.2.2.2.2.2.2.2.2.2.2.2.2.2.2.2.1,a0.2.2.2.2.2.2.2.2.2.2.2.2.2.2.2.2.2.2.1,a0.2.2.2.2.2.2.2.2.2.2.2.2.2.2.2.2.2.2.2.1)))
else
(
let x5:= !(h82 a0.2.2.2.2.2.1 (1:Int) (4:Int))
if x5 then
(some ((x1,x5,a0.1,a0.2.1,a0.2.2.1,a0.2.2.2.1,a0.2.2.2.2.1,a0.2.2.2.2.2.1,a0.2.2.2.2.2.2.1,a0.2.2.2.2.2.2.2.1,a0.2.2.2.2.2.2.2.2.1,a0.2.2.2.2.2.2.2.2.2.1,a0.2.2.2.2.2.2.2.2.2.2.1,a0.2.2.2.2.2.2.2.2.2.2.2.1,a0.2.2.2.2.2.2.2.2.2.2.2.2.1,a0.2.2.2.2.2.2.2.2.2.2.2.2.2.1,a0.2.2.2.2.2.2.2.2.2.2.2.2.2.2.1,a0.2.2.2.2.2.2.2.2.2.2.2.2.2.2.2.1,a0.2.2.2.2.2.2.2.2.2.2.2.2.2.2.2.2.1,a0.2.2.2.2.2.2.2.2.2.2.2.2.2.2.2.2.2.1,a0.2.2.2.2.2.2.2.2.2.2.2.2.2.2.2.2.2.2.1,a0.2.2.2.2.2.2.2.2.2.2.2.2.2.2.2.2.2.2.2.1,a0.2.2.2.2.2.2.2.2.2.2.2.2.2.2.2.2.2.2.2.2.1,a0.2.2.2.2.2.2.2.2.2.2.2.2.2.2.2.2.2.2.2.2.2.1,a0.2.2.2.2.2.2.2.2.2.2.2.2.2.2.2.2.2.2.2.2.2.2.1,a0.2.2.2.2.2.2.2.2.2.2.2.2.2.2.2.2.2.2.2.2.2.2.2,a0.2.2.2.2.2.2.2.1,a0.2.2.2.2.2.2.2.2.1,a0.2.2.2.2.2.2.2.2.2.1,a0.2.2.2.2.2.2.2.2.2.2.1,a0.2.2.2.2.2.2.2.2.2.2.2.1,a0.2.2.2.2.2.2.2.2.2.2.2.2.1,a0.2.2.2.2.2.2.2.2.2.2.2.2.2.1,a0.2.2.2.2.2.2.2.2.2.2.2.2.2.2.1,a0.2.2.2.2.2.2.2.2.2.2.2.2.2.2.2.1,a0.2.2.2.2.2.2.2.2.2.2.2.2.2.2.2.2.1,a0.2.2.2.2.2.2.2.2.2.2.2.2.2.2.2.2.2.1,a0.2.2.2.2.2.2.2.2.2.2.2.2.2.2.2.2.2.2.1,a0.2.2.2.2.2.2.2.2.2.2.2.2.2.2.2.2.2.2.2.1)))
else
((g83 a0.2.2.2.2.2.2.1 x1).bind fun y6=>
some ((x1,(!y6),a0.1,a0.2.1,a0.2.2.1,a0.2.2.2.1,a0.2.2.2.2.1,a0.2.2.2.2.2.1,a0.2.2.2.2.2.2.1,a0.2.2.2.2.2.2.2.1,a0.2.2.2.2.2.2.2.2.1,a0.2.2.2.2.2.2.2.2.2.1,a0.2.2.2.2.2.2.2.2.2.2.1,a0.2.2.2.2.2.2.2.2.2.2.2.1,a0.2.2.2.2.2.2.2.2.2.2.2.2.1,a0.2.2.2.2.2.2.2.2.2.2.2.2.2.1,a0.2.2.2.2.2.2.2.2.2.2.2.2.2.2.1,a0.2.2.2.2.2.2.2.2.2.2.2.2.2.2.2.1,a0.2.2.2.2.2.2.2.2.2.2.2.2.2.2.2.2.1,a0.2.2.2.2.2.2.2.2.2.2.2.2.2.2.2.2.2.1,a0.2.2.2.2.2.2.2.2.2.2.2.2.2.2.2.2.2.2.1,a0.2.2.2.2.2.2.2.2.2.2.2.2.2.2.2.2.2.2.2.1,a0.2.2.2.2.2.2.2.2.2.2.2.2.2.2.2.2.2.2.2.2.1,a0.2.2.2.2.2.2.2.2.2.2.2.2.2.2.2.2.2.2.2.2.2.1,a0.2.2.2.2.2.2.2.2.2.2.2.2.2.2.2.2.2.2.2.2.2.2.1,a0.2.2.2.2.2.2.2.2.2.2.2.2.2.2.2.2.2.2.2.2.2.2.2,a0.2.2.2.2.2.2.2.1,a0.2.2.2.2.2.2.2.2.1,a0.2.2.2.2.2.2.2.2.2.1,a0.2.2.2.2.2.2.2.2.2.2.1,a0.2.2.2.2.2.2.2.2.2.2.2.1,a0.2.2.2.2.2.2.2.2.2.2.2.2.1,a0.2.2.2.2.2.2.2.2.2.2.2.2.2.1,a0.2.2.2.2.2.2.2.2.2.2.2.2.2.2.1,a0.2.2.2.2.2.2.2.2.2.2.2.2.2.2.2.1,a0.2.2.2.2.2.2.2.2.2.2.2.2.2.2.2.2.1,a0.2.2.2.2.2.2.2.2.2.2.2.2.2.2.2.2.2.1,a0.2.2.2.2.2.2.2.2.2.2.2.2.2.2.2.2.2.2.1,a0.2.2.2.2.2.2.2.2.2.2.2.2.2.2.2.2.2.2.2.1))))).bind fun z8=>
if z8.2.1 then
(some (240:Int))
else
(((g84 z8.2.2.2.2.2.2.2.2.2.2.2.2.2.2.2.2.2.2.2.2.2.2.2.2.2.2).bind fun y9=>
let x10:=y9 !=(0:Int)
if x10 then
(some ((x10,z8.2.2)))
else
(let x11:=z8.2.2.2.2.2.2.2.2.2.2.2.2.2.2.2.2.2.2.2.2.2.2.2.2.2.2.1 !=(1:Int)
if x11 then
(some ((x11,z8.2.2)))
else
(let x12:= !z8.2.2.2.2.2.2.2.2.2.2.2.2.2.2.2.2.2.2.2.2.2.2.2.2.2.2.2.2.2.2.2.2.2.2.2.2.1
if x12 then
(some ((x12,z8.2.2)))
else
(let x13:=z8.2.2.2.2.2.2.2.2.2.2.2.2.2.2.2.2.2.2.2.2.2.2.2.2.2.2.2.1 !=z8.2.2.1
if x13 then
(some ((x13,z8.2.2)))
else
(let x14:=z8.2.2.2.2.2.2.2.2.2.2.2.2.2.2.2.2.2.2.2.2.2.2.2.2.2.2.2.2.1 !=z8.2.2.2.1
if x14 then
(some ((x14,z8.2.2)))
else
(
some (((z8.2.2.2.2.2.2.2.2.2.2.2.2.2.2.2.2.2.2.2.2.2.2.2.2.2.2.2.2.2.2.2.2.1 !=z8.1),z8.2.2)))))))).bind fun z16=>
if z16.1 then
(some (240:Int))
else
((cut z16.2.2.2.1 z16.2.2.2.2.2.2.2.2.2.2.2.2.2.2.2.2.2.2.2.2.2.2.2.2.2.2.2.2.2.2.1 (z16.2.2.2.1.length:Int)).bind fun y17=>
(cut y17 0 (z16.2.2.2.2.2.2.2.2.2.2.2.2.2.2.2.2.2.2.2.2.2.2.2.2.2.2.2.2.2.2.2.2.2.2.2.2.1.length:Int)).bind fun y19=>
(g85 z16.2.2.2.2.2.2.2.2.2.2.2.2.2.2.2.2.2.2.2.2.2.2.2.2.2.2.2.2.2.2.2.2.2.2.2.2.1 y19).bind fun y20=>
if(!y20)then
(some (240:Int))
else
(
let x23:= !(h82 z16.2.2.2.2.2.2.2.2.2.2.2.2.2.2.2.2.2.2.2.2.2.1 (0:Int) (1114112:Int))
if x23 then
(if x23 then
(some (240:Int))
else
(some (0:Int)))
else
(
let x25:= !(h82 z16.2.2.2.2.2.2.2.2.2.2.2.2.2.2.2.2.2.2.2.2.2.2.1 (0:Int) z16.2.2.2.2.2.1)
if x25 then
(if x25 then
(some (240:Int))
else
(some (0:Int)))
else
(
let x27:=decide ((z16.2.2.2.2.2.2.2.2.2.2.2.2.2.2.2.2.2.2.2.2.2.2.2.1.length:Int)>(32:Int))
if x27 then
(if x27 then
(some (240:Int))
else
(some (0:Int)))
else
((g86 z16.2.2.2.2.2.2.2.2.2.2.2.2.2.2.2.2.2.2.2.2.2.2.2.1 (0:Int)).bind fun y28=>
if y28 then
(if y28 then
(some (240:Int))
else
(some (0:Int)))
else
(
if(!(h82 z16.2.2.2.2.2.2.2.2.2.2.2.2.2.2.2.2.2.2.2.2.2.2.2.2.1 (0:Int) (255:Int)))then
(some (240:Int))
else
(some (0:Int)))))))))
noncomputable def tf35:TF:=.par ⟨[.v YSending],(.i .i64)⟩ (fun x=>g35 x)
theorem o35:TOK (EF pg) 35 tf35:=tkp T35 rfl (tc o70 (tc o82 (tc o83 (tc o84 (tc o85 (tc o86 tn)))))) (by kernel_rfl) (by kernel_rfl)
end Go.Proofs.Ytfopbiiffiickaa.Ev.U
