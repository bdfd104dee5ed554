/- Layer 15's plain laws, with the numbers of layer 16. Conditions: none. -/
import Derived.Test.YtfopbiiffiickaaGu16
import Derived.Test.YtfopbiiffiickaaUp
set_option linter.all false
namespace Go.Proofs.Ytfopbiiffiickaa.Ev.U
open Go
theorem wnext' {i:Nat} (h:i<1000000000000000):IntKind.i64.wrap ((i:Int)+1)=((i+1:Nat):Int):=by rw[wi64 (by omega)];omega
theorem l85 (x y:List Int) (hl:x.length=y.length) (hb:x.length<10000000000000):∀k i,i+k=x.length->lpU g85x0 (x,y,(x.length:Int),(i:Int))=some (if x.drop i=y.drop i then .inl ()else .inr false)
 |0,i,hi=>by
  have hd:decide ((i:Int)<(x.length:Int))=false:=decide_eq_false (by omega)
  rw[lp_end (x:=.inl ()) (by simp only[g85x0,hd,Bool.false_eq_true,if_false])]
  rw[List.drop_of_length_le (by omega),List.drop_of_length_le (by omega),if_pos rfl]
 |k+1,i,hi=>by
  have hd:decide ((i:Int)<(x.length:Int))=true:=decide_eq_true (by omega)
  have h1:i<x.length:=by omega
  have hs:=eq_step hl h1
  by_cases e:x[i]=y[i]'(by omega)
  ·rw[lp_next (s':=(x,y,(x.length:Int),((i+1:Nat):Int))) (by
    simp[h1,g85x0,hd,idx_some' h1,idx_some' (show i<y.length by omega),e,wnext' (show i<1000000000000000 by omega)]),l85 x y hl hb k (i+1) (by omega)]
   congr 1
   simp only[hs,e,true_and]
  ·rw[lp_end (x:=.inr false) (by simp[h1,g85x0,hd,idx_some' h1,idx_some' (show i<y.length by omega),e])]
   rw[if_neg fun h=>e (hs.1 h).1]
theorem w85 (x y:List Int) (hb:x.length<10000000000000):g85 x y=some (decide (x=y)):=by
 unfold g85
 cases h:((x.length:Int)!=(y.length:Int))with
 |true=>rw[if_pos rfl,decide_eq_false (len_ne h)]
 |false=>
  have hl:=len_eq h
  rw[if_neg (by simp),show((0:Int))=((0:Nat):Int)from rfl,l85 x y hl hb x.length 0 (by omega)]
  by_cases e:x=y
  ·subst e;simp
  ·simp[e]
theorem l96 (x y:List Claim) (hl:x.length=y.length) (hb:x.length<10000000000000):∀k i,i+k=x.length->lpU g96x0 (x,y,(x.length:Int),(i:Int))=some (if x.drop i=y.drop i then .inl ()else .inr false)
 |0,i,hi=>by
  have hd:decide ((i:Int)<(x.length:Int))=false:=decide_eq_false (by omega)
  rw[lp_end (x:=.inl ()) (by simp only[g96x0,hd,Bool.false_eq_true,if_false])]
  rw[List.drop_of_length_le (by omega),List.drop_of_length_le (by omega),if_pos rfl]
 |k+1,i,hi=>by
  have hd:decide ((i:Int)<(x.length:Int))=true:=decide_eq_true (by omega)
  have h1:i<x.length:=by omega
  have hs:=eq_step hl h1
  have hc:((x[i].1==(y[i]'(by omega)).1)&&((x[i].2==(y[i]'(by omega)).2)&&true))=decide (x[i]=y[i]'(by omega)):=by
   rw[Bool.eq_iff_iff];simp[Prod.ext_iff]
  by_cases e:x[i]=y[i]'(by omega)
  ·rw[lp_next (s':=(x,y,(x.length:Int),((i+1:Nat):Int))) (by
    simp only[g96x0,hd,if_true,idx_some' h1,idx_some' (show i<y.length by omega),Option.bind_some,hc,decide_eq_true e,Bool.not_true,Bool.false_eq_true,if_false,wnext' (show i<1000000000000000 by omega)]),l96 x y hl hb k (i+1) (by omega)]
   congr 1
   simp only[hs,e,true_and]
  ·rw[lp_end (x:=.inr false) (by simp only[g96x0,hd,if_true,idx_some' h1,idx_some' (show i<y.length by omega),Option.bind_some,hc,decide_eq_false e,Bool.not_false])]
   rw[if_neg fun h=>e (hs.1 h).1]
theorem w96 (x y:List Claim) (hb:x.length<10000000000000):g96 x y=some (decide (x=y)):=by
 unfold g96
 cases h:((x.length:Int)!=(y.length:Int))with
 |true=>rw[if_pos rfl,decide_eq_false (len_ne h)]
 |false=>
  have hl:=len_eq h
  rw[if_neg (by simp),show((0:Int))=((0:Nat):Int)from rfl,l96 x y hl hb x.length 0 (by omega)]
  by_cases e:x=y
  ·subst e;simp
  ·simp[e]
theorem l97 (x y:List Int) (hl:x.length=y.length) (hb:x.length<10000000000000):∀k i,i+k=x.length->lpU g97x0 (x,y,(x.length:Int),(i:Int))=some (if x.drop i=y.drop i then .inl ()else .inr false)
 |0,i,hi=>by
  have hd:decide ((i:Int)<(x.length:Int))=false:=decide_eq_false (by omega)
  rw[lp_end (x:=.inl ()) (by simp only[g97x0,hd,Bool.false_eq_true,if_false])]
  rw[List.drop_of_length_le (by omega),List.drop_of_length_le (by omega),if_pos rfl]
 |k+1,i,hi=>by
  have hd:decide ((i:Int)<(x.length:Int))=true:=decide_eq_true (by omega)
  have h1:i<x.length:=by omega
  have hs:=eq_step hl h1
  by_cases e:x[i]=y[i]'(by omega)
  ·rw[lp_next (s':=(x,y,(x.length:Int),((i+1:Nat):Int))) (by
    simp[h1,g97x0,hd,idx_some' h1,idx_some' (show i<y.length by omega),e,wnext' (show i<1000000000000000 by omega)]),l97 x y hl hb k (i+1) (by omega)]
   congr 1
   simp only[hs,e,true_and]
  ·rw[lp_end (x:=.inr false) (by simp[h1,g97x0,hd,idx_some' h1,idx_some' (show i<y.length by omega),e])]
   rw[if_neg fun h=>e (hs.1 h).1]
theorem w97 (x y:List Int) (hb:x.length<10000000000000):g97 x y=some (decide (x=y)):=by
 unfold g97
 cases h:((x.length:Int)!=(y.length:Int))with
 |true=>rw[if_pos rfl,decide_eq_false (len_ne h)]
 |false=>
  have hl:=len_eq h
  rw[if_neg (by simp),show((0:Int))=((0:Nat):Int)from rfl,l97 x y hl hb x.length 0 (by omega)]
  by_cases e:x=y
  ·subst e;simp
  ·simp[e]
def sameS (x y:Segment):Bool:=x.1==y.1&&x.2.1==y.2.1&&x.2.2.1==y.2.2.1&&x.2.2.2.1==y.2.2.2.1&&x.2.2.2.2.1==y.2.2.2.2.1&&x.2.2.2.2.2.1==y.2.2.2.2.2.1&&x.2.2.2.2.2.2.1==y.2.2.2.2.2.2.1&&x.2.2.2.2.2.2.2.1==y.2.2.2.2.2.2.2.1&&x.2.2.2.2.2.2.2.2.1==y.2.2.2.2.2.2.2.2.1&&x.2.2.2.2.2.2.2.2.2.1==y.2.2.2.2.2.2.2.2.2.1&&x.2.2.2.2.2.2.2.2.2.2.1==y.2.2.2.2.2.2.2.2.2.2.1&&decide (x.2.2.2.2.2.2.2.2.2.2.2.1=y.2.2.2.2.2.2.2.2.2.2.2.1)&&decide (x.2.2.2.2.2.2.2.2.2.2.2.2=y.2.2.2.2.2.2.2.2.2.2.2.2)
theorem sameS_iff (x y:Segment):sameS x y=true↔x=y:=by
 obtain⟨x1,x2,x3,x4,x5,x6,x7,x8,x9,x10,x11,x12,x13⟩:=x
 obtain⟨y1,y2,y3,y4,y5,y6,y7,y8,y9,y10,y11,y12,y13⟩:=y
 simp[sameS,Prod.ext_iff,and_assoc]
theorem sameS_self (x:Segment):sameS x x=true:=(sameS_iff x x).2 rfl
structure SmS (x:Segment):Prop where
 d:x.2.2.2.2.2.2.2.2.2.2.2.1.length<1000000
 c:x.2.2.2.2.2.2.2.2.2.2.2.2.length<8796093022000
theorem w98 (x y:Segment) (h:SmS x):g98 x y=some (sameS x y):=by
 have hd:=h.d
 have hc:=h.c
 obtain⟨x1,x2,x3,x4,x5,x6,x7,x8,x9,x10,x11,x12,x13⟩:=x
 obtain⟨y1,y2,y3,y4,y5,y6,y7,y8,y9,y10,y11,y12,y13⟩:=y
 simp only at hd hc
 have e:((x1==y1)&&((x2==y2)&&((x6==y6)&&((x7==y7)&&((x8==y8)&&((x9==y9)&&((x10==y10)&&((x3==y3)&&((x4==y4)&&((x5==y5)&&((x11==y11)&&true)))))))))))=(x1==y1&&x2==y2&&x3==y3&&x4==y4&&x5==y5&&x6==y6&&x7==y7&&x8==y8&&x9==y9&&x10==y10&&x11==y11):=by
  simp only[Bool.and_true,Bool.true_and,Bool.and_assoc,Bool.and_comm,Bool.and_left_comm]
 simp only[g98,h114,e,w85 x12 y12 (by omega),w96 x13 y13 (by omega),sameS]
 generalize(x1==y1&&x2==y2&&x3==y3&&x4==y4&&x5==y5&&x6==y6&&x7==y7&&x8==y8&&x9==y9&&x10==y10&&x11==y11)=c,decide (x12=y12)=c1,decide (x13=y13)=c2
 cases c<;>cases c1<;>cases c2<;>rfl
structure SmG (a:Sending):Prop where
 b:a.2.2.1.length<1000000
 g:a.2.2.2.2.2.2.1.length<1000000
 s:a.2.2.2.2.2.2.2.2.2.2.2.2.2.2.2.2.2.2.2.2.2.2.1.length<1000000
 d:a.2.2.2.2.2.2.2.2.2.2.2.2.2.2.2.2.2.2.1.length<1000000
 c:a.2.2.2.2.2.2.2.2.2.2.2.2.2.2.2.2.2.2.2.1.length<8796093022000
theorem cut_take {α:Type} (xs:List α) (n:Int) (hn:0<=n):cut xs 0 (if n<(xs.length:Int)then n else(xs.length:Int))=some (xs.take n.toNat):=by
 unfold cut
 split
 ·rename_i h
  rw[if_pos ⟨by omega,by omega,by omega⟩]
  rfl
 ·rename_i h
  rw[if_pos ⟨by omega,by omega,by omega⟩]
  rw[List.take_of_length_le (by omega),List.take_of_length_le (by omega)]
  rfl
theorem l54 (x1 x2 x3 x4 x5 x6 x7 x8 x9 x10:Int) (x11:Bool) (x12:List Int) (x13:List Claim) (y1 y2 y3 y4 y5 y6 y7 y8 y9 y10:Int) (y11:Bool) (y12:List Int) (y13:List Claim) (hl:x13.length=y13.length) (hb:x13.length<10000000000000):∀(k i:Nat),i+k=x13.length->
  lpU g54x0 ((x13.length:Int),(i:Int),x1,x2,x3,x4,x5,x6,x7,x8,x9,x10,x11,x12,x13,y1,y2,y3,y4,y5,y6,y7,y8,y9,y10,y11,y12,y13)=some (if x13.drop i=y13.drop i then .inl (x1,x2,x3,x4,x5,x6,x7,x8,x9,x10,x11,x12,x13,y1,y2,y3,y4,y5,y6,y7,y8,y9,y10,y11,y12,y13)else .inr false)
 |0,i,hi=>by
  have hd:decide ((i:Int)<(x13.length:Int))=false:=decide_eq_false (by omega)
  rw[lp_end (x:=.inl (x1,x2,x3,x4,x5,x6,x7,x8,x9,x10,x11,x12,x13,y1,y2,y3,y4,y5,y6,y7,y8,y9,y10,y11,y12,y13)) (by simp only[g54x0,hd,Bool.false_eq_true,if_false])]
  rw[List.drop_of_length_le (by omega),List.drop_of_length_le (by omega),if_pos rfl]
 |k+1,i,hi=>by
  have hd:decide ((i:Int)<(x13.length:Int))=true:=decide_eq_true (by omega)
  have h1:i<x13.length:=by omega
  have hs:=eq_step hl h1
  have hc:((x13[i].1==(y13[i]'(by omega)).1)&&((x13[i].2==(y13[i]'(by omega)).2)&&true))=decide (x13[i]=y13[i]'(by omega)):=by
   rw[Bool.eq_iff_iff];simp[Prod.ext_iff]
  by_cases e:x13[i]=y13[i]'(by omega)
  ·rw[lp_next (s':=((x13.length:Int),((i+1:Nat):Int),x1,x2,x3,x4,x5,x6,x7,x8,x9,x10,x11,x12,x13,y1,y2,y3,y4,y5,y6,y7,y8,y9,y10,y11,y12,y13)) (by
    simp only[g54x0,hd,if_true,idx_some' h1,idx_some' (show i<y13.length by omega),Option.bind_some,hc,decide_eq_true e,Bool.not_true,Bool.false_eq_true,if_false,wnext' (show i<1000000000000000 by omega)]),l54 x1 x2 x3 x4 x5 x6 x7 x8 x9 x10 x11 x12 x13 y1 y2 y3 y4 y5 y6 y7 y8 y9 y10 y11 y12 y13 hl hb k (i+1) (by omega)]
   congr 1
   simp only[hs,e,true_and]
  ·rw[lp_end (x:=.inr false) (by simp only[g54x0,hd,if_true,idx_some' h1,idx_some' (show i<y13.length by omega),Option.bind_some,hc,decide_eq_false e,Bool.not_false])]
   rw[if_neg fun h=>e (hs.1 h).1]
theorem w54 (x y:Segment) (h:SmS x):g54 x y=some (sameS x y):=by
 have hd:=h.d
 have hc:=h.c
 obtain⟨x1,x2,x3,x4,x5,x6,x7,x8,x9,x10,x11,x12,x13⟩:=x
 obtain⟨y1,y2,y3,y4,y5,y6,y7,y8,y9,y10,y11,y12,y13⟩:=y
 simp only at hd hc
 simp only[g54,sameS]
 by_cases hl:x13.length=y13.length
 ·have:=l54 x1 x2 x3 x4 x5 x6 x7 x8 x9 x10 x11 x12 x13 y1 y2 y3 y4 y5 y6 y7 y8 y9 y10 y11 y12 y13 hl (by omega) x13.length 0 (by omega)
  rw[show((0:Nat):Int)=0 from rfl]at this
  have hn:((x13.length:Int)!=(y13.length:Int))=false:=by simp[hl]
  rw[this,hn]
  simp only[List.drop_zero]
  by_cases h13:x13=y13
  ·rw[if_pos h13,decide_eq_true h13]
   have e11:((x11==y11)!=false)=(x11==y11):=by cases(x11==y11)<;>rfl
   simp only[e11,Bool.false_eq_true,if_false,Option.bind_some,Bool.and_true]
   generalize(x1==y1)=c1,(x2==y2)=c2,(x3==y3)=c3,(x4==y4)=c4,(x5==y5)=c5,(x6==y6)=c6,(x7==y7)=c7,(x8==y8)=c8,(x9==y9)=c9,(x10==y10)=c10,(x11==y11)=c11,decide (x12=y12)=c12
   cases c1<;>try rfl
   cases c2<;>try rfl
   cases c3<;>try rfl
   cases c4<;>try rfl
   cases c5<;>try rfl
   cases c6<;>try rfl
   cases c7<;>try rfl
   cases c8<;>try rfl
   cases c9<;>try rfl
   cases c10<;>try rfl
   cases c11<;>rfl
  ·rw[if_neg h13,decide_eq_false h13,if_neg (by simp)]
   exact congrArg some (Bool.and_false _).symm
 ·have hn:((x13.length:Int)!=(y13.length:Int))=true:=by simp;omega
  have h13:decide (x13=y13)=false:=decide_eq_false fun e=>hl (by rw[e])
  rw[hn,h13,if_pos rfl]
  exact congrArg some (Bool.and_false _).symm
theorem l52x0 (a1:Int) (a2:Int) (a3:List Int) (a4:Int) (a5:Int) (a6:Int) (a7:List Claim) (a8:Int) (a9:Int) (a10:Int) (a11:Int) (a12:Int) (a13:Int) (a14:Int) (a15:Int) (a16:Int) (a17:Int) (a18:Bool) (a19:List Int) (a20:List Claim) (a21:Int) (a22:Int) (a23:List Int) (a24:Int) (b1:Int) (b2:Int) (b3:List Int) (b4:Int) (b5:Int) (b6:Int) (b7:List Claim) (b8:Int) (b9:Int) (b10:Int) (b11:Int) (b12:Int) (b13:Int) (b14:Int) (b15:Int) (b16:Int) (b17:Int) (b18:Bool) (b19:List Int) (b20:List Claim) (b21:Int) (b22:Int) (b23:List Int) (b24:Int) (hl:a7.length=b7.length) (hb:a7.length<10000000000000):∀(k i:Nat),i+k=a7.length->
  lpU g52x0 ((a7.length:Int),(i:Int),a1,a2,a3,a4,a5,a6,a7,a8,a9,a10,a11,a12,a13,a14,a15,a16,a17,a18,a19,a20,a21,a22,a23,a24,b1,b2,b3,b4,b5,b6,b7,b8,b9,b10,b11,b12,b13,b14,b15,b16,b17,b18,b19,b20,b21,b22,b23,b24)=some (if a7.drop i=b7.drop i then(.inl (a1,a2,a3,a4,a5,a6,a7,a8,a9,a10,a11,a12,a13,a14,a15,a16,a17,a18,a19,a20,a21,a22,a23,a24,b1,b2,b3,b4,b5,b6,b7,b8,b9,b10,b11,b12,b13,b14,b15,b16,b17,b18,b19,b20,b21,b22,b23,b24))else .inr false)
 |0,i,hi=>by
  have hd:decide ((i:Int)<(a7.length:Int))=false:=decide_eq_false (by omega)
  rw[lp_end (x:=(.inl (a1,a2,a3,a4,a5,a6,a7,a8,a9,a10,a11,a12,a13,a14,a15,a16,a17,a18,a19,a20,a21,a22,a23,a24,b1,b2,b3,b4,b5,b6,b7,b8,b9,b10,b11,b12,b13,b14,b15,b16,b17,b18,b19,b20,b21,b22,b23,b24))) (by simp only[g52x0,hd,Bool.false_eq_true,if_false])]
  rw[List.drop_of_length_le (by omega),List.drop_of_length_le (by omega),if_pos rfl]
 |k+1,i,hi=>by
  have hd:decide ((i:Int)<(a7.length:Int))=true:=decide_eq_true (by omega)
  have h1:i<a7.length:=by omega
  have hs:=eq_step hl h1
  have hc:((a7[i].1==(b7[i]'(by omega)).1)&&((a7[i].2==(b7[i]'(by omega)).2)&&true))=decide (a7[i]=b7[i]'(by omega)):=by
   rw[Bool.eq_iff_iff];simp[Prod.ext_iff]
  by_cases e:a7[i]=b7[i]'(by omega)
  ·rw[lp_next (s':=((a7.length:Int),((i+1:Nat):Int),a1,a2,a3,a4,a5,a6,a7,a8,a9,a10,a11,a12,a13,a14,a15,a16,a17,a18,a19,a20,a21,a22,a23,a24,b1,b2,b3,b4,b5,b6,b7,b8,b9,b10,b11,b12,b13,b14,b15,b16,b17,b18,b19,b20,b21,b22,b23,b24)) (by
    simp only[g52x0,hd,if_true,idx_some' h1,idx_some' (show i<b7.length by omega),Option.bind_some,hc,decide_eq_true e,Bool.not_true,Bool.false_eq_true,if_false,wnext' (show i<1000000000000000 by omega)]),l52x0 a1 a2 a3 a4 a5 a6 a7 a8 a9 a10 a11 a12 a13 a14 a15 a16 a17 a18 a19 a20 a21 a22 a23 a24 b1 b2 b3 b4 b5 b6 b7 b8 b9 b10 b11 b12 b13 b14 b15 b16 b17 b18 b19 b20 b21 b22 b23 b24 hl hb k (i+1) (by omega)]
   congr 1
   simp only[hs,e,true_and]
  ·rw[lp_end (x:=.inr false) (by simp only[g52x0,hd,if_true,idx_some' h1,idx_some' (show i<b7.length by omega),Option.bind_some,hc,decide_eq_false e,Bool.not_false])]
   rw[if_neg fun h=>e (hs.1 h).1]
theorem l52x1 (a1:Int) (a2:Int) (a3:List Int) (a4:Int) (a5:Int) (a6:Int) (a7:List Claim) (a8:Int) (a9:Int) (a10:Int) (a11:Int) (a12:Int) (a13:Int) (a14:Int) (a15:Int) (a16:Int) (a17:Int) (a18:Bool) (a19:List Int) (a20:List Claim) (a21:Int) (a22:Int) (a23:List Int) (a24:Int) (b1:Int) (b2:Int) (b3:List Int) (b4:Int) (b5:Int) (b6:Int) (b7:List Claim) (b8:Int) (b9:Int) (b10:Int) (b11:Int) (b12:Int) (b13:Int) (b14:Int) (b15:Int) (b16:Int) (b17:Int) (b18:Bool) (b19:List Int) (b20:List Claim) (b21:Int) (b22:Int) (b23:List Int) (b24:Int) (hl:a23.length=b23.length) (hb:a23.length<10000000000000):∀(k i:Nat),i+k=a23.length->
  lpU g52x1 ((a23.length:Int),(i:Int),a1,a2,a3,a4,a5,a6,a7,a8,a9,a10,a11,a12,a13,a14,a15,a16,a17,a18,a19,a20,a21,a22,a23,a24,b1,b2,b3,b4,b5,b6,b7,b8,b9,b10,b11,b12,b13,b14,b15,b16,b17,b18,b19,b20,b21,b22,b23,b24)=some (if a23.drop i=b23.drop i then .inl ()else .inr false)
 |0,i,hi=>by
  have hd:decide ((i:Int)<(a23.length:Int))=false:=decide_eq_false (by omega)
  rw[lp_end (x:=.inl ()) (by simp only[g52x1,hd,Bool.false_eq_true,if_false])]
  rw[List.drop_of_length_le (by omega),List.drop_of_length_le (by omega),if_pos rfl]
 |k+1,i,hi=>by
  have hd:decide ((i:Int)<(a23.length:Int))=true:=decide_eq_true (by omega)
  have h1:i<a23.length:=by omega
  have hs:=eq_step hl h1
  have hc:(a23[i]!=b23[i]'(by omega))= !decide (a23[i]=b23[i]'(by omega)):=by
   rw[Bool.eq_iff_iff];simp
  by_cases e:a23[i]=b23[i]'(by omega)
  ·rw[lp_next (s':=((a23.length:Int),((i+1:Nat):Int),a1,a2,a3,a4,a5,a6,a7,a8,a9,a10,a11,a12,a13,a14,a15,a16,a17,a18,a19,a20,a21,a22,a23,a24,b1,b2,b3,b4,b5,b6,b7,b8,b9,b10,b11,b12,b13,b14,b15,b16,b17,b18,b19,b20,b21,b22,b23,b24)) (by
    simp only[g52x1,hd,if_true,idx_some' h1,idx_some' (show i<b23.length by omega),Option.bind_some,hc,decide_eq_true e,Bool.not_true,Bool.false_eq_true,if_false,wnext' (show i<1000000000000000 by omega)]),l52x1 a1 a2 a3 a4 a5 a6 a7 a8 a9 a10 a11 a12 a13 a14 a15 a16 a17 a18 a19 a20 a21 a22 a23 a24 b1 b2 b3 b4 b5 b6 b7 b8 b9 b10 b11 b12 b13 b14 b15 b16 b17 b18 b19 b20 b21 b22 b23 b24 hl hb k (i+1) (by omega)]
   congr 1
   simp only[hs,e,true_and]
  ·rw[lp_end (x:=.inr false) (by simp only[g52x1,hd,if_true,idx_some' h1,idx_some' (show i<b23.length by omega),Option.bind_some,hc,decide_eq_false e,Bool.not_false])]
   rw[if_neg fun h=>e (hs.1 h).1]
def sameG (a b:Sending):Bool:=a.1==b.1&&a.2.1==b.2.1&&decide (a.2.2.1=b.2.2.1)&&a.2.2.2.1==b.2.2.2.1&&a.2.2.2.2.1==b.2.2.2.2.1&&a.2.2.2.2.2.1==b.2.2.2.2.2.1&&decide (a.2.2.2.2.2.2.1=b.2.2.2.2.2.2.1)&&sameS (a.2.2.2.2.2.2.2.1,a.2.2.2.2.2.2.2.2.1,a.2.2.2.2.2.2.2.2.2.1,a.2.2.2.2.2.2.2.2.2.2.1,a.2.2.2.2.2.2.2.2.2.2.2.1,a.2.2.2.2.2.2.2.2.2.2.2.2.1,a.2.2.2.2.2.2.2.2.2.2.2.2.2.1,a.2.2.2.2.2.2.2.2.2.2.2.2.2.2.1,a.2.2.2.2.2.2.2.2.2.2.2.2.2.2.2.1,a.2.2.2.2.2.2.2.2.2.2.2.2.2.2.2.2.1,a.2.2.2.2.2.2.2.2.2.2.2.2.2.2.2.2.2.1,a.2.2.2.2.2.2.2.2.2.2.2.2.2.2.2.2.2.2.1,a.2.2.2.2.2.2.2.2.2.2.2.2.2.2.2.2.2.2.2.1) (b.2.2.2.2.2.2.2.1,b.2.2.2.2.2.2.2.2.1,b.2.2.2.2.2.2.2.2.2.1,b.2.2.2.2.2.2.2.2.2.2.1,b.2.2.2.2.2.2.2.2.2.2.2.1,b.2.2.2.2.2.2.2.2.2.2.2.2.1,b.2.2.2.2.2.2.2.2.2.2.2.2.2.1,b.2.2.2.2.2.2.2.2.2.2.2.2.2.2.1,b.2.2.2.2.2.2.2.2.2.2.2.2.2.2.2.1,b.2.2.2.2.2.2.2.2.2.2.2.2.2.2.2.2.1,b.2.2.2.2.2.2.2.2.2.2.2.2.2.2.2.2.2.1,b.2.2.2.2.2.2.2.2.2.2.2.2.2.2.2.2.2.2.1,b.2.2.2.2.2.2.2.2.2.2.2.2.2.2.2.2.2.2.2.1)&&a.2.2.2.2.2.2.2.2.2.2.2.2.2.2.2.2.2.2.2.2.1==b.2.2.2.2.2.2.2.2.2.2.2.2.2.2.2.2.2.2.2.2.1&&a.2.2.2.2.2.2.2.2.2.2.2.2.2.2.2.2.2.2.2.2.2.1==b.2.2.2.2.2.2.2.2.2.2.2.2.2.2.2.2.2.2.2.2.2.1&&decide (a.2.2.2.2.2.2.2.2.2.2.2.2.2.2.2.2.2.2.2.2.2.2.1=b.2.2.2.2.2.2.2.2.2.2.2.2.2.2.2.2.2.2.2.2.2.2.1)&&a.2.2.2.2.2.2.2.2.2.2.2.2.2.2.2.2.2.2.2.2.2.2.2==b.2.2.2.2.2.2.2.2.2.2.2.2.2.2.2.2.2.2.2.2.2.2.2
theorem sameG_self (a:Sending):sameG a a=true:=by
 simp[sameG,sameS_self]
theorem five (p c3 c7 c23 c8:Bool):((if p=true then some c3 else some false).bind fun y4=>(if(if p=true then y4 else false)=true then some c7 else some false).bind fun y6=>(if(if(if p=true then y4 else false)=true then y6 else false)=true then some c23 else some false).bind fun y8=>(if(if(if(if p=true then y4 else false)=true then y6 else false)=true then y8 else false)=true then some c8 else some false).bind fun y10=>some (if(if(if(if p=true then y4 else false)=true then y6 else false)=true then y8 else false)=true then y10 else false))=some (p&&(c3&&(c7&&(c23&&c8)))):=by
 cases p<;>cases c3<;>cases c7<;>cases c23<;>cases c8<;>rfl
theorem w56 (a b:Sending) (h:SmG a):g56 a b=some (sameG a b):=by
 have hb:=h.b
 have hg:=h.g
 have hs:=h.s
 have hd:=h.d
 have hc:=h.c
 obtain⟨a1,a2,a3,a4,a5,a6,a7,a8,a9,a10,a11,a12,a13,a14,a15,a16,a17,a18,a19,a20,a21,a22,a23,a24⟩:=a
 obtain⟨b1,b2,b3,b4,b5,b6,b7,b8,b9,b10,b11,b12,b13,b14,b15,b16,b17,b18,b19,b20,b21,b22,b23,b24⟩:=b
 simp only at hb hg hs hd hc
 simp only[g56,h95,w85 a3 b3 (by omega),w96 a7 b7 (by omega),w97 a23 b23 (by omega),w98 (a8,a9,a10,a11,a12,a13,a14,a15,a16,a17,a18,a19,a20) (b8,b9,b10,b11,b12,b13,b14,b15,b16,b17,b18,b19,b20) ⟨hd,hc⟩]
 refine(five _ _ _ _ _).trans (congrArg some ?_)
 simp only[sameG,Bool.and_true,Bool.and_assoc]
 rw[Bool.eq_iff_iff]
 simp only[Bool.and_eq_true]
 constructor<;>(intro h;simp only[h,and_self])
theorem ite_or (A B:Bool):(if A=true then true else B)=(A||B):=by cases A<;>rfl
theorem ref13 (X s7 n7 n23 c7 c23:Bool) (L:Option Bool) (hL:n7=false->n23=false->L=some (c7&&c23)) (h7:n7=true->c7=false) (h23:n23=true->c23=false):((if(!X)=true then some s7 else some false).bind fun y18=>if(if(if(if X=true then true else(!y18))=true then true else n7)=true then true else n23)=true then some false else L)=some (!X&&(s7&&(c7&&c23))):=by
 cases X
 ·cases s7
  ·rfl
  ·cases n7
   ·cases n23
    ·exact(hL rfl rfl).trans (by simp)
    ·rw[h23 rfl];simp
   ·rw[h7 rfl];simp
 ·rfl
theorem w52 (a b:Sending) (h:SmG a):g52 a b=some (sameG a b):=by
 have hb:=h.b
 have hg:=h.g
 have hs:=h.s
 have hd:=h.d
 have hc:=h.c
 obtain⟨a1,a2,a3,a4,a5,a6,a7,a8,a9,a10,a11,a12,a13,a14,a15,a16,a17,a18,a19,a20,a21,a22,a23,a24⟩:=a
 obtain⟨b1,b2,b3,b4,b5,b6,b7,b8,b9,b10,b11,b12,b13,b14,b15,b16,b17,b18,b19,b20,b21,b22,b23,b24⟩:=b
 simp only at hb hg hs hd hc
 simp only[g52,w54 (a8,a9,a10,a11,a12,a13,a14,a15,a16,a17,a18,a19,a20) (b8,b9,b10,b11,b12,b13,b14,b15,b16,b17,b18,b19,b20) ⟨hd,hc⟩]
 refine(ref13 _ _ _ _ (decide (a7=b7)) (decide (a23=b23)) _ (fun q1 q2=>?_) (fun q=>decide_eq_false (len_ne q)) (fun q=>decide_eq_false (len_ne q))).trans (congrArg some ?_)
 ·have t0:=l52x0 a1 a2 a3 a4 a5 a6 a7 a8 a9 a10 a11 a12 a13 a14 a15 a16 a17 a18 a19 a20 a21 a22 a23 a24 b1 b2 b3 b4 b5 b6 b7 b8 b9 b10 b11 b12 b13 b14 b15 b16 b17 b18 b19 b20 b21 b22 b23 b24 (len_eq q1) (by omega) a7.length 0 (by omega)
  have t1:=l52x1 a1 a2 a3 a4 a5 a6 a7 a8 a9 a10 a11 a12 a13 a14 a15 a16 a17 a18 a19 a20 a21 a22 a23 a24 b1 b2 b3 b4 b5 b6 b7 b8 b9 b10 b11 b12 b13 b14 b15 b16 b17 b18 b19 b20 b21 b22 b23 b24 (len_eq q2) (by omega) a23.length 0 (by omega)
  rw[show((0:Nat):Int)=0 from rfl]at t0 t1
  rw[t0]
  simp only[List.drop_zero]at t1 ⊢
  by_cases e7:a7=b7
  ·rw[if_pos e7,decide_eq_true e7]
   simp only[Option.bind_some,t1]
   by_cases e23:a23=b23
   ·rw[if_pos e23,decide_eq_true e23];rfl
   ·rw[if_neg e23,decide_eq_false e23];rfl
  ·rw[if_neg e7,decide_eq_false e7];rfl
 ·simp only[sameG,ite_or,Bool.not_or,bne,Bool.not_not,Bool.and_assoc]
  rw[Bool.eq_iff_iff]
  simp only[Bool.and_eq_true]
  constructor<;>(intro h;simp only[h,and_self])
def chain (tot:Int):Int->List Claim->Bool
 |_,[]=>true
 |e,c::r=>decide (c.2>0)&&decide (c.1>e)&&decide (c.1<=tot)&&decide (c.2<=tot-c.1)&&chain tot (c.1+c.2) r
theorem chain_cons {tot e:Int} {c:Claim} {r:List Claim}:chain tot e (c::r)=true↔0<c.2∧e<c.1∧c.1+c.2<=tot∧chain tot (c.1+c.2) r=true:=by
 simp only[chain,Bool.and_eq_true,decide_eq_true_eq]
 constructor
 ·rintro⟨⟨⟨⟨h1,h2⟩,h3⟩,h4⟩,h5⟩;exact⟨by omega,by omega,by omega,h5⟩
 ·rintro⟨h1,h2,h3,h5⟩;exact⟨⟨⟨⟨by omega,by omega⟩,by omega⟩,by omega⟩,h5⟩
def inB (x a b:Int):Bool:=decide (a<=x)&&decide (x<=b)
def claimB (lo hi:Int) (l:List Claim):Bool:=decide ((l.length:Int)<=20)&&chain hi (lo-1) l
theorem l112 (hi:Int) (l l0:List Claim) (hb:l.length<10000000000000) (hh:1<=hi∧hi<=512):∀(k i:Nat) (e:Int),i+k=l.length-> -1<=e->lpU g112x0 (l0,hi,e,l,(l.length:Int),(i:Int))=some (if chain hi e (l.drop i)then .inl l0 else .inr false)
 |0,i,e,hi',he=>by
  have hd:decide ((i:Int)<(l.length:Int))=false:=decide_eq_false (by omega)
  rw[lp_end (x:=.inl l0) (by simp only[g112x0,hd,Bool.false_eq_true,if_false])]
  rw[List.drop_of_length_le (by omega)];rfl
 |k+1,i,e,hi',he=>by
  have hd:decide ((i:Int)<(l.length:Int))=true:=decide_eq_true (by omega)
  have h1:i<l.length:=by omega
  obtain⟨c,hc⟩:∃c,l[i]=c:=⟨_,rfl⟩
  have hx:idx l (i:Int)=some c:=by rw[idx_some' h1,hc]
  rw[drop_cons' h1,hc]
  by_cases hg:0<c.2∧e<c.1∧c.1+c.2<=hi
  ·have q1:decide (c.2<1)=false:=decide_eq_false (by omega)
   have q2:decide (c.1<=e)=false:=decide_eq_false (by omega)
   have q3:decide (c.1>=hi)=false:=decide_eq_false (by omega)
   have q4:decide (c.2>IntKind.i64.wrap (hi-c.1))=false:=by rw[wi64 (by omega)];exact decide_eq_false (by omega)
   rw[lp_next (s':=(l0,hi,c.1+c.2,l,(l.length:Int),((i+1:Nat):Int))) (by
    simp only[g112x0,hd,if_true,hx,Option.bind_some,q1,q2,q3,q4,Bool.false_eq_true,if_false,wnext' (show i<1000000000000000 by omega),wi64 (show -9223372036854775808<=c.1+c.2∧c.1+c.2<=9223372036854775807 by omega)]),
    l112 hi l l0 hb hh k (i+1) (c.1+c.2) (by omega) (by omega)]
   have:chain hi e (c::l.drop (i+1))=chain hi (c.1+c.2) (l.drop (i+1)):=by
    simp only[chain,decide_eq_true (show c.2>0 by omega),decide_eq_true (show c.1>e by omega),decide_eq_true (show c.1<=hi by omega),decide_eq_true (show c.2<=hi-c.1 by omega),Bool.true_and]
   rw[this]
  ·have hcond:(if(if(if(decide (c.2<(1:Int)))then true else(decide (c.1<=e)))then true else(decide (c.1>=hi)))then true else(decide (c.2>(IntKind.i64.wrap (hi-c.1)))))=true:=by
    cases q1:decide (c.2<1)
    ·cases q2:decide (c.1<=e)
     ·cases q3:decide (c.1>=hi)
      ·have:=of_decide_eq_false q1
       have:=of_decide_eq_false q2
       have:=of_decide_eq_false q3
       rw[wi64 (by omega)]
       simp only[Bool.false_eq_true,if_false]
       exact decide_eq_true (by omega)
      ·rfl
     ·rfl
    ·rfl
   rw[lp_end (x:=.inr false) (by simp only[g112x0,hd,if_true,hx,Option.bind_some,hcond])]
   have:chain hi e (c::l.drop (i+1))=false:=by
    cases hq:chain hi e (c::l.drop (i+1))with
    |false=>rfl
    |true=>obtain⟨q1,q2,q3,q4⟩:=chain_cons.1 hq;exact absurd ⟨q1,q2,q3⟩ hg
   rw[this];rfl
theorem w112 (l:List Claim) (lo hi:Int) (hb:l.length<10000000000000) (hh:1<=hi∧hi<=512) (hlo:0<=lo∧lo<=512):g112 l lo hi=some (claimB lo hi l):=by
 unfold g112
 have:=l112 hi l l hb hh l.length 0 (lo-1) (by omega) (by omega)
 rw[show((0:Nat):Int)=0 from rfl,List.drop_zero]at this
 rw[wi64 (by omega),this]
 unfold claimB
 cases chain hi (lo-1) l
 ·rw[Bool.and_false];rfl
 ·rw[Bool.and_true];rfl
theorem w111 (x a b:Int):h111 x a b=inB x a b:=by
 show(if decide (x>=a)=true then decide (x<=b)else false)=(decide (x>=a)&&decide (x<=b))
 cases decide (x>=a)<;>rfl
def onlyF (x:Segment):Segment:=
 if x.1=1 then(x.1,x.2.1,x.2.2.1,x.2.2.2.1,0,x.2.2.2.2.2.1,x.2.2.2.2.2.2.1,0,0,0,x.2.2.2.2.2.2.2.2.2.2.1,x.2.2.2.2.2.2.2.2.2.2.2.1,[])
 else if x.1=2 then(x.1,x.2.1,x.2.2.1,x.2.2.2.1,x.2.2.2.2.1,0,0,x.2.2.2.2.2.2.2.1,x.2.2.2.2.2.2.2.2.1,0,false,[],x.2.2.2.2.2.2.2.2.2.2.2.2)
 else if x.1=3 then(x.1,x.2.1,x.2.2.1,x.2.2.2.1,0,0,0,0,0,0,false,[],[])
 else if x.1=4∨x.1=6 then(x.1,x.2.1,x.2.2.1,0,0,0,0,0,0,x.2.2.2.2.2.2.2.2.2.1,false,[],[])
 else(x.1,x.2.1,x.2.2.1,0,0,0,0,0,0,0,false,[],[])
def kindB (x:Segment):Bool:=
 if x.1=1 then inB x.2.2.2.2.2.2.1 1 512&&inB (x.2.2.2.2.2.2.2.2.2.2.2.1.length:Int) 1 100&&inB x.2.2.2.2.2.1 0 (x.2.2.2.2.2.2.1-x.2.2.2.2.2.2.2.2.2.2.2.1.length)&&(x.2.2.2.2.2.2.2.2.2.2.1==decide (x.2.2.2.1>0))
 else if x.1=2 then decide (x.2.2.2.1>0)&&decide (x.2.2.2.2.1>0)&&inB x.2.2.2.2.2.2.2.2.1 1 512&&inB x.2.2.2.2.2.2.2.1 0 (x.2.2.2.2.2.2.2.2.1-1)&&claimB x.2.2.2.2.2.2.2.1 x.2.2.2.2.2.2.2.2.1 x.2.2.2.2.2.2.2.2.2.2.2.2
 else if x.1=3 then decide (x.2.2.2.1>0)
 else if x.1=4∨x.1=6 then inB x.2.2.2.2.2.2.2.2.2.1 0 255
 else decide (x.1=5∨x.1=7)
def headB (x:Segment):Bool:=inB x.2.1 1 6&&decide (x.2.2.1>0)
def segOk (x:Segment):Bool:=headB x&&kindB x&&sameS x (onlyF x)
theorem fin30 (ok:Bool) (x o:Segment) (h:SmS x):((if(!(!ok))=true then g98 x o else some false).bind fun y40=>if(if(!ok)=true then true else(!y40))=true then some (200:Int)else some 0)=some (if ok&&sameS x o then 0 else 200):=by
 cases ok with
 |false=>rfl
 |true=>
  rw[w98 x o h]
  cases hq:sameS x o<;>simp[hq]
theorem b33' (x:Bool):(x !=false)=x:=by cases x<;>rfl
theorem if_and (a b:Bool):(if a=true then b else false)=(a&&b):=by cases a<;>rfl
theorem w84 (x:Segment) (h:SmS x):g84 x=some (if segOk x then 0 else 200):=by
 have hd:=h.d
 have hc:=h.c
 have fin:=fun ok o=>fin30 ok x o h
 obtain⟨x1,x2,x3,x4,x5,x6,x7,x8,x9,x10,x11,x12,x13⟩:=x
 simp only at hd hc fin
 have hh:(if inB x2 1 6=true then decide (x3>0)else false)=headB (x1,x2,x3,x4,x5,x6,x7,x8,x9,x10,x11,x12,x13):=if_and _ _
 simp only[g84,w111,hh]
 unfold segOk
 generalize headB (x1,x2,x3,x4,x5,x6,x7,x8,x9,x10,x11,x12,x13)=hb
 by_cases k1:x1=1
 ·subst k1
  simp only[beq_self_eq_true,if_true,Option.bind_some,fin]
  simp only[kindB,onlyF,if_true,b33']
  congr 2
  rw[eq_iff_iff]
  suffices hs:(if(if(if(if hb=true then inB x7 1 512 else false)=true then inB (x12.length:Int) 1 100 else false)=true then inB x6 0 (IntKind.i64.wrap (x7-(x12.length:Int)))else false)=true then(x11==decide (x4>0))else false)=(hb&&(inB x7 1 512&&inB (x12.length:Int) 1 100&&inB x6 0 (x7-(x12.length:Int))&&(x11==decide (x4>0)))) by rw[hs]
  cases hb with
  |false=>rfl
  |true=>
   cases q1:inB x7 1 512 with
   |false=>rfl
   |true=>
    simp only[inB,Bool.and_eq_true,decide_eq_true_eq]at q1
    rw[wi64 (by omega)]
    cases inB (x12.length:Int) 1 100<;>cases inB x6 0 (x7-(x12.length:Int))<;>simp
 ·have e1:(x1==1)=false:=by simpa using k1
  simp only[e1,Bool.false_eq_true,if_false,kindB,onlyF,if_neg k1]
  by_cases k2:x1=2
  ·subst k2
   simp only[beq_self_eq_true,if_true]
   have hx:(if(if(if(if(if hb=true then decide (x4>0)else false)=true then decide (x5>0)else false)=true then inB x9 1 512 else false)=true then inB x8 0 (IntKind.i64.wrap (x9-1))else false)=true then g112 x13 x8 x9 else some false)=some ((hb&&(decide (x4>0)&&decide (x5>0)&&inB x9 1 512&&inB x8 0 (x9-1)))&&claimB x8 x9 x13):=by
    cases hb with
    |false=>rfl
    |true=>
     cases decide (x4>0)with
     |false=>rfl
     |true=>
      cases decide (x5>0)with
      |false=>rfl
      |true=>
       cases q1:inB x9 1 512 with
       |false=>rfl
       |true=>
        simp only[inB,Bool.and_eq_true,decide_eq_true_eq]at q1
        rw[wi64 (by omega)]
        cases q2:inB x8 0 (x9-1)with
        |false=>rfl
        |true=>
         simp only[inB,Bool.and_eq_true,decide_eq_true_eq]at q2
         simp only[if_true,Bool.true_and]
         exact w112 x13 x8 x9 (by omega) (by omega) (by omega)
   have hy:∀y:Bool,(if(if(if(if(if hb=true then decide (x4>0)else false)=true then decide (x5>0)else false)=true then inB x9 1 512 else false)=true then inB x8 0 (IntKind.i64.wrap (x9-1))else false)=true then y else false)=((hb&&(decide (x4>0)&&decide (x5>0)&&inB x9 1 512&&inB x8 0 (x9-1)))&&y):=by
    intro y
    cases hb with
    |false=>rfl
    |true=>
     cases decide (x4>0)with
     |false=>rfl
     |true=>
      cases decide (x5>0)with
      |false=>rfl
      |true=>
       cases q1:inB x9 1 512 with
       |false=>rfl
       |true=>
        simp only[inB,Bool.and_eq_true,decide_eq_true_eq]at q1
        rw[wi64 (by omega)]
        cases inB x8 0 (x9-1)<;>rfl
   simp only[hx,hy,Option.bind_some,fin]
   congr 2
   rw[eq_iff_iff]
   generalize(decide (x4>0)&&decide (x5>0)&&inB x9 1 512&&inB x8 0 (x9-1))=c1,claimB x8 x9 x13=c2
   cases hb<;>cases c1<;>cases c2<;>simp
  ·have e2:(x1==2)=false:=by simpa using k2
   simp only[e2,Bool.false_eq_true,if_false,if_neg k2]
   by_cases k3:x1=3
   ·subst k3
    simp only[beq_self_eq_true,if_true,Option.bind_some,fin,if_and]
   ·have e3:(x1==3)=false:=by simpa using k3
    simp only[e3,Bool.false_eq_true,if_false,if_neg k3]
    by_cases k4:x1=4
    ·subst k4
     simp only[beq_self_eq_true,if_true,Option.bind_some,fin,if_and,true_or]
    ·have e4:(x1==4)=false:=by simpa using k4
     simp only[e4,Bool.false_eq_true,if_false]
     by_cases k6:x1=6
     ·subst k6
      simp only[beq_self_eq_true,if_true,Option.bind_some,fin,if_and,or_true]
     ·have e6:(x1==6)=false:=by simpa using k6
      simp only[e6,Option.bind_some,Bool.false_eq_true,if_false,if_neg (show ¬(x1=4∨x1=6) by omega)]
      by_cases k5:x1=5
      ·subst k5
       simp only[beq_self_eq_true,if_true,Option.bind_some,fin,true_or,decide_true,Bool.and_true]
      ·have e5:(x1==5)=false:=by simpa using k5
       simp only[e5,Bool.false_eq_true,if_false]
       by_cases k7:x1=7
       ·subst k7
        simp only[beq_self_eq_true,if_true,Option.bind_some,fin,or_true,decide_true,Bool.and_true]
       ·have e7:(x1==7)=false:=by simpa using k7
        simp only[e7,Bool.false_eq_true,if_false,Option.bind_some,fin]
        rw[decide_eq_false (show ¬(x1=5∨x1=7) by omega)]
        simp
theorem l83 (n:Int) (l:List Claim) (hb:l.length<10000000000000) (hn:0<=n∧n<=1000000):∀(k i:Nat) (e:Int),i+k=l.length-> -1<=e->lpU g83x0 (n,e,l,(l.length:Int),(i:Int))=some (if chain n e (l.drop i)=true then .inl ()else .inr false)
 |0,i,e,hi,he=>by
  have hd:decide ((i:Int)<(l.length:Int))=false:=decide_eq_false (by omega)
  rw[lp_end (x:=.inl ()) (by simp only[g83x0,hd,Bool.false_eq_true,if_false])]
  rw[List.drop_of_length_le (by omega)]
  rfl
 |k+1,i,e,hi,he=>by
  have hd:decide ((i:Int)<(l.length:Int))=true:=decide_eq_true (by omega)
  have h1:i<l.length:=by omega
  rw[drop_cons' h1]
  obtain⟨x,y,hc⟩:∃x y,l[i]=(x,y):=⟨_,_,rfl⟩
  by_cases ok:0<y∧e<x∧x+y<=n
  ·have c1:decide (y<1)=false:=decide_eq_false (by omega)
   have c2:decide (x<=e)=false:=decide_eq_false (by omega)
   have c3:decide (x>=n)=false:=decide_eq_false (by omega)
   have c4:decide (y>IntKind.i64.wrap (n-x))=false:=by rw[wi64 (by omega)];exact decide_eq_false (by omega)
   rw[lp_next (s':=(n,x+y,l,(l.length:Int),((i+1:Nat):Int))) (by
    simp only[g83x0,hd,if_true,idx_some' h1,Option.bind_some,hc,c1,c2,c3,c4,Bool.false_eq_true,if_false,wnext' (show i<1000000000000000 by omega),wi64 (show -9223372036854775808<=x+y∧x+y<=9223372036854775807 by omega)]),l83 n l hb hn k (i+1) (x+y) (by omega) (by omega)]
   congr 1
   have:chain n e (l[i]::l.drop (i+1))=chain n (x+y) (l.drop (i+1)):=by
    rw[Bool.eq_iff_iff,chain_cons,hc]
    simp only[ok,true_and]
   rw[this]
  ·rw[lp_end (x:=.inr false) (by
    have hcond:(if(if(if decide (y<1)=true then true else decide (x<=e))=true then true else decide (x>=n))=true then true else decide (y>IntKind.i64.wrap (n-x)))=true:=by
     by_cases q1:y<1
     ·rw[decide_eq_true q1];rfl
     ·rw[decide_eq_false q1]
      by_cases q2:x<=e
      ·rw[decide_eq_true q2];rfl
      ·rw[decide_eq_false q2]
       by_cases q3:x>=n
       ·rw[decide_eq_true q3];rfl
       ·rw[decide_eq_false q3,wi64 (by omega)]
        exact decide_eq_true (by omega)
    simp only[g83x0,hd,if_true,idx_some' h1,Option.bind_some,hc,hcond])]
   rw[if_neg]
   rw[chain_cons,hc]
   exact fun h=>ok ⟨h.1,h.2.1,h.2.2.1⟩
theorem w83 (l:List Claim) (n:Int) (hb:l.length<10000000000000) (hn:0<=n∧n<=1000000):g83 l n=some (chain n (-1) l):=by
 unfold g83
 have:=l83 n l hb hn l.length 0 (-1) (by omega) (by omega)
 rw[show((0:Nat):Int)=0 from rfl,List.drop_zero]at this
 rw[this]
 cases chain n (-1) l<;>rfl
theorem w82 (x a b:Int):h82 x a b=inB x a b:=by
 show(if decide (x>=a)=true then decide (x<=b)else false)=(decide (x>=a)&&decide (x<=b))
 cases decide (x>=a)<;>rfl
theorem l113 (l:List Int) (x:Int) (hb:l.length<10000000000000):∀(k i:Nat),i+k=l.length->∃z:Unit⊕Int,lpU g113x0 (l,x,(l.length:Int),(i:Int))=some z∧((∃u,z= .inl u∧¬ x∈l.drop i)∨(∃j,z= .inr j∧0<=j∧x∈l.drop i))
 |0,i,hi=>by
  have hd:decide ((i:Int)<(l.length:Int))=false:=decide_eq_false (by omega)
  refine⟨Sum.inl (),lp_end (x:=Sum.inl ()) (by simp only[g113x0,hd,Bool.false_eq_true,if_false]),.inl ⟨(),rfl,?_⟩⟩
  rw[List.drop_of_length_le (by omega)]
  simp
 |k+1,i,hi=>by
  have hd:decide ((i:Int)<(l.length:Int))=true:=decide_eq_true (by omega)
  have h1:i<l.length:=by omega
  rw[drop_cons' h1]
  by_cases e:x=l[i]
  ·refine⟨Sum.inr (i:Int),lp_end (x:=Sum.inr (i:Int)) ?_,.inr ⟨_,rfl,by omega,by rw[e];exact List.mem_cons_self ..⟩⟩
   have:(x==l[i])=true:=by simpa using e
   simp only[g113x0,hd,if_true,idx_some' h1,Option.bind_some,this]
  ·obtain⟨z,z1,z2⟩:=l113 l x hb k (i+1) (by omega)
   have hne:(x==l[i])=false:=by simpa using e
   refine⟨z,?_,?_⟩
   ·rw[lp_next (s':=(l,x,(l.length:Int),((i+1:Nat):Int))) (by simp only[g113x0,hd,if_true,idx_some' h1,Option.bind_some,hne,Bool.false_eq_true,if_false,wnext' (show i<1000000000000000 by omega)])]
    exact z1
   ·rcases z2 with⟨u,q1,q2⟩|⟨j,q1,q2,q3⟩
    ·exact .inl ⟨u,q1,fun h=>by rcases List.mem_cons.1 h with h|h;exact e h;exact q2 h⟩
    ·exact .inr ⟨j,q1,q2,List.mem_cons_of_mem _ q3⟩
theorem w86 (l:List Int) (x:Int) (hb:l.length<10000000000000):g86 l x=some (decide (x∈l)):=by
 unfold g86 g113
 obtain⟨z,z1,z2⟩:=l113 l x hb l.length 0 (by omega)
 rw[show((0:Nat):Int)=0 from rfl]at z1
 rw[z1]
 rw[List.drop_zero]at z2
 rcases z2 with⟨u,rfl,q⟩|⟨j,rfl,q1,q2⟩
 ·rw[decide_eq_false q];rfl
 ·rw[decide_eq_true q2]
  show some (decide (j>=0))=some true
  rw[decide_eq_true q1]
noncomputable def rightG (a:Sending):Bool:=h70 (a.1,a.2.1,a.2.2.1,a.2.2.2.1,a.2.2.2.2.1)&&(inB a.2.2.2.2.2.1 1 4&&(chain (a.2.2.1.length:Int) (-1) a.2.2.2.2.2.2.1&&(segOk (a.2.2.2.2.2.2.2.1,a.2.2.2.2.2.2.2.2.1,a.2.2.2.2.2.2.2.2.2.1,a.2.2.2.2.2.2.2.2.2.2.1,a.2.2.2.2.2.2.2.2.2.2.2.1,a.2.2.2.2.2.2.2.2.2.2.2.2.1,a.2.2.2.2.2.2.2.2.2.2.2.2.2.1,a.2.2.2.2.2.2.2.2.2.2.2.2.2.2.1,a.2.2.2.2.2.2.2.2.2.2.2.2.2.2.2.1,a.2.2.2.2.2.2.2.2.2.2.2.2.2.2.2.2.1,a.2.2.2.2.2.2.2.2.2.2.2.2.2.2.2.2.2.1,a.2.2.2.2.2.2.2.2.2.2.2.2.2.2.2.2.2.2.1,a.2.2.2.2.2.2.2.2.2.2.2.2.2.2.2.2.2.2.2.1)&&(a.2.2.2.2.2.2.2.1==1&&(a.2.2.2.2.2.2.2.2.2.2.2.2.2.2.2.2.2.1&&(a.2.2.2.2.2.2.2.2.1==a.1&&(a.2.2.2.2.2.2.2.2.2.1==a.2.1&&(a.2.2.2.2.2.2.2.2.2.2.2.2.2.1==(a.2.2.1.length:Int)&&(decide (a.2.2.2.2.2.2.2.2.2.2.2.2.2.2.2.2.2.2.1=(a.2.2.1.drop a.2.2.2.2.2.2.2.2.2.2.2.2.1.toNat).take a.2.2.2.2.2.2.2.2.2.2.2.2.2.2.2.2.2.2.1.length)&&(inB a.2.2.2.2.2.2.2.2.2.2.2.2.2.2.2.2.2.2.2.2.1 0 1114112&&(inB a.2.2.2.2.2.2.2.2.2.2.2.2.2.2.2.2.2.2.2.2.2.1 0 a.2.2.2.2.1&&(!decide ((a.2.2.2.2.2.2.2.2.2.2.2.2.2.2.2.2.2.2.2.2.2.2.1.length:Int)>32)&&(!decide ((0:Int)∈a.2.2.2.2.2.2.2.2.2.2.2.2.2.2.2.2.2.2.2.2.2.2.1)&&inB a.2.2.2.2.2.2.2.2.2.2.2.2.2.2.2.2.2.2.2.2.2.2.2 0 255)))))))))))))
theorem cut_ok {α:Type} {xs:List α} {lo hi:Int} (h:0<=lo∧lo<=hi∧hi<=(xs.length:Int)):cut xs lo hi=some ((xs.take hi.toNat).drop lo.toNat):=if_pos h
theorem fin15 (y20 q1 q2 q3 q4 q5:Bool):(if(!y20)=true then some (240:Int)else
 (let x23:= !q1
 if x23=true then(if x23=true then some (240:Int)else some 0)else
 (let x25:= !q2
 if x25=true then(if x25=true then some (240:Int)else some 0)else
 (let x27:=q3
 if x27=true then(if x27=true then some (240:Int)else some 0)else
 (some q4).bind fun y28=>if y28=true then(if y28=true then some (240:Int)else some 0)else if(!q5)=true then some (240:Int)else some 0))))=some (if(y20&&(q1&&(q2&&(!q3&&(!q4&&q5)))))=true then 0 else 240):=by
 cases y20<;>cases q1<;>cases q2<;>cases q3<;>cases q4<;>cases q5<;>rfl
theorem w35 (a:Sending) (h:SmG a):g35 a=some (if rightG a=true then 0 else 240):=by
 have hb:=h.b
 have hg:=h.g
 have hs:=h.s
 have hd:=h.d
 have hc:=h.c
 obtain⟨a1,a2,a3,a4,a5,a6,a7,a8,a9,a10,a11,a12,a13,a14,a15,a16,a17,a18,a19,a20,a21,a22,a23,a24⟩:=a
 simp only at hb hg hs hd hc
 show g35 _=some (if(h70 (a1,a2,a3,a4,a5)&&(inB a6 1 4&&(chain (a3.length:Int) (-1) a7&&(segOk (a8,a9,a10,a11,a12,a13,a14,a15,a16,a17,a18,a19,a20)&&(a8==1&&(a18&&(a9==a1&&(a10==a2&&(a14==(a3.length:Int)&&(decide (a19=(a3.drop a13.toNat).take a19.length)&&(inB a21 0 1114112&&(inB a22 0 a5&&(!decide ((a23.length:Int)>32)&&(!decide ((0:Int)∈a23)&&inB a24 0 255))))))))))))))=true then 0 else 240)
 unfold g35
 simp only[w82,w83 a7 (a3.length:Int) (by omega) (by omega)]
 cases q1:h70 (a1,a2,a3,a4,a5)with
 |false=>rfl
 |true=>
 cases q2:inB a6 1 4 with
 |false=>rfl
 |true=>
 cases q3:chain (a3.length:Int) (-1) a7 with
 |false=>rfl
 |true=>
 simp only[Bool.not_true,Bool.not_false,Bool.false_eq_true,if_false,if_true,Option.bind_some,w84 (a8,a9,a10,a11,a12,a13,a14,a15,a16,a17,a18,a19,a20) ⟨hd,hc⟩,Bool.true_and]
 cases q4:segOk (a8,a9,a10,a11,a12,a13,a14,a15,a16,a17,a18,a19,a20)with
 |false=>rfl
 |true=>
 cases q5:(a8==1)with
 |false=>
  have:(a8 !=1)=true:=by rw[bne,q5];rfl
  simp only[Bool.not_true,Bool.false_eq_true,if_false,if_true,Option.bind_some,bne_self_eq_false,this,Bool.false_and,Bool.and_false]
 |true=>
 have q5':(a8 !=1)=false:=by rw[bne,q5];rfl
 cases a18 with
 |false=>simp only[Bool.not_true,Bool.not_false,Bool.false_eq_true,if_false,if_true,Option.bind_some,bne_self_eq_false,q5',Bool.false_and,Bool.and_false]
 |true=>
 cases q6:(a9==a1)with
 |false=>
  have:(a9 !=a1)=true:=by rw[bne,q6];rfl
  simp only[Bool.not_true,Bool.not_false,Bool.false_eq_true,if_false,if_true,Option.bind_some,bne_self_eq_false,q5',this,Bool.false_and,Bool.and_false]
 |true=>
 have q6':(a9 !=a1)=false:=by rw[bne,q6];rfl
 cases q7:(a10==a2)with
 |false=>
  have:(a10 !=a2)=true:=by rw[bne,q7];rfl
  simp only[Bool.not_true,Bool.not_false,Bool.false_eq_true,if_false,if_true,Option.bind_some,bne_self_eq_false,q5',q6',this,Bool.false_and,Bool.and_false]
 |true=>
 have q7':(a10 !=a2)=false:=by rw[bne,q7];rfl
 cases q8:(a14==(a3.length:Int))with
 |false=>
  have:(a14 !=(a3.length:Int))=true:=by rw[bne,q8];rfl
  simp only[Bool.not_true,Bool.not_false,Bool.false_eq_true,if_false,if_true,Option.bind_some,bne_self_eq_false,q5',q6',q7',this,Bool.false_and,Bool.and_false]
 |true=>
 have q8':(a14 !=(a3.length:Int))=false:=by rw[bne,q8];rfl
 have e8:a8=1:=by simpa using q5
 have e14:a14=(a3.length:Int):=by simpa using q8
 have hoff:0<=a13∧a13<=a14-(a19.length:Int):=by
  have h1:=q4
  simp only[segOk,Bool.and_eq_true]at h1
  replace h1:=h1.1.2
  unfold kindB at h1
  rw[if_pos e8]at h1
  simp only[Bool.and_eq_true,inB,decide_eq_true_eq]at h1
  exact h1.1.2
 simp only[Bool.not_true,Bool.not_false,Bool.false_eq_true,if_false,if_true,Option.bind_some,bne_self_eq_false,q5',q6',q7',q8',Bool.true_and]
 rw[cut_ok ⟨hoff.1,by omega,by omega⟩,Option.bind_some,cut_ok ⟨by omega,by omega,by simp;omega⟩,Option.bind_some]
 have ed:((((a3.take (a3.length:Int).toNat).drop a13.toNat).take (a19.length:Int).toNat).drop (0:Int).toNat)=(a3.drop a13.toNat).take a19.length:=by
  rw[Int.toNat_natCast,Int.toNat_natCast,List.take_length];rfl
 rw[ed,w85 a19 _ (by omega),Option.bind_some,w86 a23 0 (by omega)]
 exact fin15 _ _ _ _ _ _
end Go.Proofs.Ytfopbiiffiickaa.Ev.U
namespace Go.Proofs.Ytfopbiiffiickaa.Ev.U
open Go
theorem l94 (x y:List Int) (hl:x.length=y.length) (hb:x.length<10000000000000):∀k i,i+k=x.length->lpU g94x0 (x,y,(i:Int))=some (if x.drop i=y.drop i then .inl ()else .inr false)
 |0,i,hi=>by
  have hd:decide ((i:Int)<(x.length:Int))=false:=decide_eq_false (by omega)
  rw[lp_end (x:=.inl ()) (by simp only[g94x0,hd,Bool.false_eq_true,if_false])]
  rw[List.drop_of_length_le (by omega),List.drop_of_length_le (by omega),if_pos rfl]
 |k+1,i,hi=>by
  have hd:decide ((i:Int)<(x.length:Int))=true:=decide_eq_true (by omega)
  have h1:i<x.length:=by omega
  have hs:=eq_step hl h1
  by_cases e:x[i]=y[i]'(by omega)
  ·rw[lp_next (s':=(x,y,((i+1:Nat):Int))) (by simp[h1,g94x0,hd,idx_some' h1,idx_some' (show i<y.length by omega),e,wnext' (show i<1000000000000000 by omega)]),l94 x y hl hb k (i+1) (by omega)]
   congr 1
   simp only[hs,e,true_and]
  ·rw[lp_end (x:=.inr false) (by simp[h1,g94x0,hd,idx_some' h1,idx_some' (show i<y.length by omega),e])]
   rw[if_neg fun h=>e (hs.1 h).1]
theorem w94 (x y:List Int) (hb:x.length<10000000000000):g94 x y=some (decide (x=y)):=by
 unfold g94
 cases h:((x.length:Int)!=(y.length:Int))with
 |true=>rw[if_pos rfl,decide_eq_false (len_ne h)]
 |false=>
  have hl:=len_eq h
  rw[if_neg (by simp),show((0:Int))=((0:Nat):Int)from rfl,l94 x y hl hb x.length 0 (by omega)]
  by_cases e:x=y
  ·subst e;simp
  ·simp[e]
theorem w99 (x y:List Int) (hb:x.length<10000000000000):g99 x y=some (decide (x=y)):=by unfold g99;rw[w85 x y hb];rfl
structure SmT (a:Taking):Prop where
 b:a.2.2.2.1.length<1000000
 g:a.2.2.2.2.1.length<1000000
def sameT (a b:Taking):Bool:=a.1==b.1&&a.2.1==b.2.1&&a.2.2.1==b.2.2.1&&decide (a.2.2.2.1=b.2.2.2.1)&&decide (a.2.2.2.2.1=b.2.2.2.2.1)&&a.2.2.2.2.2.1==b.2.2.2.2.2.1&&a.2.2.2.2.2.2.1==b.2.2.2.2.2.2.1&&a.2.2.2.2.2.2.2.1==b.2.2.2.2.2.2.2.1&&a.2.2.2.2.2.2.2.2==b.2.2.2.2.2.2.2.2
theorem w59 (a b:Taking) (h:SmT a):g59 a b=some (sameT a b):=by
 have hb:=h.b
 have hg:=h.g
 simp only[g59,w99 _ _ (show a.2.2.2.1.length<10000000000000 by omega),w96 _ _ (show a.2.2.2.2.1.length<10000000000000 by omega),sameT]
 generalize(a.1==b.1)=c1,(a.2.1==b.2.1)=c2,(a.2.2.1==b.2.2.1)=c3,decide (a.2.2.2.1=b.2.2.2.1)=c4,decide (a.2.2.2.2.1=b.2.2.2.2.1)=c5,(a.2.2.2.2.2.1==b.2.2.2.2.2.1)=c6,(a.2.2.2.2.2.2.1==b.2.2.2.2.2.2.1)=c7,(a.2.2.2.2.2.2.2.1==b.2.2.2.2.2.2.2.1)=c8,(a.2.2.2.2.2.2.2.2==b.2.2.2.2.2.2.2.2)=c9
 cases c1<;>try rfl
 cases c2<;>try rfl
 cases c3<;>try rfl
 cases c4<;>try rfl
 cases c5<;>try rfl
 cases c6<;>try rfl
 cases c7<;>try rfl
 cases c8<;>try rfl
theorem l53 (x y:List Claim) (hl:x.length=y.length) (hb:x.length<10000000000000) (a1 a2 a3:Int) (a4:List Int) (a6 a7 a8 a9 b1 b2 b3:Int) (b4:List Int) (b6 b7 b8 b9:Int):∀k i,i+k=x.length->
  lpU g53x0 ((i:Int),a1,a2,a3,a4,x,a6,a7,a8,a9,b1,b2,b3,b4,y,b6,b7,b8,b9)=some (if x.drop i=y.drop i then .inl ()else .inr false)
 |0,i,hi=>by
  have hd:decide ((i:Int)<(x.length:Int))=false:=decide_eq_false (by omega)
  rw[lp_end (x:=.inl ()) (by simp only[g53x0,hd,Bool.false_eq_true,if_false])]
  rw[List.drop_of_length_le (by omega),List.drop_of_length_le (by omega),if_pos rfl]
 |k+1,i,hi=>by
  have hd:decide ((i:Int)<(x.length:Int))=true:=decide_eq_true (by omega)
  have h1:i<x.length:=by omega
  have hs:=eq_step hl h1
  have hc:((x[i].1==(y[i]'(by omega)).1)&&((x[i].2==(y[i]'(by omega)).2)&&true))=decide (x[i]=y[i]'(by omega)):=by
   rw[Bool.eq_iff_iff];simp[Prod.ext_iff]
  by_cases e:x[i]=y[i]'(by omega)
  ·rw[lp_next (s':=(((i+1:Nat):Int),a1,a2,a3,a4,x,a6,a7,a8,a9,b1,b2,b3,b4,y,b6,b7,b8,b9)) (by
    simp only[g53x0,hd,if_true,idx_some' h1,idx_some' (show i<y.length by omega),Option.bind_some,hc,decide_eq_true e,Bool.not_true,Bool.false_eq_true,if_false,wnext' (show i<1000000000000000 by omega)]),l53 x y hl hb a1 a2 a3 a4 a6 a7 a8 a9 b1 b2 b3 b4 b6 b7 b8 b9 k (i+1) (by omega)]
   congr 1
   simp only[hs,e,true_and]
  ·rw[lp_end (x:=.inr false) (by simp only[g53x0,hd,if_true,idx_some' h1,idx_some' (show i<y.length by omega),Option.bind_some,hc,decide_eq_false e,Bool.not_false])]
   rw[if_neg fun h=>e (hs.1 h).1]
theorem w53 (a b:Taking) (h:SmT a):g53 a b=some (sameT a b):=by
 have hb:=h.b
 have hg:=h.g
 obtain⟨a1,a2,a3,a4,a5,a6,a7,a8,a9⟩:=a
 obtain⟨b1,b2,b3,b4,b5,b6,b7,b8,b9⟩:=b
 simp only at hb hg
 simp only[g53,sameT,w94 a4 b4 (by omega)]
 by_cases hl:a5.length=b5.length
 ·have:=l53 a5 b5 hl (by omega) a1 a2 a3 a4 a6 a7 a8 a9 b1 b2 b3 b4 b6 b7 b8 b9 a5.length 0 (by omega)
  rw[show((0:Nat):Int)=0 from rfl]at this
  rw[this]
  have hn:((a5.length:Int)!=(b5.length:Int))=false:=by simp[hl]
  rw[hn]
  simp only[List.drop_zero]
  have e5:(if a5=b5 then(Sum.inl ():Unit⊕Bool)else .inr false)=if decide (a5=b5)=true then .inl ()else .inr false:=by simp
  rw[e5]
  simp only[bne]
  generalize(a1==b1)=c1,(a2==b2)=c2,(a3==b3)=c3,decide (a4=b4)=c4,decide (a5=b5)=c5,(a6==b6)=c6,(a7==b7)=c7,(a8==b8)=c8,(a9==b9)=c9
  cases c1<;>try rfl
  cases c2<;>try rfl
  cases c3<;>try rfl
  cases c4<;>try rfl
  cases c5<;>cases c6<;>cases c7<;>cases c8<;>cases c9<;>rfl
 ·have hn:((a5.length:Int)!=(b5.length:Int))=true:=by simp;omega
  have h5:decide (a5=b5)=false:=decide_eq_false fun e=>hl (by rw[e])
  rw[hn,h5]
  simp only[bne]
  generalize(a1==b1)=c1,(a2==b2)=c2,(a3==b3)=c3,decide (a4=b4)=c4,(a6==b6)=c6,(a7==b7)=c7,(a8==b8)=c8,(a9==b9)=c9
  cases c1<;>try rfl
  cases c2<;>try rfl
  cases c3<;>try rfl
  cases c4<;>rfl
def wholeB (a:Taking):Bool:=match a.2.2.2.2.1 with
 |[c]=>c.1==0&&c.2==a.2.2.1
 |_=>false
theorem w88 (a:Taking):g88 a=some (wholeB a):=by
 obtain⟨a1,a2,a3,a4,a5,a6,a7,a8,a9⟩:=a
 match a5 with
 |[]=>rfl
 |[c]=>simp[g88,wholeB,idx]
 |c::d::r=>
  have h:(((c::d::r).length:Int)==1)=false:=by simp;omega
  simp only[g88,h,wholeB];rfl
theorem w81 (a:Taking):g81 a=some (wholeB a):=by
 obtain⟨a1,a2,a3,a4,a5,a6,a7,a8,a9⟩:=a
 match a5 with
 |[]=>rfl
 |[c]=>
  by_cases h:c.1=0
  ·simp[g81,wholeB,idx,h]
  ·simp[g81,wholeB,idx,h]
 |c::d::r=>
  have h:(((c::d::r).length:Int)==1)=false:=by simp;omega
  simp only[g81,h,wholeB];rfl
theorem l37 (tot:Int) (got:List Claim) (hb:got.length<10000000000000) (a1 a2:Int) (a4:List Int) (a5:List Claim) (a6 a7 a8 a9:Int):∀k i e ok,i+k=got.length->(ok=true->1<=tot∧tot<=512∧ -1<=e)->
  lpU g37x0 (ok,e,got,(got.length:Int),(i:Int),a1,a2,tot,a4,a5,a6,a7,a8,a9)=some (if(got.drop i).isEmpty||(ok&&chain tot e (got.drop i))then .inl (ok,a1,a2,tot,a4,a5,a6,a7,a8,a9)else .inr 250)
 |0,i,e,ok,hi,_=>by
  have hd:decide ((i:Int)<(got.length:Int))=false:=decide_eq_false (by omega)
  rw[lp_end (x:=.inl (ok,a1,a2,tot,a4,a5,a6,a7,a8,a9)) (by simp only[g37x0,hd,Bool.false_eq_true,if_false])]
  rw[List.drop_of_length_le (by omega)];rfl
 |k+1,i,e,ok,hi,hok=>by
  have hd:decide ((i:Int)<(got.length:Int))=true:=decide_eq_true (by omega)
  have h1:i<got.length:=by omega
  rw[drop_cons' h1]
  obtain⟨c,hc⟩:∃c,got[i]=c:=⟨_,rfl⟩
  have hx:idx got (i:Int)=some c:=by rw[idx_some' h1,hc]
  rw[hc]
  cases hch:(ok&&(decide (c.2>0)&&decide (c.1>e)&&decide (c.1<=tot)&&decide (c.2<=tot-c.1)))with
  |false=>
   have hx20:(if(if(if(if ok then decide (c.2>0)else false)then decide (c.1>e)else false)then decide (c.1<=tot)else false)then decide (c.2<=IntKind.i64.wrap (tot-c.1))else false)=false:=by
    cases ok with
    |false=>rfl
    |true=>
     obtain⟨t1,t2,t3⟩:=hok rfl
     cases q1:decide (c.2>0)
     ·rfl
     cases q2:decide (c.1>e)
     ·rfl
     cases q3:decide (c.1<=tot)
     ·rfl
     have:=of_decide_eq_true q2
     have:=of_decide_eq_true q3
     rw[wi64 (by omega)]
     rw[q1,q2,q3]at hch
     simpa using hch
   rw[lp_end (x:=.inr 250) (by simp only[g37x0,hd,if_true,hx,Option.bind_some,hx20,Bool.not_false])]
   have:(ok&&chain tot e (c::got.drop (i+1)))=false:=by
    simp only[chain,<-Bool.and_assoc]at hch ⊢
    rw[hch];rfl
   simp[this]
  |true=>
   simp only[Bool.and_eq_true,decide_eq_true_eq]at hch
   obtain⟨rfl,⟨⟨q1,q2⟩,q3⟩,q4⟩:=hch
   obtain⟨t1,t2,t3⟩:=hok rfl
   have hx20:(if(if(if decide (c.2>0)then decide (c.1>e)else false)then decide (c.1<=tot)else false)then decide (c.2<=IntKind.i64.wrap (tot-c.1))else false)=true:=by
    rw[wi64 (by omega),decide_eq_true q1,decide_eq_true q2,decide_eq_true q3,decide_eq_true q4];rfl
   rw[lp_next (s':=(true,c.1+c.2,got,(got.length:Int),((i+1:Nat):Int),a1,a2,tot,a4,a5,a6,a7,a8,a9)) (by
    simp only[g37x0,hd,if_true,hx,Option.bind_some,hx20,Bool.not_true,Bool.false_eq_true,if_false,wnext' (show i<1000000000000000 by omega),wi64 (show -9223372036854775808<=c.1+c.2∧c.1+c.2<=9223372036854775807 by omega)]),
    l37 tot got hb a1 a2 a4 a5 a6 a7 a8 a9 k (i+1) (c.1+c.2) true (by omega) fun _=>⟨t1,t2,by omega⟩]
   have:chain tot e (c::got.drop (i+1))=chain tot (c.1+c.2) (got.drop (i+1)):=by
    simp only[chain,decide_eq_true q1,decide_eq_true q2,decide_eq_true q3,decide_eq_true q4,Bool.true_and]
   rw[this]
   cases hr:got.drop (i+1)<;>simp[chain]
theorem w87 (x a b:Int):h87 x a b=inB x a b:=by
 show(if decide (x>=a)=true then decide (x<=b)else false)=(decide (x>=a)&&decide (x<=b))
 cases decide (x>=a)<;>rfl
def preB (a:Taking):Bool:=inB a.1 1 6&&decide (0<a.2.1)&&inB a.2.2.1 1 512&&((a.2.2.2.1.length:Int)==a.2.2.1)
def postB (a:Taking):Bool:=inB a.2.2.2.2.2.2.2.1 1 65536&&inB a.2.2.2.2.2.2.2.2 0 1114112&&(if a.2.2.2.2.2.2.1==1 then !wholeB a else if a.2.2.2.2.2.2.1==2 then wholeB a else a.2.2.2.2.2.2.1==4)
def rightB (a:Taking):Bool:=preB a&&chain a.2.2.1 (-1) a.2.2.2.2.1&&postB a
theorem w37 (a:Taking) (h:SmT a):g37 a=some (if rightB a then 0 else 250):=by
 have hg:=h.g
 have hpre:(if(if(if(h87 a.1 1 6)then(decide (a.2.1>0))else false)then(h87 a.2.2.1 1 512)else false)then((a.2.2.2.1.length:Int)==a.2.2.1)else false)=preB a:=by
  simp only[preB,w87]
  cases inB a.1 1 6<;>cases decide (a.2.1>0)<;>cases inB a.2.2.1 1 512<;>rfl
 unfold g37
 rw[hpre]
 have hl:=l37 a.2.2.1 a.2.2.2.2.1 (by omega) a.1 a.2.1 a.2.2.2.1 a.2.2.2.2.1 a.2.2.2.2.2.1 a.2.2.2.2.2.2.1 a.2.2.2.2.2.2.2.1 a.2.2.2.2.2.2.2.2 a.2.2.2.2.1.length 0 (-1) (preB a) (by omega) (fun hp=>by
  simp only[preB,inB,Bool.and_eq_true,decide_eq_true_eq]at hp
  omega)
 rw[show((0:Nat):Int)=0 from rfl,List.drop_zero]at hl
 rw[hl,Option.bind_some]
 have hw:∀z:Int×Int×Int×(List Int)×(List Claim)×Int×Int×Int×Int,g88 z=some (wholeB z):=w88
 cases hp:preB a with
 |true=>
  cases hc:chain a.2.2.1 (-1) a.2.2.2.2.1 with
  |false=>
   have:a.2.2.2.2.1.isEmpty=false:=by
    cases hq:a.2.2.2.2.1 with
    |nil=>rw[hq]at hc;cases hc
    |cons=>rfl
   simp only[this,rightB,hp,hc];rfl
  |true=>
   simp only[Bool.and_self,Bool.or_true,if_true,rightB,hp,hc,postB,w87,w88]
   generalize inB a.2.2.2.2.2.2.2.1 1 65536=c1,inB a.2.2.2.2.2.2.2.2 0 1114112=c2,(a.2.2.2.2.2.2.1==1)=c3,(a.2.2.2.2.2.2.1==2)=c4,(a.2.2.2.2.2.2.1==4)=c5,wholeB a=c6
   cases c1<;>cases c2<;>cases c3<;>cases c4<;>cases c5<;>cases c6<;>rfl
 |false=>
  simp only[rightB,hp,Bool.false_and,Bool.or_false]
  cases hq:a.2.2.2.2.1.isEmpty with
  |false=>rfl
  |true=>
   simp only[if_true,w87,w88,Bool.false_eq_true,if_false,Option.bind_some]
   generalize(a.2.2.2.2.2.2.1==1)=c3,(a.2.2.2.2.2.2.1==2)=c4,(a.2.2.2.2.2.2.1==4)=c5
   cases c3<;>cases c4<;>cases c5<;>rfl
def b33 (c:Claim) (tot:Int):Bool:=if(if(if(if decide (c.2<1)then true else decide (c.2>512))then true else decide (c.1<0))then true else decide (c.1>512))then true else decide (IntKind.i64.wrap (c.1+c.2)>tot)
theorem b33_f {c:Claim} {tot:Int}:b33 c tot=false↔1<=c.2∧c.2<=512∧0<=c.1∧c.1<=512∧c.1+c.2<=tot:=by
 unfold b33
 cases q1:decide (c.2<1)
 ·cases q2:decide (c.2>512)
  ·cases q3:decide (c.1<0)
   ·cases q4:decide (c.1>512)
    ·have h1:=of_decide_eq_false q1
     have h2:=of_decide_eq_false q2
     have h3:=of_decide_eq_false q3
     have h4:=of_decide_eq_false q4
     rw[wi64 (by omega)]
     simp only[Bool.false_eq_true,if_false,decide_eq_false_iff_not]
     omega
    ·have:=of_decide_eq_true q4
     simp;omega
   ·have:=of_decide_eq_true q3
    simp;omega
  ·have:=of_decide_eq_true q2
   simp;omega
 ·have:=of_decide_eq_true q1
  simp;omega
theorem l31 (a1 a2 tot:Int) (a4:List Int) (got:List Claim) (a6 a7 a8 a9:Int) (hb:got.length<10000000000000) (ht:1<=tot∧tot<=512):∀k i e,i+k=got.length->
  ((i=0∧e= -1)∨∃p,0<i∧got[i-1]? =some p∧e=p.1+p.2∧0<=p.1∧p.1<=512∧1<=p.2∧p.2<=512)->
  lpU g31x0 ((i:Int),a1,a2,tot,a4,got,a6,a7,a8,a9)=some (if chain tot e (got.drop i)then .inl (a1,a2,tot,a4,got,a6,a7,a8,a9)else .inr false)
 |0,i,e,hi,_=>by
  have hd:decide ((i:Int)<(got.length:Int))=false:=decide_eq_false (by omega)
  rw[lp_end (x:=.inl (a1,a2,tot,a4,got,a6,a7,a8,a9)) (by simp only[g31x0,hd,Bool.false_eq_true,if_false])]
  rw[List.drop_of_length_le (by omega)];rfl
 |k+1,i,e,hi,hp=>by
  have hd:decide ((i:Int)<(got.length:Int))=true:=decide_eq_true (by omega)
  have h1:i<got.length:=by omega
  obtain⟨c,hc⟩:∃c,got[i]=c:=⟨_,rfl⟩
  have hx:idx got (i:Int)=some c:=by rw[idx_some' h1,hc]
  rw[drop_cons' h1,hc]
  have body:g31x0 ((i:Int),a1,a2,tot,a4,got,a6,a7,a8,a9)=some (if b33 c tot||(decide (0<i)&&decide (c.1<=e))then .inr (.inr false)else .inl (((i+1:Nat):Int),a1,a2,tot,a4,got,a6,a7,a8,a9)):=by
   have hb33:(if(if(if(if(decide (c.2<(1:Int)))then true else(decide (c.2>(512:Int))))then true else(decide (c.1<(0:Int))))then true else(decide (c.1>(512:Int))))then true else(decide ((IntKind.i64.wrap (c.1+c.2))>tot)))=b33 c tot:=rfl
   rcases hp with⟨rfl,rfl⟩|⟨p,h0,hp,rfl,p1,p2,p3,p4⟩
   ·have hi0:decide (((0:Nat):Int)>0)=false:=rfl
    simp only[g31x0,hd,if_true,hx,Option.bind_some,hb33,hi0,Bool.and_false,Bool.false_eq_true,if_false,wnext (show 0<1000000000000 by omega)]
    cases b33 c tot<;>rfl
   ·have hi0:decide ((i:Int)>0)=true:=decide_eq_true (by omega)
    have hi0':decide (0<i)=true:=decide_eq_true h0
    have hip:idx got (IntKind.i64.wrap ((i:Int)-1))=some p:=by
     rw[wi64 (by omega),show((i:Int)-1)=((i-1:Nat):Int) by omega,idx_nat,hp]
    simp only[g31x0,hd,if_true,hx,Option.bind_some,hb33,hi0,hi0',Bool.and_true,hip,wnext' (show i<1000000000000000 by omega)]
    cases b33 c tot
    ·simp only[Bool.not_false,if_true,Option.bind_some,wi64 (show -9223372036854775808<=p.1+p.2∧p.1+p.2<=9223372036854775807 by omega),Bool.false_eq_true,if_false,Bool.false_or,Bool.true_and]
     cases decide (c.1<=p.1+p.2)<;>rfl
    ·rfl
  have he:(i=0->e= -1)∧ -1<=e∧e<=1024:=by
   rcases hp with⟨h,h'⟩|⟨p,h0,hp,rfl,p1,p2,p3,p4⟩
   ·omega
   ·omega
  cases hcond:(b33 c tot||(decide (0<i)&&decide (c.1<=e)))with
  |true=>
   rw[lp_end (x:=.inr false) (by rw[body,hcond];rfl)]
   have:chain tot e (c::got.drop (i+1))=false:=by
    cases hq:chain tot e (c::got.drop (i+1))with
    |false=>rfl
    |true=>
     obtain⟨q1,q2,q3,q4⟩:=chain_cons.1 hq
     have hf:b33 c tot=false:=b33_f.2 ⟨by omega,by omega,by omega,by omega,by omega⟩
     rw[hf]at hcond
     simp only[Bool.false_or,Bool.and_eq_true,decide_eq_true_eq]at hcond
     omega
   rw[this];rfl
  |false=>
   simp only[Bool.or_eq_false_iff,Bool.and_eq_false_iff,decide_eq_false_iff_not]at hcond
   obtain⟨hf,hq⟩:=hcond
   obtain⟨q1,q2,q3,q4,q5⟩:=b33_f.1 hf
   have hq':e<c.1:=by
    rcases hq with hq|hq
    ·have:=he.1 (by omega);omega
    ·omega
   rw[lp_next (s':=(((i+1:Nat):Int),a1,a2,tot,a4,got,a6,a7,a8,a9)) (by
    rw[body,hf]
    have:(decide (0<i)&&decide (c.1<=e))=false:=by rw[decide_eq_false (show ¬ c.1<=e by omega),Bool.and_false]
    rw[this];rfl),
    l31 a1 a2 tot a4 got a6 a7 a8 a9 hb ht k (i+1) (c.1+c.2) (by omega) (.inr ⟨c,by omega,by rw[Nat.add_sub_cancel,List.getElem?_eq_getElem h1,hc],rfl,by omega,by omega,by omega,by omega⟩)]
   have:chain tot e (c::got.drop (i+1))=chain tot (c.1+c.2) (got.drop (i+1)):=by
    simp only[chain,decide_eq_true (show c.2>0 by omega),decide_eq_true (show c.1>e by omega),decide_eq_true (show c.1<=tot by omega),decide_eq_true (show c.2<=tot-c.1 by omega),Bool.true_and]
   rw[this]
theorem w31 (a:Taking) (h:SmT a) (hs:0<=a.2.1):g31 a=some (rightB a):=by
 have hg:=h.g
 have hpre:(if(if(if(if(if(if(if(if(if(decide (a.1<(1:Int)))then true else(decide (a.1>(6:Int))))then true else(a.2.1==(0:Int)))then true else(decide (a.2.2.1<(1:Int))))then true else(decide (a.2.2.1>(512:Int))))then true else((a.2.2.2.1.length:Int)!=a.2.2.1))then true else(decide (a.2.2.2.2.2.2.2.1<(1:Int))))then true else(decide (a.2.2.2.2.2.2.2.1>(65536:Int))))then true else(decide (a.2.2.2.2.2.2.2.2<(0:Int))))then true else(decide (a.2.2.2.2.2.2.2.2>(1114112:Int))))= !(preB a&&(inB a.2.2.2.2.2.2.2.1 1 65536&&inB a.2.2.2.2.2.2.2.2 0 1114112)):=by
  rw[Bool.eq_iff_iff]
  simp only[preB,inB,Bool.not_eq_true',Bool.and_eq_false_iff,decide_eq_false_iff_not,beq_eq_false_iff_ne,ne_eq]
  simp only[Bool.if_true_left,Bool.or_eq_true,decide_eq_true_eq,beq_iff_eq,bne_iff_ne,ne_eq]
  omega
 unfold g31
 rw[hpre]
 cases hp:(preB a&&(inB a.2.2.2.2.2.2.2.1 1 65536&&inB a.2.2.2.2.2.2.2.2 0 1114112))with
 |false=>
  have:rightB a=false:=by
   simp only[rightB,postB]
   simp only[Bool.and_eq_false_iff]at hp ⊢
   rcases hp with hp|hp|hp
   ·exact .inl (.inl hp)
   ·exact .inr (.inl (.inl hp))
   ·exact .inr (.inl (.inr hp))
  rw[this];rfl
 |true=>
  simp only[Bool.and_eq_true]at hp
  obtain⟨hp,hp1,hp2⟩:=hp
  have ht:1<=a.2.2.1∧a.2.2.1<=512:=by
   simp only[preB,inB,Bool.and_eq_true,decide_eq_true_eq]at hp
   omega
  have hl:=l31 a.1 a.2.1 a.2.2.1 a.2.2.2.1 a.2.2.2.2.1 a.2.2.2.2.2.1 a.2.2.2.2.2.2.1 a.2.2.2.2.2.2.2.1 a.2.2.2.2.2.2.2.2 (by omega) ht a.2.2.2.2.1.length 0 (-1) (by omega) (.inl ⟨rfl,rfl⟩)
  rw[show((0:Nat):Int)=0 from rfl,List.drop_zero]at hl
  rw[hl]
  simp only[Bool.not_true,Bool.false_eq_true,if_false,Option.bind_some,rightB,hp,postB,hp1,hp2,Bool.true_and]
  cases hc:chain a.2.2.1 (-1) a.2.2.2.2.1 with
  |false=>rfl
  |true=>
   simp only[if_true,Bool.true_and,w81]
   have x1:((a.2.2.2.2.2.2.1==1)&&(a.2.2.2.2.2.2.1==2))=false:=by
    rw[Bool.and_eq_false_iff];simp only[beq_eq_false_iff_ne,ne_eq];omega
   have x2:((a.2.2.2.2.2.2.1==1)&&(a.2.2.2.2.2.2.1==4))=false:=by
    rw[Bool.and_eq_false_iff];simp only[beq_eq_false_iff_ne,ne_eq];omega
   have x3:((a.2.2.2.2.2.2.1==2)&&(a.2.2.2.2.2.2.1==4))=false:=by
    rw[Bool.and_eq_false_iff];simp only[beq_eq_false_iff_ne,ne_eq];omega
   clear hl hpre
   generalize(a.2.2.2.2.2.2.1==1)=c3,(a.2.2.2.2.2.2.1==2)=c4,(a.2.2.2.2.2.2.1==4)=c5,wholeB a=c6 at*
   cases c3<;>cases c4<;>cases c5<;>cases c6<;>first|rfl|exact absurd x1 (by decide)|exact absurd x2 (by decide)|exact absurd x3 (by decide)
theorem l110 (hi:Int) (l:List Claim) (hb:l.length<10000000000000) (hh:1<=hi∧hi<=512):∀(k i:Nat) (e:Int),i+k=l.length-> -1<=e->lpU g110x0 (hi,e,l,(l.length:Int),(i:Int))=some (if chain hi e (l.drop i)then .inl ()else .inr false)
 |0,i,e,hi',he=>by
  have hd:decide ((i:Int)<(l.length:Int))=false:=decide_eq_false (by omega)
  rw[lp_end (x:=.inl ()) (by simp only[g110x0,hd,Bool.false_eq_true,if_false])]
  rw[List.drop_of_length_le (by omega)];rfl
 |k+1,i,e,hi',he=>by
  have hd:decide ((i:Int)<(l.length:Int))=true:=decide_eq_true (by omega)
  have h1:i<l.length:=by omega
  obtain⟨c,hc⟩:∃c,l[i]=c:=⟨_,rfl⟩
  have hx:idx l (i:Int)=some c:=by rw[idx_some' h1,hc]
  rw[drop_cons' h1,hc]
  by_cases hg:0<c.2∧e<c.1∧c.1+c.2<=hi
  ·have q1:decide (c.2<1)=false:=decide_eq_false (by omega)
   have q2:decide (c.1<=e)=false:=decide_eq_false (by omega)
   have q3:decide (c.2>512)=false:=decide_eq_false (by omega)
   have q4:decide (c.1>512)=false:=decide_eq_false (by omega)
   have hw:=wi64 (show -9223372036854775808<=c.1+c.2∧c.1+c.2<=9223372036854775807 by omega)
   have q5:decide (c.1+c.2>hi)=false:=decide_eq_false (by omega)
   rw[lp_next (s':=(hi,c.1+c.2,l,(l.length:Int),((i+1:Nat):Int))) (by
    simp only[g110x0,hd,if_true,hx,Option.bind_some,hw,q1,q2,q3,q4,q5,Bool.false_eq_true,if_false,wnext' (show i<1000000000000000 by omega)]),
    l110 hi l hb hh k (i+1) (c.1+c.2) (by omega) (by omega)]
   have:chain hi e (c::l.drop (i+1))=chain hi (c.1+c.2) (l.drop (i+1)):=by
    simp only[chain,decide_eq_true (show c.2>0 by omega),decide_eq_true (show c.1>e by omega),decide_eq_true (show c.1<=hi by omega),decide_eq_true (show c.2<=hi-c.1 by omega),Bool.true_and]
   rw[this]
  ·have hcond:(if(if(if(if(decide (c.2<(1:Int)))then true else(decide (c.1<=e)))then true else(decide (c.2>(512:Int))))then true else(decide (c.1>(512:Int))))then true else(decide ((IntKind.i64.wrap (c.1+c.2))>hi)))=true:=by
    cases q1:decide (c.2<1)
    ·cases q2:decide (c.1<=e)
     ·cases q3:decide (c.2>512)
      ·cases q4:decide (c.1>512)
       ·have:=of_decide_eq_false q1
        have:=of_decide_eq_false q2
        have:=of_decide_eq_false q3
        have:=of_decide_eq_false q4
        rw[wi64 (by omega)]
        simp only[Bool.false_eq_true,if_false]
        exact decide_eq_true (by omega)
       ·rfl
      ·rfl
     ·rfl
    ·rfl
   rw[lp_end (x:=.inr false) (by simp only[g110x0,hd,if_true,hx,Option.bind_some,hcond])]
   have:chain hi e (c::l.drop (i+1))=false:=by
    cases hq:chain hi e (c::l.drop (i+1))with
    |false=>rfl
    |true=>obtain⟨q1,q2,q3,q4⟩:=chain_cons.1 hq;exact absurd ⟨q1,q2,q3⟩ hg
   rw[this];rfl
theorem w110 (l:List Claim) (lo hi:Int) (hb:l.length<10000000000000) (hh:1<=hi∧hi<=512) (hlo:0<=lo∧lo<=512):g110 l lo hi=some (claimB lo hi l):=by
 unfold g110 claimB
 have:=l110 hi l hb hh l.length 0 (lo-1) (by omega) (by omega)
 rw[show((0:Nat):Int)=0 from rfl,List.drop_zero]at this
 rw[wi64 (by omega),this]
 by_cases hq:(l.length:Int)<=20
 ·rw[decide_eq_true hq,decide_eq_false (show ¬(l.length:Int)>20 by omega),Bool.true_and]
  cases chain hi (lo-1) l<;>rfl
 ·rw[decide_eq_false hq,decide_eq_true (show(l.length:Int)>20 by omega)];rfl
theorem w109 (x:Segment):g109 x=some (onlyF x):=by
 unfold g109 onlyF
 by_cases k1:x.1=1
 ·simp[k1]
 by_cases k2:x.1=2
 ·simp[k2]
 by_cases k3:x.1=3
 ·simp[k3]
 by_cases k4:x.1=4
 ·simp[k4]
 by_cases k6:x.1=6
 ·simp[k6]
 simp[k1,k2,k3,k4,k6]
theorem w80 (x:Segment) (h:SmS x) (hs:0<=x.2.2.1):g80 x=some (segOk x):=by
 have hd:=h.d
 have hc:=h.c
 have hh:(if(if decide (x.2.1<1)=true then true else decide (x.2.1>6))=true then true else(x.2.2.1==0))= !headB x:=by
  rw[Bool.eq_iff_iff]
  simp only[headB,inB,Bool.if_true_left,Bool.or_eq_true,decide_eq_true_eq,beq_iff_eq,Bool.not_eq_true',Bool.and_eq_false_iff,decide_eq_false_iff_not]
  omega
 simp only[g80,hh,w109,w54 x _ h,Bool.not_not]
 unfold segOk
 cases hb:headB x with
 |false=>rfl
 |true=>
  simp only[if_true,Option.bind_some,Bool.not_true,Bool.false_eq_true,if_false,Bool.true_and]
  cases hq:sameS x (onlyF x)with
  |false=>simp
  |true=>
   simp only[Bool.not_true,Bool.false_eq_true,if_false,Bool.and_true]
   obtain⟨x1,x2,x3,x4,x5,x6,x7,x8,x9,x10,x11,x12,x13⟩:=x
   simp only at hd hc hs
   clear hq hh hb h
   simp only[kindB,b33']
   by_cases k1:x1=1
   ·subst k1
    simp only[beq_self_eq_true,if_true]
    congr 1
    show(if(if(if(if(if(if decide (x7>=1)=true then decide (x7<=512)else false)=true then decide ((x12.length:Int)>=1)else false)=true then decide ((x12.length:Int)<=100)else false)=true then decide (x6>=0)else false)=true then decide (x6<=IntKind.i64.wrap (x7-(x12.length:Int)))else false)=true then(x11==decide (x4>0))else false)=_
    have hin:∀a b c:Int,(if decide (a>=b)=true then decide (a<=c)else false)=inB a b c:=fun a b c=>if_and _ _
    rw[hin]
    cases q1:inB x7 1 512 with
    |false=>rfl
    |true=>
     simp only[inB,Bool.and_eq_true,decide_eq_true_eq]at q1
     rw[wi64 (by omega)]
     simp only[inB]
     show(if(if(if(if(if true=true then decide (1<=(x12.length:Int))else false)=true then _ else false)=true then decide (0<=x6)else false)=true then _ else false)=true then _ else false)=_
     generalize decide (1<=(x12.length:Int))=c1,decide ((x12.length:Int)<=100)=c2,decide (0<=x6)=c3,decide (x6<=x7-(x12.length:Int))=c4,(x11==decide (x4>0))=c5
     cases c1<;>cases c2<;>cases c3<;>cases c4<;>cases c5<;>rfl
   ·have e1:(x1==1)=false:=by simpa using k1
    simp only[e1,Bool.false_eq_true,if_false,if_neg k1]
    by_cases k2:x1=2
    ·subst k2
     simp only[beq_self_eq_true,if_true]
     have hx:(if(if(if(if decide (x4>0)=true then decide (x5>0)else false)=true then decide (x8>=0)else false)=true then decide (x8<x9)else false)=true then decide (x9<=512)else false)=(decide (x4>0)&&decide (x5>0)&&inB x9 1 512&&inB x8 0 (x9-1)):=by
      simp only[inB,if_and]
      rw[Bool.eq_iff_iff]
      simp only[Bool.and_eq_true,decide_eq_true_eq,ge_iff_le,gt_iff_lt]
      constructor
      ·rintro⟨⟨⟨⟨q1,q2⟩,q3⟩,q4⟩,q5⟩
       exact⟨⟨⟨q1,q2⟩,by omega,q5⟩,q3,by omega⟩
      ·rintro⟨⟨⟨q1,q2⟩,q3,q4⟩,q5,q6⟩
       exact⟨⟨⟨⟨q1,q2⟩,q5⟩,by omega⟩,q4⟩
     simp only[hx]
     cases hc1:(decide (x4>0)&&decide (x5>0)&&inB x9 1 512&&inB x8 0 (x9-1))with
     |false=>rfl
     |true=>
      simp only[inB,Bool.and_eq_true,decide_eq_true_eq]at hc1
      simp only[if_true,w110 x13 x8 x9 (by omega) (by omega) (by omega),Option.bind_some,Bool.true_and]
    ·have e2:(x1==2)=false:=by simpa using k2
     simp only[e2,Bool.false_eq_true,if_false,if_neg k2]
     by_cases k3:x1=3
     ·subst k3;rfl
     ·have e3:(x1==3)=false:=by simpa using k3
      simp only[e3,Bool.false_eq_true,if_false,if_neg k3]
      have hin:∀a b c:Int,(if decide (a>=b)=true then decide (a<=c)else false)=inB a b c:=fun a b c=>if_and _ _
      by_cases k4:x1=4
      ·subst k4
       simp only[beq_self_eq_true,if_true,Option.bind_some,hin,true_or]
      ·have e4:(x1==4)=false:=by simpa using k4
       simp only[e4,Bool.false_eq_true,if_false]
       by_cases k6:x1=6
       ·subst k6
        simp only[beq_self_eq_true,if_true,Option.bind_some,hin,or_true]
       ·have e6:(x1==6)=false:=by simpa using k6
        simp only[e6,Option.bind_some,Bool.false_eq_true,if_false,if_neg (show ¬(x1=4∨x1=6) by omega)]
        by_cases k5:x1=5
        ·subst k5;rfl
        ·have e5:(x1==5)=false:=by simpa using k5
         simp only[e5,Bool.false_eq_true,if_false]
         by_cases k7:x1=7
         ·subst k7;rfl
         ·have e7:(x1==7)=false:=by simpa using k7
          simp only[e7,Bool.false_eq_true,if_false]
          rw[decide_eq_false (show ¬(x1=5∨x1=7) by omega)]
end Go.Proofs.Ytfopbiiffiickaa.Ev.U
