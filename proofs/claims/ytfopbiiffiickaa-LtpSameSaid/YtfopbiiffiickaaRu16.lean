/- The law LtpSame, as it is given: it returns true whatever it is given, and leaves it as it was. Conditions: none. -/
import Derived.Test.YtfopbiiffiickaaPb16
import Derived.Test.YtfopbiiffiickaaLu16
import Derived.Test.YtfopbiiffiickaaUp
import Derived.Test.YtfopbiiffiickaaFu16
import Derived.Test.YtfopbiiffiickaaRows
import Derived.KernelRfl
set_option linter.all false
namespace Go.Proofs.Ytfopbiiffiickaa.Ev.U
open Go
def allB {α:Type} (f:α->α->Bool):List α->List α->Bool
 |[],[]=>true
 |x::xs,y::ys=>f x y&&allB f xs ys
 |_,_=>false
theorem allB_len {α:Type} {f:α->α->Bool}:∀{xs ys:List α},xs.length≠ys.length->allB f xs ys=false
 |[],[],h=>absurd rfl h
 |[],_::_,_=>rfl
 |_::_,[],_=>rfl
 |x::xs,y::ys,h=>by simp only[allB];rw[allB_len (by simpa using h),Bool.and_false]
theorem allB_self {α:Type} {f:α->α->Bool} (h:∀x,f x x=true):∀xs:List α,allB f xs xs=true
 |[]=>rfl
 |x::xs=>by simp only[allB,h x,allB_self h xs,Bool.and_self]
theorem allB_step {α:Type} {f:α->α->Bool} {xs ys:List α} {i:Nat} (hx:i<xs.length) (hy:i<ys.length):allB f (xs.drop i) (ys.drop i)=(f xs[i] ys[i]&&allB f (xs.drop (i+1)) (ys.drop (i+1))):=by
 rw[drop_cons' hx,drop_cons' hy];rfl
def sameO (a b:Outward):Bool:=a.1==b.1&&sameG a.2 b.2
def sameC (a b:Closed):Bool:=(a.1==b.1)&&((a.2.1==b.2.1)&&((a.2.2.1==b.2.2.1)&&((a.2.2.2.1==b.2.2.2.1)&&((a.2.2.2.2==b.2.2.2.2)&&(true)))))
theorem sameO_self (a:Outward):sameO a a=true:=by simp[sameO,sameG_self]
theorem sameC_self (a:Closed):sameC a a=true:=by simp[sameC]
theorem sameT_self' (a:Taking):sameT a a=true:=by simp[sameT]
structure SmL (a:Ltp):Prop where
 o:a.2.2.2.2.2.1.length<1000000
 i:a.2.2.2.2.2.2.1.length<1000000
 c:a.2.2.2.2.2.2.2.length<1000000
 og:∀o∈a.2.2.2.2.2.1,SmG o.2
 ig:∀t∈a.2.2.2.2.2.2.1,SmT t
theorem w55 (a b:Outward) (h:SmG a.2):g55 a b=some (sameO a b):=by
 unfold g55 sameO
 cases hx:a.1==b.1 with
 |true=>simp[w56 a.2 b.2 h]
 |false=>simp
theorem l57 (x y:List Outward) (φ:(Outward×Outward)->Option Bool) (hφ:∀a∈x,∀b,φ (a,b)=some (sameO a b)) (hl:x.length=y.length) (hb:x.length<10000000000000):∀k i,i+k=x.length->lpU g57x0 (y,φ,x,(x.length:Int),(i:Int))=some (if allB sameO (x.drop i) (y.drop i)=true then .inl ()else .inr false)
 |0,i,hi=>by
  have hd:decide ((i:Int)<(x.length:Int))=false:=decide_eq_false (by omega)
  rw[lp_end (x:=.inl ()) (by simp only[g57x0,hd,Bool.false_eq_true,if_false])]
  rw[List.drop_of_length_le (by omega),List.drop_of_length_le (by omega)];rfl
 |k+1,i,hi=>by
  have hd:decide ((i:Int)<(x.length:Int))=true:=decide_eq_true (by omega)
  have h1:i<x.length:=by omega
  have h2:i<y.length:=by omega
  have hf:=hφ x[i] (List.getElem_mem _) y[i]
  rw[allB_step h1 h2]
  cases e:sameO x[i] y[i]with
  |true=>
   rw[lp_next (s':=(y,φ,x,(x.length:Int),((i+1:Nat):Int))) (by
    simp[h1,g57x0,hd,idx_some' h1,idx_some' h2,hf,e,wnext' (show i<1000000000000000 by omega)]),l57 x y φ hφ hl hb k (i+1) (by omega),Bool.true_and]
  |false=>rw[lp_end (x:=.inr false) (by simp[h1,g57x0,hd,idx_some' h1,idx_some' h2,hf,e]),Bool.false_and,if_neg Bool.false_ne_true]
theorem w57 (x y:List Outward) (φ:(Outward×Outward)->Option Bool) (hφ:∀a∈x,∀b,φ (a,b)=some (sameO a b)) (hb:x.length<10000000000000):g57 x y φ=some (allB sameO x y):=by
 unfold g57
 cases h:((x.length:Int)!=(y.length:Int))with
 |true=>rw[if_pos rfl,allB_len fun e=>by rw[e]at h;simp at h]
 |false=>
  have hl:=len_eq h
  rw[if_neg (by simp),show((0:Int))=((0:Nat):Int)from rfl,l57 x y φ hφ hl hb x.length 0 (by omega),List.drop_zero,List.drop_zero]
  cases allB sameO x y<;>simp
theorem l58 (x y:List Taking) (φ:(Taking×Taking)->Option Bool) (hφ:∀a∈x,∀b,φ (a,b)=some (sameT a b)) (hl:x.length=y.length) (hb:x.length<10000000000000):∀k i,i+k=x.length->lpU g58x0 (y,φ,x,(x.length:Int),(i:Int))=some (if allB sameT (x.drop i) (y.drop i)=true then .inl ()else .inr false)
 |0,i,hi=>by
  have hd:decide ((i:Int)<(x.length:Int))=false:=decide_eq_false (by omega)
  rw[lp_end (x:=.inl ()) (by simp only[g58x0,hd,Bool.false_eq_true,if_false])]
  rw[List.drop_of_length_le (by omega),List.drop_of_length_le (by omega)];rfl
 |k+1,i,hi=>by
  have hd:decide ((i:Int)<(x.length:Int))=true:=decide_eq_true (by omega)
  have h1:i<x.length:=by omega
  have h2:i<y.length:=by omega
  have hf:=hφ x[i] (List.getElem_mem _) y[i]
  rw[allB_step h1 h2]
  cases e:sameT x[i] y[i]with
  |true=>
   rw[lp_next (s':=(y,φ,x,(x.length:Int),((i+1:Nat):Int))) (by
    simp[h1,g58x0,hd,idx_some' h1,idx_some' h2,hf,e,wnext' (show i<1000000000000000 by omega)]),l58 x y φ hφ hl hb k (i+1) (by omega),Bool.true_and]
  |false=>rw[lp_end (x:=.inr false) (by simp[h1,g58x0,hd,idx_some' h1,idx_some' h2,hf,e]),Bool.false_and,if_neg Bool.false_ne_true]
theorem w58 (x y:List Taking) (φ:(Taking×Taking)->Option Bool) (hφ:∀a∈x,∀b,φ (a,b)=some (sameT a b)) (hb:x.length<10000000000000):g58 x y φ=some (allB sameT x y):=by
 unfold g58
 cases h:((x.length:Int)!=(y.length:Int))with
 |true=>rw[if_pos rfl,allB_len fun e=>by rw[e]at h;simp at h]
 |false=>
  have hl:=len_eq h
  rw[if_neg (by simp),show((0:Int))=((0:Nat):Int)from rfl,l58 x y φ hφ hl hb x.length 0 (by omega),List.drop_zero,List.drop_zero]
  cases allB sameT x y<;>simp
theorem l60 (x y:List Closed) (hl:x.length=y.length) (hb:x.length<10000000000000):∀k i,i+k=x.length->lpU g60x0 (x,y,(x.length:Int),(i:Int))=some (if allB sameC (x.drop i) (y.drop i)=true then .inl ()else .inr false)
 |0,i,hi=>by
  have hd:decide ((i:Int)<(x.length:Int))=false:=decide_eq_false (by omega)
  rw[lp_end (x:=.inl ()) (by simp only[g60x0,hd,Bool.false_eq_true,if_false])]
  rw[List.drop_of_length_le (by omega),List.drop_of_length_le (by omega)];rfl
 |k+1,i,hi=>by
  have hd:decide ((i:Int)<(x.length:Int))=true:=decide_eq_true (by omega)
  have h1:i<x.length:=by omega
  have h2:i<y.length:=by omega
  have hr:g60x0 (x,y,(x.length:Int),(i:Int))=if(!(sameC x[i] y[i]))=true then some (Sum.inr (Sum.inr false))else some (Sum.inl (x,y,(x.length:Int),IntKind.i64.wrap ((i:Int)+1))):=by
   simp only[g60x0,hd,if_true,idx_some' h1,idx_some' h2,Option.bind_some];rfl
  rw[allB_step h1 h2]
  cases e:sameC x[i] y[i]with
  |true=>
   rw[lp_next (s':=(x,y,(x.length:Int),((i+1:Nat):Int))) (by rw[hr,e,wnext' (show i<1000000000000000 by omega)];rfl),l60 x y hl hb k (i+1) (by omega),Bool.true_and]
  |false=>rw[lp_end (x:=.inr false) (by rw[hr,e];rfl),Bool.false_and,if_neg Bool.false_ne_true]
theorem w60 (x y:List Closed) (hb:x.length<10000000000000):g60 x y=some (allB sameC x y):=by
 unfold g60
 cases h:((x.length:Int)!=(y.length:Int))with
 |true=>rw[if_pos rfl,allB_len fun e=>by rw[e]at h;simp at h]
 |false=>
  have hl:=len_eq h
  rw[if_neg (by simp),show((0:Int))=((0:Nat):Int)from rfl,l60 x y hl hb x.length 0 (by omega),List.drop_zero,List.drop_zero]
  cases allB sameC x y<;>simp
def headS (a b:Ltp):Bool:=a.1==b.1&&((a.2.1==b.2.1)&&((a.2.2.1==b.2.2.1)&&((a.2.2.2.1==b.2.2.2.1)&&(true))))&&(a.2.2.2.2.1==b.2.2.2.2.1)
def sameP (a b:Ltp):Bool:=headS a b&&allB sameO a.2.2.2.2.2.1 b.2.2.2.2.2.1&&allB sameT a.2.2.2.2.2.2.1 b.2.2.2.2.2.2.1&&allB sameC a.2.2.2.2.2.2.2 b.2.2.2.2.2.2.2
theorem sameP_self (a:Ltp):sameP a a=true:=by simp[sameP,headS,allB_self sameO_self,allB_self sameT_self',allB_self sameC_self]
theorem if_andf (a b:Bool):(if a=true then b else false)=(a&&b):=by cases a<;>rfl
theorem w19 (a b:Ltp) (h:SmL a):g19 a b=some (sameP a b):=by
 unfold g19 sameP
 have e0:(if(if(a.1==b.1)=true then((a.2.1==b.2.1)&&((a.2.2.1==b.2.2.1)&&((a.2.2.2.1==b.2.2.2.1)&&(true))))else false)=true then(a.2.2.2.2.1==b.2.2.2.2.1)else false)=headS a b:=by
  rw[if_andf,if_andf];rfl
 have k57:=w57 a.2.2.2.2.2.1 b.2.2.2.2.2.1 (fun v6=>(g55 v6.1 v6.2).bind some) (fun x hx y=>by simp[w55 x y (h.og x hx)]) (by have:=h.o;omega)
 have k58:=w58 a.2.2.2.2.2.2.1 b.2.2.2.2.2.2.1 (fun v9=>(g59 v9.1 v9.2).bind some) (fun x hx y=>by simp[w59 x y (h.ig x hx)]) (by have:=h.i;omega)
 have k60:=w60 a.2.2.2.2.2.2.2 b.2.2.2.2.2.2.2 (by have:=h.c;omega)
 simp only[e0,k57,k58,k60]
 cases headS a b with
 |false=>simp
 |true=>
  cases allB sameO a.2.2.2.2.2.1 b.2.2.2.2.2.1 with
  |false=>simp
  |true=>
   cases allB sameT a.2.2.2.2.2.2.1 b.2.2.2.2.2.2.1<;>simp
theorem l14x0 (a1:Int) (a2:Int) (a3:Int) (a4:Int) (a5:Int) (ao:List Outward) (ai:List Taking) (ac:List Closed) (b1:Int) (b2:Int) (b3:Int) (b4:Int) (b5:Int) (bo:List Outward) (bi:List Taking) (bc:List Closed) (hl:ao.length=bo.length) (hb:ao.length<10000000000000) (hg:∀o∈ao,SmG o.2):∀k i,i+k=ao.length->lpU g14x0 ((ao.length:Int),(i:Int),a1,a2,a3,a4,a5,ao,ai,ac,b1,b2,b3,b4,b5,bo,bi,bc)=some (if allB sameO (ao.drop i) (bo.drop i)=true then .inl (a1,a2,a3,a4,a5,ao,ai,ac,b1,b2,b3,b4,b5,bo,bi,bc)else .inr false)
 |0,i,hi=>by
  have hd:decide ((i:Int)<(ao.length:Int))=false:=decide_eq_false (by omega)
  rw[lp_end (x:=.inl (a1,a2,a3,a4,a5,ao,ai,ac,b1,b2,b3,b4,b5,bo,bi,bc)) (by simp only[g14x0,hd,Bool.false_eq_true,if_false])]
  rw[List.drop_of_length_le (by omega),List.drop_of_length_le (by omega)];rfl
 |k+1,i,hi=>by
  have hd:decide ((i:Int)<(ao.length:Int))=true:=decide_eq_true (by omega)
  have h1:i<ao.length:=by omega
  have h2:i<bo.length:=by omega
  have hr:g14x0 ((ao.length:Int),(i:Int),a1,a2,a3,a4,a5,ao,ai,ac,b1,b2,b3,b4,b5,bo,bi,bc)=if(!(sameO ao[i] bo[i]))=true then some (Sum.inr (Sum.inr false))else some (Sum.inl ((ao.length:Int),IntKind.i64.wrap ((i:Int)+1),a1,a2,a3,a4,a5,ao,ai,ac,b1,b2,b3,b4,b5,bo,bi,bc)):=by
   have hg1:=w52 ao[i].2 bo[i].2 (hg _ (List.getElem_mem _))
   cases e:ao[i].1==bo[i].1 with
   |true=>simp only[g14x0,hd,if_true,idx_some' h1,idx_some' h2,Option.bind_some,bne,e,sameO];simp[hg1]
   |false=>simp only[g14x0,hd,if_true,idx_some' h1,idx_some' h2,Option.bind_some,bne,e,sameO];simp
  rw[allB_step h1 h2]
  cases e:sameO ao[i] bo[i]with
  |true=>
   rw[lp_next (s':=((ao.length:Int),((i+1:Nat):Int),a1,a2,a3,a4,a5,ao,ai,ac,b1,b2,b3,b4,b5,bo,bi,bc)) (by rw[hr,e,wnext' (show i<1000000000000000 by omega)];rfl),l14x0 a1 a2 a3 a4 a5 ao ai ac b1 b2 b3 b4 b5 bo bi bc hl hb hg k (i+1) (by omega),Bool.true_and]
  |false=>rw[lp_end (x:=.inr false) (by rw[hr,e];rfl),Bool.false_and,if_neg Bool.false_ne_true]
theorem l14x1 (a1:Int) (a2:Int) (a3:Int) (a4:Int) (a5:Int) (ao:List Outward) (ai:List Taking) (ac:List Closed) (b1:Int) (b2:Int) (b3:Int) (b4:Int) (b5:Int) (bo:List Outward) (bi:List Taking) (bc:List Closed) (hl:ai.length=bi.length) (hb:ai.length<10000000000000) (hg:∀o∈ai,SmT o):∀k i,i+k=ai.length->lpU g14x1 ((ai.length:Int),(i:Int),a1,a2,a3,a4,a5,ao,ai,ac,b1,b2,b3,b4,b5,bo,bi,bc)=some (if allB sameT (ai.drop i) (bi.drop i)=true then .inl (a1,a2,a3,a4,a5,ao,ai,ac,b1,b2,b3,b4,b5,bo,bi,bc)else .inr false)
 |0,i,hi=>by
  have hd:decide ((i:Int)<(ai.length:Int))=false:=decide_eq_false (by omega)
  rw[lp_end (x:=.inl (a1,a2,a3,a4,a5,ao,ai,ac,b1,b2,b3,b4,b5,bo,bi,bc)) (by simp only[g14x1,hd,Bool.false_eq_true,if_false])]
  rw[List.drop_of_length_le (by omega),List.drop_of_length_le (by omega)];rfl
 |k+1,i,hi=>by
  have hd:decide ((i:Int)<(ai.length:Int))=true:=decide_eq_true (by omega)
  have h1:i<ai.length:=by omega
  have h2:i<bi.length:=by omega
  have hr:g14x1 ((ai.length:Int),(i:Int),a1,a2,a3,a4,a5,ao,ai,ac,b1,b2,b3,b4,b5,bo,bi,bc)=if(!(sameT ai[i] bi[i]))=true then some (Sum.inr (Sum.inr false))else some (Sum.inl ((ai.length:Int),IntKind.i64.wrap ((i:Int)+1),a1,a2,a3,a4,a5,ao,ai,ac,b1,b2,b3,b4,b5,bo,bi,bc)):=by
   have hg1:=w53 ai[i] bi[i] (hg _ (List.getElem_mem _))
   simp only[g14x1,hd,if_true,idx_some' h1,idx_some' h2,Option.bind_some,hg1]
  rw[allB_step h1 h2]
  cases e:sameT ai[i] bi[i]with
  |true=>
   rw[lp_next (s':=((ai.length:Int),((i+1:Nat):Int),a1,a2,a3,a4,a5,ao,ai,ac,b1,b2,b3,b4,b5,bo,bi,bc)) (by rw[hr,e,wnext' (show i<1000000000000000 by omega)];rfl),l14x1 a1 a2 a3 a4 a5 ao ai ac b1 b2 b3 b4 b5 bo bi bc hl hb hg k (i+1) (by omega),Bool.true_and]
  |false=>rw[lp_end (x:=.inr false) (by rw[hr,e];rfl),Bool.false_and,if_neg Bool.false_ne_true]
theorem l14x2 (a1:Int) (a2:Int) (a3:Int) (a4:Int) (a5:Int) (ao:List Outward) (ai:List Taking) (ac:List Closed) (b1:Int) (b2:Int) (b3:Int) (b4:Int) (b5:Int) (bo:List Outward) (bi:List Taking) (bc:List Closed) (hl:ac.length=bc.length) (hb:ac.length<10000000000000):∀k i,i+k=ac.length->lpU g14x2 ((ac.length:Int),(i:Int),a1,a2,a3,a4,a5,ao,ai,ac,b1,b2,b3,b4,b5,bo,bi,bc)=some (if allB sameC (ac.drop i) (bc.drop i)=true then .inl ()else .inr false)
 |0,i,hi=>by
  have hd:decide ((i:Int)<(ac.length:Int))=false:=decide_eq_false (by omega)
  rw[lp_end (x:=.inl ()) (by simp only[g14x2,hd,Bool.false_eq_true,if_false])]
  rw[List.drop_of_length_le (by omega),List.drop_of_length_le (by omega)];rfl
 |k+1,i,hi=>by
  have hd:decide ((i:Int)<(ac.length:Int))=true:=decide_eq_true (by omega)
  have h1:i<ac.length:=by omega
  have h2:i<bc.length:=by omega
  have hr:g14x2 ((ac.length:Int),(i:Int),a1,a2,a3,a4,a5,ao,ai,ac,b1,b2,b3,b4,b5,bo,bi,bc)=if(!(sameC ac[i] bc[i]))=true then some (Sum.inr (Sum.inr false))else some (Sum.inl ((ac.length:Int),IntKind.i64.wrap ((i:Int)+1),a1,a2,a3,a4,a5,ao,ai,ac,b1,b2,b3,b4,b5,bo,bi,bc)):=by
   simp only[g14x2,hd,if_true,idx_some' h1,idx_some' h2,Option.bind_some];rfl
  rw[allB_step h1 h2]
  cases e:sameC ac[i] bc[i]with
  |true=>
   rw[lp_next (s':=((ac.length:Int),((i+1:Nat):Int),a1,a2,a3,a4,a5,ao,ai,ac,b1,b2,b3,b4,b5,bo,bi,bc)) (by rw[hr,e,wnext' (show i<1000000000000000 by omega)];rfl),l14x2 a1 a2 a3 a4 a5 ao ai ac b1 b2 b3 b4 b5 bo bi bc hl hb k (i+1) (by omega),Bool.true_and]
  |false=>rw[lp_end (x:=.inr false) (by rw[hr,e];rfl),Bool.false_and,if_neg Bool.false_ne_true]
theorem or6 (h x1 x2 x3:Bool):(if(if(if(!h)=true then true else x1)=true then true else x2)=true then true else x3)=(!h||x1||x2||x3):=by cases h<;>cases x1<;>cases x2<;>rfl
theorem or3n (p q r:Bool):(if(if(!p)=true then true else !q)=true then true else !r)= !(p&&q&&r):=by cases p<;>cases q<;>cases r<;>rfl
theorem head_ne (a b:Ltp):(if(if(a.1 !=b.1)=true then true else(!((a.2.1==b.2.1)&&((a.2.2.1==b.2.2.1)&&((a.2.2.2.1==b.2.2.2.1)&&(true))))))=true then true else(a.2.2.2.2.1 !=b.2.2.2.2.1))= !headS a b:=by
 exact or3n _ _ _
theorem w14 (a b:Ltp) (h:SmL a):g14 a b=some (sameP a b):=by
 unfold g14
 rw[head_ne,or6]
 unfold sameP
 cases hh:headS a b with
 |false=>rfl
 |true=>
  cases x1:((a.2.2.2.2.2.1.length:Int)!=(b.2.2.2.2.2.1.length:Int))with
  |true=>simp only[allB_len (fun e=>by rw[e]at x1;simp at x1:a.2.2.2.2.2.1.length≠b.2.2.2.2.2.1.length)];rfl
  |false=>
  cases x2:((a.2.2.2.2.2.2.1.length:Int)!=(b.2.2.2.2.2.2.1.length:Int))with
  |true=>simp only[allB_len (fun e=>by rw[e]at x2;simp at x2:a.2.2.2.2.2.2.1.length≠b.2.2.2.2.2.2.1.length),Bool.and_false];rfl
  |false=>
  cases x3:((a.2.2.2.2.2.2.2.length:Int)!=(b.2.2.2.2.2.2.2.length:Int))with
  |true=>simp only[allB_len (fun e=>by rw[e]at x3;simp at x3:a.2.2.2.2.2.2.2.length≠b.2.2.2.2.2.2.2.length),Bool.and_false];rfl
  |false=>
  have n1:=len_eq x1
  have n2:=len_eq x2
  have n3:=len_eq x3
  obtain⟨a1,a2,a3,a4,a5,ao,ai,ac⟩:=a
  obtain⟨b1,b2,b3,b4,b5,bo,bi,bc⟩:=b
  obtain⟨q1,q2,q3,q4,q5⟩:=h
  simp only at n1 n2 n3 q1 q2 q3 q4 q5
  have k0:=l14x0 a1 a2 a3 a4 a5 ao ai ac b1 b2 b3 b4 b5 bo bi bc n1 (by omega) q4 ao.length 0 (by omega)
  have k1:=l14x1 a1 a2 a3 a4 a5 ao ai ac b1 b2 b3 b4 b5 bo bi bc n2 (by omega) q5 ai.length 0 (by omega)
  have k2:=l14x2 a1 a2 a3 a4 a5 ao ai ac b1 b2 b3 b4 b5 bo bi bc n3 (by omega) ac.length 0 (by omega)
  rw[show((0:Nat):Int)=(0:Int)from rfl,List.drop_zero,List.drop_zero]at k0 k1 k2
  simp only[Bool.not_true,Bool.or_self,Bool.false_eq_true,if_false,k0,Bool.true_and]
  cases allB sameO ao bo with
  |false=>rfl
  |true=>
   simp only[if_true,Option.bind_some,k1]
   cases allB sameT ai bi with
   |false=>rfl
   |true=>
    simp only[if_true,Option.bind_some,k2]
    cases allB sameC ac bc<;>rfl
end Go.Proofs.Ytfopbiiffiickaa.Ev.U
namespace Go.Proofs.Ytfopbiiffiickaa.Ev.U
open Go
structure CpG (a:Sending):Prop where
 b:a.2.2.1.length*1<=140737488355328
 g:a.2.2.2.2.2.2.1.length*16<=140737488355328
 s:a.2.2.2.2.2.2.2.2.2.2.2.2.2.2.2.2.2.2.2.2.2.2.1.length*4<=140737488355328
 d:a.2.2.2.2.2.2.2.2.2.2.2.2.2.2.2.2.2.2.1.length*1<=140737488355328
 c:a.2.2.2.2.2.2.2.2.2.2.2.2.2.2.2.2.2.2.2.1.length<8796093022000
structure CpT (t:Taking):Prop where
 b:t.2.2.2.1.length*1<=140737488355328
 g:t.2.2.2.2.1.length*16<=140737488355328
structure CpL (x:Ltp):Prop where
 o:x.2.2.2.2.2.1.length<1000000
 i:x.2.2.2.2.2.2.1.length<1000000
 c:x.2.2.2.2.2.2.2.length<1000000
 og:∀o∈x.2.2.2.2.2.1,CpG o.2
 ig:∀t∈x.2.2.2.2.2.2.1,CpT t
theorem w50c (a:Sending) (h:CpG a):g50 a=some a:=by
 obtain⟨h1,h2,h3,h4,h5⟩:=h
 unfold g50
 rw[apd_ok (by simpa using h1),apd_ok (by simpa using h2),apd_ok (by simpa using h3),apd_ok (by simpa using h4),apd_ok (by simp;omega)]
 rfl
theorem w61c (a:Taking) (h:CpT a):g61 a=some a:=by
 obtain⟨h1,h2⟩:=h
 unfold g61
 rw[apd_ok (by simpa using h1),apd_ok (by simpa using h2)]
 rfl
theorem l20x0 (a1:Int) (a2:Int) (a3:Int) (a4:Int) (a5:Int) (ao:List Outward) (ai:List Taking) (ac:List Closed) (z1:Int) (z2:Int) (z3:Int) (z4:Int) (z5:Int) (x:List Outward) (hb:x.length<1000000) (hg:∀o∈x,CpG o.2):∀k i,i+k=x.length->lpU g20x0 (x.take i,x,(x.length:Int),(i:Int),a1,a2,a3,a4,a5,ao,ai,ac,z1,z2,z3,z4,z5)=some (x,a1,a2,a3,a4,a5,ao,ai,ac,z1,z2,z3,z4,z5)
 |0,i,hi=>by
  have hd:decide ((i:Int)<(x.length:Int))=false:=decide_eq_false (by omega)
  rw[lp_end (x:=(x.take i,a1,a2,a3,a4,a5,ao,ai,ac,z1,z2,z3,z4,z5)) (by simp only[g20x0,hd,Bool.false_eq_true,if_false])]
  rw[List.take_of_length_le (by omega)]
 |k+1,i,hi=>by
  have hd:decide ((i:Int)<(x.length:Int))=true:=decide_eq_true (by omega)
  have h1:i<x.length:=by omega
  have hg1:=w50c x[i].2 (hg _ (List.getElem_mem _))
  have ht:x.take (i+1)=x.take i++[x[i]]:=by rw[List.take_add_one];simp[h1]
  have ha:apd 272 (x.take i) [x[i]]=some (x.take (i+1)):=by rw[ht];exact apd_ok (by simp;omega)
  have hr:g20x0 (x.take i,x,(x.length:Int),(i:Int),a1,a2,a3,a4,a5,ao,ai,ac,z1,z2,z3,z4,z5)=some (.inl (x.take (i+1),x,(x.length:Int),((i+1:Nat):Int),a1,a2,a3,a4,a5,ao,ai,ac,z1,z2,z3,z4,z5)):=by
   simp only[g20x0,hd,if_true,idx_some' h1,Option.bind_some,hg1]
   rw[<-wnext (show i<1000000000000 by omega)]
   exact congrArg (fun q=>Option.bind q _) ha
  rw[lp_next hr,l20x0 a1 a2 a3 a4 a5 ao ai ac z1 z2 z3 z4 z5 x hb hg k (i+1) (by omega)]
theorem l20x1 (a1:Int) (a2:Int) (a3:Int) (a4:Int) (a5:Int) (oo ao:List Outward) (ai:List Taking) (ac:List Closed) (z1:Int) (z2:Int) (z3:Int) (z4:Int) (z5:Int) (x:List Taking) (hb:x.length<1000000) (hg:∀o∈x,CpT o):∀k i,i+k=x.length->lpU g20x1 (oo,x.take i,x,(x.length:Int),(i:Int),a1,a2,a3,a4,a5,ao,ai,ac,z1,z2,z3,z4,z5)=some (oo,x,a1,a2,a3,a4,a5,ao,ai,ac,z1,z2,z3,z4,z5)
 |0,i,hi=>by
  have hd:decide ((i:Int)<(x.length:Int))=false:=decide_eq_false (by omega)
  rw[lp_end (x:=(oo,x.take i,a1,a2,a3,a4,a5,ao,ai,ac,z1,z2,z3,z4,z5)) (by simp only[g20x1,hd,Bool.false_eq_true,if_false])]
  rw[List.take_of_length_le (by omega)]
 |k+1,i,hi=>by
  have hd:decide ((i:Int)<(x.length:Int))=true:=decide_eq_true (by omega)
  have h1:i<x.length:=by omega
  have hg1:=w61c x[i] (hg _ (List.getElem_mem _))
  have ht:x.take (i+1)=x.take i++[x[i]]:=by rw[List.take_add_one];simp[h1]
  have ha:apd 104 (x.take i) [x[i]]=some (x.take (i+1)):=by rw[ht];exact apd_ok (by simp;omega)
  have hr:g20x1 (oo,x.take i,x,(x.length:Int),(i:Int),a1,a2,a3,a4,a5,ao,ai,ac,z1,z2,z3,z4,z5)=some (.inl (oo,x.take (i+1),x,(x.length:Int),((i+1:Nat):Int),a1,a2,a3,a4,a5,ao,ai,ac,z1,z2,z3,z4,z5)):=by
   simp only[g20x1,hd,if_true,idx_some' h1,Option.bind_some,hg1]
   rw[<-wnext (show i<1000000000000 by omega)]
   exact congrArg (fun q=>Option.bind q _) ha
  rw[lp_next hr,l20x1 a1 a2 a3 a4 a5 oo ao ai ac z1 z2 z3 z4 z5 x hb hg k (i+1) (by omega)]
theorem w20 (x:Ltp) (h:CpL x):g20 x=some x:=by
 obtain⟨a1,a2,a3,a4,a5,ao,ai,ac⟩:=x
 obtain⟨h1,h2,h3,h4,h5⟩:=h
 simp only at h1 h2 h3 h4 h5
 have k0:=l20x0 a1 a2 a3 a4 a5 ao ai ac 0 0 0 0 0 ao h1 h4 ao.length 0 (by omega)
 have k1:=l20x1 a1 a2 a3 a4 a5 ao ao ai ac 0 0 0 0 0 ai h2 h5 ai.length 0 (by omega)
 rw[show((0:Nat):Int)=(0:Int)from rfl,List.take_zero]at k0 k1
 unfold g20
 simp only[k0,k1,Option.bind_some]
 rw[apd_ok (by simp;omega)]
 rfl
def shO (o:Outward):Outward:=(o.1,o.2.1,o.2.2.1,o.2.2.2.1.take 600,o.2.2.2.2.1,o.2.2.2.2.2.1,o.2.2.2.2.2.2.1,o.2.2.2.2.2.2.2.1.take 300,o.2.2.2.2.2.2.2.2.1,o.2.2.2.2.2.2.2.2.2.1,o.2.2.2.2.2.2.2.2.2.2.1,o.2.2.2.2.2.2.2.2.2.2.2.1,o.2.2.2.2.2.2.2.2.2.2.2.2.1,o.2.2.2.2.2.2.2.2.2.2.2.2.2.1,o.2.2.2.2.2.2.2.2.2.2.2.2.2.2.1,o.2.2.2.2.2.2.2.2.2.2.2.2.2.2.2.1,o.2.2.2.2.2.2.2.2.2.2.2.2.2.2.2.2.1,o.2.2.2.2.2.2.2.2.2.2.2.2.2.2.2.2.2.1,o.2.2.2.2.2.2.2.2.2.2.2.2.2.2.2.2.2.2.1,o.2.2.2.2.2.2.2.2.2.2.2.2.2.2.2.2.2.2.2.1.take 200,o.2.2.2.2.2.2.2.2.2.2.2.2.2.2.2.2.2.2.2.2.1,o.2.2.2.2.2.2.2.2.2.2.2.2.2.2.2.2.2.2.2.2.2.1,o.2.2.2.2.2.2.2.2.2.2.2.2.2.2.2.2.2.2.2.2.2.2.1,o.2.2.2.2.2.2.2.2.2.2.2.2.2.2.2.2.2.2.2.2.2.2.2.1.take 40,o.2.2.2.2.2.2.2.2.2.2.2.2.2.2.2.2.2.2.2.2.2.2.2.2)
def shI (t:Taking):Taking:=(t.1,t.2.1,t.2.2.1,t.2.2.2.1.take 600,t.2.2.2.2.1.take 300,t.2.2.2.2.2.1,t.2.2.2.2.2.2.1,t.2.2.2.2.2.2.2.1,t.2.2.2.2.2.2.2.2)
theorem idx_set {α:Type} {xs:List α} {i:Nat} {v:α} (h:i<xs.length):idx (xs.set i v) (i:Int)=some v:=by rw[idx_nat,List.getElem?_set_self h]
theorem cutn {α:Type} (xs:List α) (n:Nat):cut xs 0 (if(n:Int)<(xs.length:Int)then(n:Int)else(xs.length:Int))=some (xs.take n):=by
 have:=cut_take xs (n:Int) (by omega)
 rwa[Int.toNat_natCast]at this
theorem cut600 {α:Type} (xs:List α):cut xs 0 (if(600:Int)<(xs.length:Int)then(600:Int)else(xs.length:Int))=some (xs.take 600):=cutn xs 600
theorem cut300 {α:Type} (xs:List α):cut xs 0 (if(300:Int)<(xs.length:Int)then(300:Int)else(xs.length:Int))=some (xs.take 300):=cutn xs 300
theorem cut200 {α:Type} (xs:List α):cut xs 0 (if(200:Int)<(xs.length:Int)then(200:Int)else(xs.length:Int))=some (xs.take 200):=cutn xs 200
theorem cut40 {α:Type} (xs:List α):cut xs 0 (if(40:Int)<(xs.length:Int)then(40:Int)else(xs.length:Int))=some (xs.take 40):=cutn xs 40
theorem cut10 {α:Type} (xs:List α):cut xs 0 (if(10:Int)<(xs.length:Int)then(10:Int)else(xs.length:Int))=some (xs.take 10):=cutn xs 10
theorem cut20 {α:Type} (xs:List α):cut xs 0 (if(20:Int)<(xs.length:Int)then(20:Int)else(xs.length:Int))=some (xs.take 20):=cutn xs 20
theorem r8x0 (a1:Int) (a2:Int) (a3:Int) (a4:Int) (a5:Int) (xs:List Outward) (ai:List Taking) (ac:List Closed) (z1:Int) (z2:Int) (z3:Int) (z4:Int) (z5:Int) (n i:Nat) (hn:i<n) (h:i<xs.length) (hb:i<1000000):g8x0 ((n:Int),(i:Int),a1,a2,a3,a4,a5,xs,ai,ac,z1,z2,z3,z4,z5)=some (.inl ((n:Int),((i+1:Nat):Int),a1,a2,a3,a4,a5,xs.set i (shO xs[i]),ai,ac,z1,z2,z3,z4,z5)):=by
 have hd:decide ((i:Int)<(n:Int))=true:=decide_eq_true (by omega)
 simp only[g8x0,hd,if_true,chkI_some (show(0:Int)<=(i:Int)∧(i:Int)<(xs.length:Int)from⟨by omega,by omega⟩),idx_some' h,Option.bind_some,cut600,cut300,cut200,cut40,Int.toNat_natCast,idx_set h,List.set_set,List.length_set,eqI_self]
 rw[<-wnext (show i<1000000000000 by omega)]
 rfl
theorem r8x1 (a1:Int) (a2:Int) (a3:Int) (a4:Int) (a5:Int) (ao:List Outward) (xs:List Taking) (ac:List Closed) (z1:Int) (z2:Int) (z3:Int) (z4:Int) (z5:Int) (n i:Nat) (hn:i<n) (h:i<xs.length) (hb:i<1000000):g8x1 ((n:Int),(i:Int),a1,a2,a3,a4,a5,ao,xs,ac,z1,z2,z3,z4,z5)=some (.inl ((n:Int),((i+1:Nat):Int),a1,a2,a3,a4,a5,ao,xs.set i (shI xs[i]),ac,z1,z2,z3,z4,z5)):=by
 have hd:decide ((i:Int)<(n:Int))=true:=decide_eq_true (by omega)
 simp only[g8x1,hd,if_true,chkI_some (show(0:Int)<=(i:Int)∧(i:Int)<(xs.length:Int)from⟨by omega,by omega⟩),idx_some' h,Option.bind_some,cut600,cut300,cut200,cut40,Int.toNat_natCast,idx_set h,List.set_set,List.length_set,eqI_self]
 rw[<-wnext (show i<1000000000000 by omega)]
 rfl
def half {α:Type} (f:α->α) (ys:List α) (i:Nat):List α:=(ys.take i).map f++ys.drop i
theorem half_len {α:Type} {f:α->α} {ys:List α} {i:Nat}:(half f ys i).length=ys.length:=by simp[half];omega
theorem half_get {α:Type} {f:α->α} {ys:List α} {i:Nat} (h:i<ys.length) (h':i<(half f ys i).length):(half f ys i)[i]=ys[i]:=by
 have e:((ys.take i).map f).length=i:=by simp;omega
 simp only[half]
 rw[List.getElem_append_right (by omega)]
 simp[Nat.min_eq_left (Nat.le_of_lt h)]
theorem half_set {α:Type} {f:α->α} {ys:List α} {i:Nat} (h:i<ys.length):(half f ys i).set i (f ys[i])=half f ys (i+1):=by
 have e:((ys.take i).map f).length=i:=by simp;omega
 have ht:ys.take (i+1)=ys.take i++[ys[i]]:=by rw[List.take_add_one];simp[h]
 unfold half
 rw[List.set_append_right _ _ (by omega),e,Nat.sub_self,drop_cons' h,ht,List.map_append]
 simp
 rw[drop_cons' h]
 rfl
theorem l8x0 (a1:Int) (a2:Int) (a3:Int) (a4:Int) (a5:Int) (ai:List Taking) (ac:List Closed) (z1:Int) (z2:Int) (z3:Int) (z4:Int) (z5:Int) (x:List Outward) (hb:x.length<1000000):∀k i,i+k=x.length->lpU g8x0 ((x.length:Int),(i:Int),a1,a2,a3,a4,a5,half shO x i,ai,ac,z1,z2,z3,z4,z5)=some (a1,a2,a3,a4,a5,x.map shO,ai,ac,z1,z2,z3,z4,z5)
 |0,i,hi=>by
  have hd:decide ((i:Int)<(x.length:Int))=false:=decide_eq_false (by omega)
  rw[lp_end (x:=(a1,a2,a3,a4,a5,half shO x i,ai,ac,z1,z2,z3,z4,z5)) (by simp only[g8x0,hd,Bool.false_eq_true,if_false])]
  rw[half,List.take_of_length_le (by omega),List.drop_of_length_le (by omega),List.append_nil]
 |k+1,i,hi=>by
  have h1:i<x.length:=by omega
  have h2:i<(half shO x i).length:=by rw[half_len];exact h1
  have hr:=r8x0 a1 a2 a3 a4 a5 (half shO x i) ai ac z1 z2 z3 z4 z5 x.length i h1 h2 (by omega)
  rw[half_get h1,half_set h1]at hr
  rw[lp_next hr,l8x0 a1 a2 a3 a4 a5 ai ac z1 z2 z3 z4 z5 x hb k (i+1) (by omega)]
theorem l8x1 (a1:Int) (a2:Int) (a3:Int) (a4:Int) (a5:Int) (ao:List Outward) (ac:List Closed) (z1:Int) (z2:Int) (z3:Int) (z4:Int) (z5:Int) (x:List Taking) (hb:x.length<1000000):∀k i,i+k=x.length->lpU g8x1 ((x.length:Int),(i:Int),a1,a2,a3,a4,a5,ao,half shI x i,ac,z1,z2,z3,z4,z5)=some (a1,a2,a3,a4,a5,ao,x.map shI,ac,z1,z2,z3,z4,z5)
 |0,i,hi=>by
  have hd:decide ((i:Int)<(x.length:Int))=false:=decide_eq_false (by omega)
  rw[lp_end (x:=(a1,a2,a3,a4,a5,ao,half shI x i,ac,z1,z2,z3,z4,z5)) (by simp only[g8x1,hd,Bool.false_eq_true,if_false])]
  rw[half,List.take_of_length_le (by omega),List.drop_of_length_le (by omega),List.append_nil]
 |k+1,i,hi=>by
  have h1:i<x.length:=by omega
  have h2:i<(half shI x i).length:=by rw[half_len];exact h1
  have hr:=r8x1 a1 a2 a3 a4 a5 ao (half shI x i) ac z1 z2 z3 z4 z5 x.length i h1 h2 (by omega)
  rw[half_get h1,half_set h1]at hr
  rw[lp_next hr,l8x1 a1 a2 a3 a4 a5 ao ac z1 z2 z3 z4 z5 x hb k (i+1) (by omega)]
def shL (x:Ltp):Ltp:=(x.1,x.2.1,x.2.2.1,x.2.2.2.1,x.2.2.2.2.1,(x.2.2.2.2.2.1.take 10).map shO,(x.2.2.2.2.2.2.1.take 10).map shI,x.2.2.2.2.2.2.2.take 20)
theorem w8 (x:Ltp) (ho:∀o∈x.2.2.2.2.2.1,CpG o.2) (ht:∀t∈x.2.2.2.2.2.2.1,CpT t):g8 x=some (shL x):=by
 obtain⟨a1,a2,a3,a4,a5,ao,ai,ac⟩:=x
 simp only at ho ht
 have hc:=w20 (a1,a2,a3,a4,a5,ao.take 10,ai.take 10,ac.take 20) ⟨by simp;omega,by simp;omega,by simp;omega,fun o h=>ho o (List.mem_of_mem_take h),fun o h=>ht o (List.mem_of_mem_take h)⟩
 have k0:=l8x0 a1 a2 a3 a4 a5 (ai.take 10) (ac.take 20) 0 0 0 0 0 (ao.take 10) (by simp;omega) (ao.take 10).length 0 (by omega)
 have k1:=l8x1 a1 a2 a3 a4 a5 ((ao.take 10).map shO) (ac.take 20) 0 0 0 0 0 (ai.take 10) (by simp;omega) (ai.take 10).length 0 (by omega)
 have e0:half shO (ao.take 10) 0=ao.take 10:=rfl
 have e1:half shI (ai.take 10) 0=ai.take 10:=rfl
 rw[show((0:Nat):Int)=(0:Int)from rfl,e0]at k0
 rw[show((0:Nat):Int)=(0:Int)from rfl,e1]at k1
 unfold g8
 simp only[cut10,cut20,Option.bind_some,hc,eqI_self,k0,k1]
 rfl
theorem sm_sh (x:Ltp) (ho:∀o∈x.2.2.2.2.2.1,CpG o.2):SmL (shL x):=by
 refine⟨?_,?_,?_,fun o h=>?_,fun t h=>?_⟩
 ·simp only[shL,List.length_map,List.length_take];omega
 ·simp only[shL,List.length_map,List.length_take];omega
 ·simp only[shL,List.length_take];omega
 ·obtain⟨q,hq,rfl⟩:=List.mem_map.1 h
  have hc:=(ho q (List.mem_of_mem_take hq)).c
  refine⟨?_,?_,?_,?_,?_⟩
  ·simp only[shO,List.length_take];omega
  ·simp only[shO,List.length_take];omega
  ·simp only[shO,List.length_take];omega
  ·simp only[shO,List.length_take];omega
  ·simp only[shO];omega
 ·obtain⟨q,hq,rfl⟩:=List.mem_map.1 h
  refine⟨?_,?_⟩
  ·simp only[shI,List.length_take];omega
  ·simp only[shI,List.length_take];omega
theorem cp_sh (x:Ltp) (ho:∀o∈x.2.2.2.2.2.1,CpG o.2):CpL (shL x):=by
 refine⟨?_,?_,?_,fun o h=>?_,fun t h=>?_⟩
 ·simp only[shL,List.length_map,List.length_take];omega
 ·simp only[shL,List.length_map,List.length_take];omega
 ·simp only[shL,List.length_take];omega
 ·obtain⟨q,hq,rfl⟩:=List.mem_map.1 h
  have hc:=(ho q (List.mem_of_mem_take hq)).c
  refine⟨?_,?_,?_,?_,?_⟩
  ·simp only[shO,List.length_take];omega
  ·simp only[shO,List.length_take];omega
  ·simp only[shO,List.length_take];omega
  ·simp only[shO,List.length_take];omega
  ·simp only[shO];omega
 ·obtain⟨q,hq,rfl⟩:=List.mem_map.1 h
  refine⟨?_,?_⟩
  ·simp only[shI,List.length_take];omega
  ·simp only[shI,List.length_take];omega
end Go.Proofs.Ytfopbiiffiickaa.Ev.U
set_option maxRecDepth 4000
namespace Go.Proofs.Ytfopbiiffiickaa.Ev.U
open Go
theorem w78 (x:Start):h78 x=h70 x:=by
 rw[Bool.eq_iff_iff]
 simp only[h78,h70,if_andf]
 simp only[w82,inB,Bool.and_eq_true,decide_eq_true_eq,ge_iff_le,gt_iff_lt]
 constructor<;>intro h<;>omega
theorem bad79 {n e:Int} {c:Claim} (hn:1<=n∧n<=512) (he: -1<=e):(if(if(if(if(decide (c.2<(1:Int)))=true then true else(decide (c.2>n)))=true then true else(decide (c.1<=e)))=true then true else(decide (c.1>n)))=true then true else(decide ((IntKind.i64.wrap (c.1+c.2))>n)))= !decide (0<c.2∧e<c.1∧c.1+c.2<=n):=by
 rw[Bool.eq_iff_iff]
 simp only[ite_or]
 simp only[Bool.or_eq_true,decide_eq_true_eq,Bool.not_eq_true',decide_eq_false_iff_not]
 by_cases g:1<=c.2∧c.2<=n∧e<c.1∧c.1<=n
 ·rw[wi64 (n:=c.1+c.2) ⟨by omega,by omega⟩]
  constructor<;>intro h<;>omega
 ·constructor<;>intro h<;>omega
theorem l79 (n:Int) (l:List Claim) (hb:l.length<10000000000000) (hn:1<=n∧n<=512):∀(k i:Nat) (e:Int),i+k=l.length-> -1<=e->lpU g79x0 (n,e,l,(l.length:Int),(i:Int))=some (if chain n e (l.drop i)=true then .inl ()else .inr false)
 |0,i,e,hi,he=>by
  have hd:decide ((i:Int)<(l.length:Int))=false:=decide_eq_false (by omega)
  rw[lp_end (x:=.inl ()) (by simp only[g79x0,hd,Bool.false_eq_true,if_false])]
  rw[List.drop_of_length_le (by omega)];rfl
 |k+1,i,e,hi,he=>by
  have hd:decide ((i:Int)<(l.length:Int))=true:=decide_eq_true (by omega)
  have h1:i<l.length:=by omega
  have hbad:=bad79 (c:=l[i]) hn he
  have hr:g79x0 (n,e,l,(l.length:Int),(i:Int))=if(!decide (0<l[i].2∧e<l[i].1∧l[i].1+l[i].2<=n))=true then some (Sum.inr (Sum.inr false))else some (Sum.inl (n,IntKind.i64.wrap (l[i].1+l[i].2),l,(l.length:Int),IntKind.i64.wrap ((i:Int)+1))):=by
   simp only[g79x0,hd,if_true,idx_some' h1,Option.bind_some,hbad]
  rw[drop_cons' h1]
  by_cases hB:0<l[i].2∧e<l[i].1∧l[i].1+l[i].2<=n
  ·rw[decide_eq_true hB]at hr
   have hc:chain n e (l[i]::l.drop (i+1))=chain n (l[i].1+l[i].2) (l.drop (i+1)):=by
    rw[Bool.eq_iff_iff,chain_cons]
    exact⟨fun h=>h.2.2.2,fun h=>⟨hB.1,hB.2.1,hB.2.2,h⟩⟩
   rw[lp_next (s':=(n,l[i].1+l[i].2,l,(l.length:Int),((i+1:Nat):Int))) (by rw[hr,wi64 (n:=l[i].1+l[i].2) ⟨by omega,by omega⟩,wnext' (show i<1000000000000000 by omega)];rfl),l79 n l hb hn k (i+1) _ (by omega) (by omega),hc]
  ·rw[decide_eq_false hB]at hr
   have hc:chain n e (l[i]::l.drop (i+1))=false:=by
    rw[Bool.eq_false_iff]
    intro h
    have:=chain_cons.1 h
    exact hB ⟨this.1,this.2.1,this.2.2.1⟩
   rw[lp_end (x:=.inr false) (by rw[hr];rfl),hc];rfl
theorem w79 (l:List Claim) (n:Int) (hb:l.length<10000000000000) (hn:1<=n∧n<=512):g79 l n=some (chain n (-1) l):=by
 unfold g79
 rw[show(0:Int)=((0:Nat):Int)from rfl,l79 n l hb hn l.length 0 (-1) (by omega) (by omega),List.drop_zero]
 cases chain n (-1) l<;>rfl
theorem l30 (a1:Int) (a2:Int) (a3:List Int) (a4:Int) (a5:Int) (a6:Int) (a7:List Claim) (a8:Int) (a9:Int) (a10:Int) (a11:Int) (a12:Int) (a13:Int) (a14:Int) (a15:Int) (a16:Int) (a17:Int) (a18:Bool) (a19:List Int) (a20:List Claim) (a21:Int) (a22:Int) (a23:List Int) (a24:Int) (x:List Int) (hb:x.length<10000000000000):∀(k i:Nat),i+k=x.length->lpU g30x0 (x,(x.length:Int),(i:Int),a1,a2,a3,a4,a5,a6,a7,a8,a9,a10,a11,a12,a13,a14,a15,a16,a17,a18,a19,a20,a21,a22,a23,a24)=some (if(0:Int)∈x.drop i then .inr false else .inl (a1,a2,a3,a4,a5,a6,a7,a8,a9,a10,a11,a12,a13,a14,a15,a16,a17,a18,a19,a20,a21,a22,a23,a24))
 |0,i,hi=>by
  have hd:decide ((i:Int)<(x.length:Int))=false:=decide_eq_false (by omega)
  rw[lp_end (x:=.inl (a1,a2,a3,a4,a5,a6,a7,a8,a9,a10,a11,a12,a13,a14,a15,a16,a17,a18,a19,a20,a21,a22,a23,a24)) (by simp only[g30x0,hd,Bool.false_eq_true,if_false])]
  rw[List.drop_of_length_le (by omega)];simp
 |k+1,i,hi=>by
  have hd:decide ((i:Int)<(x.length:Int))=true:=decide_eq_true (by omega)
  have h1:i<x.length:=by omega
  have hr:g30x0 (x,(x.length:Int),(i:Int),a1,a2,a3,a4,a5,a6,a7,a8,a9,a10,a11,a12,a13,a14,a15,a16,a17,a18,a19,a20,a21,a22,a23,a24)=if(x[i]==0)=true then some (Sum.inr (Sum.inr false))else some (Sum.inl (x,(x.length:Int),IntKind.i64.wrap ((i:Int)+1),a1,a2,a3,a4,a5,a6,a7,a8,a9,a10,a11,a12,a13,a14,a15,a16,a17,a18,a19,a20,a21,a22,a23,a24)):=by
   simp only[g30x0,hd,if_true,idx_some' h1,Option.bind_some]
  rw[drop_cons' h1]
  by_cases e:x[i]=0
  ·rw[lp_end (x:=.inr false) (by rw[hr,e];rfl),if_pos (by rw[e];simp)]
  ·have e':(x[i]==0)=false:=by simpa using e
   rw[lp_next (s':=(x,(x.length:Int),((i+1:Nat):Int),a1,a2,a3,a4,a5,a6,a7,a8,a9,a10,a11,a12,a13,a14,a15,a16,a17,a18,a19,a20,a21,a22,a23,a24)) (by rw[hr,e',wnext' (show i<1000000000000000 by omega)];rfl),l30 a1 a2 a3 a4 a5 a6 a7 a8 a9 a10 a11 a12 a13 a14 a15 a16 a17 a18 a19 a20 a21 a22 a23 a24 x hb k (i+1) (by omega)]
   have hm:(0:Int)∈x[i]::x.drop (i+1)↔(0:Int)∈x.drop (i+1):=by
    rw[List.mem_cons]
    exact⟨fun h=>h.resolve_left fun q=>e q.symm,.inr⟩
   by_cases hq:(0:Int)∈x.drop (i+1)
   ·rw[if_pos hq,if_pos (hm.2 hq)]
   ·rw[if_neg hq,if_neg fun h=>hq (hm.1 h)]
theorem w30 (a:Sending) (h:SmG a) (h0:0<=a.2.2.2.2.2.2.2.2.2.1):g30 a=some (rightG a):=by
 have hb:=h.b
 have hg:=h.g
 have hs:=h.s
 have hd:=h.d
 have hc:=h.c
 obtain⟨a1,a2,a3,a4,a5,a6,a7,a8,a9,a10,a11,a12,a13,a14,a15,a16,a17,a18,a19,a20,a21,a22,a23,a24⟩:=a
 simp only at hb hg hs hd hc h0
 show g30 _=some (h70 (a1,a2,a3,a4,a5)&&(inB a6 1 4&&(chain (a3.length:Int) (-1) a7&&(segOk (a8,a9,a10,a11,a12,a13,a14,a15,a16,a17,a18,a19,a20)&&(a8==1&&(a18&&(a9==a1&&(a10==a2&&(a14==(a3.length:Int)&&(decide (a19=(a3.drop a13.toNat).take a19.length)&&(inB a21 0 1114112&&(inB a22 0 a5&&(!decide ((a23.length:Int)>32)&&(!decide ((0:Int)∈a23)&&inB a24 0 255))))))))))))))
 unfold g30
 have e6:(if(if(!(h78 (a1,a2,a3,a4,a5)))=true then true else(decide (a6<(1:Int))))=true then true else(decide (a6>(4:Int))))= !(h70 (a1,a2,a3,a4,a5)&&inB a6 1 4):=by
  rw[w78]
  cases h70 (a1,a2,a3,a4,a5)with
  |false=>rfl
  |true=>
   rw[Bool.eq_iff_iff]
   simp only[ite_or]
   simp only[inB,Bool.or_eq_true,decide_eq_true_eq,Bool.not_true,Bool.false_eq_true,false_or,Bool.true_and,Bool.not_eq_true',Bool.and_eq_false_iff,decide_eq_false_iff_not]
   constructor<;>intro h<;>omega
 simp only[e6]
 cases q1:h70 (a1,a2,a3,a4,a5)with
 |false=>rfl
 |true=>
 cases q2:inB a6 1 4 with
 |false=>rfl
 |true=>
 have hl:1<=(a3.length:Int)∧(a3.length:Int)<=512:=by
  simp only[h70,if_andf]at q1
  simp only[w82,inB,Bool.and_eq_true,decide_eq_true_eq]at q1
  omega
 simp only[Bool.and_self,Bool.not_true,Bool.not_false,if_true,Bool.false_eq_true,if_false,w79 a7 (a3.length:Int) (by omega) hl,Option.bind_some,Bool.true_and]
 cases q3:chain (a3.length:Int) (-1) a7 with
 |false=>rfl
 |true=>
 simp only[Bool.not_true,Bool.false_eq_true,if_false,w80 (a8,a9,a10,a11,a12,a13,a14,a15,a16,a17,a18,a19,a20) ⟨hd,hc⟩ h0,Option.bind_some,Bool.true_and]
 cases q4:segOk (a8,a9,a10,a11,a12,a13,a14,a15,a16,a17,a18,a19,a20)with
 |false=>rfl
 |true=>
 cases q5:(a8==1)with
 |false=>
  have:(a8 !=1)=true:=by rw[bne,q5];rfl
  simp only[Bool.not_true,Bool.false_eq_true,if_false,if_true,Option.bind_some,this,Bool.false_and,Bool.and_false]
 |true=>
 have q5':(a8 !=1)=false:=by rw[bne,q5];rfl
 cases a18 with
 |false=>simp only[Bool.not_true,Bool.not_false,Bool.false_eq_true,if_false,if_true,Option.bind_some,q5',Bool.false_and,Bool.and_false]
 |true=>
 cases q6:(a9==a1)with
 |false=>
  have:(a9 !=a1)=true:=by rw[bne,q6];rfl
  simp only[Bool.not_true,Bool.not_false,Bool.false_eq_true,if_false,if_true,Option.bind_some,q5',this,Bool.false_and,Bool.and_false]
 |true=>
 have q6':(a9 !=a1)=false:=by rw[bne,q6];rfl
 cases q7:(a10==a2)with
 |false=>
  have:(a10 !=a2)=true:=by rw[bne,q7];rfl
  simp only[Bool.not_true,Bool.not_false,Bool.false_eq_true,if_false,if_true,Option.bind_some,q5',q6',this,Bool.false_and,Bool.and_false]
 |true=>
 have q7':(a10 !=a2)=false:=by rw[bne,q7];rfl
 cases q8:(a14==(a3.length:Int))with
 |false=>
  have:(a14 !=(a3.length:Int))=true:=by rw[bne,q8];rfl
  simp only[Bool.not_true,Bool.not_false,Bool.false_eq_true,if_false,if_true,Option.bind_some,q5',q6',q7',this,Bool.false_and,Bool.and_false]
 |true=>
 have q8':(a14 !=(a3.length:Int))=false:=by rw[bne,q8];rfl
 have e8:a8=1:=by simpa using q5
 have e14:a14=(a3.length:Int):=by simpa using q8
 have hoff:0<=a13∧a13<=a14-(a19.length:Int):=by
  have h1:=q4
  simp only[segOk,Bool.and_eq_true]at h1
  replace h1:=h1.1.2
  unfold kindB at h1
  rw[if_pos e8]at h1
  simp only[Bool.and_eq_true,inB,decide_eq_true_eq]at h1
  exact h1.1.2
 simp only[Bool.not_true,Bool.not_false,Bool.false_eq_true,if_false,if_true,Option.bind_some,q5',q6',q7',q8',Bool.true_and]
 rw[wi64 (n:=a13+(a19.length:Int)) ⟨by omega,by omega⟩,cut_ok ⟨hoff.1,by omega,by omega⟩,Option.bind_some]
 have ed:(a3.take (a13+(a19.length:Int)).toNat).drop a13.toNat=(a3.drop a13.toNat).take a19.length:=by
  rw[List.drop_take];congr 1;omega
 rw[ed]
 cases q9:decide (a19=(a3.drop a13.toNat).take a19.length)with
 |false=>rfl
 |true=>
 have k30:=l30 a1 a2 a3 a4 a5 a6 a7 a8 a9 a10 a11 a12 a13 a14 a15 a16 a17 true a19 a20 a21 a22 a23 a24 a23 (by omega) a23.length 0 (by omega)
 rw[show((0:Nat):Int)=(0:Int)from rfl,List.drop_zero]at k30
 simp only[Bool.not_true,Bool.false_eq_true,if_false,k30,Option.bind_some,Bool.true_and]
 by_cases hm:(0:Int)∈a23
 ·simp only[if_pos hm,decide_eq_true hm,Bool.not_true,Bool.false_and,Bool.and_false]
 ·simp only[if_neg hm,decide_eq_false hm,Bool.not_false,Bool.true_and]
  congr 1
  rw[Bool.eq_iff_iff]
  simp only[if_andf]
  simp only[inB,Bool.and_eq_true,decide_eq_true_eq,ge_iff_le,Bool.not_eq_true',decide_eq_false_iff_not]
  constructor<;>intro h<;>omega
end Go.Proofs.Ytfopbiiffiickaa.Ev.U
set_option maxRecDepth 4000
namespace Go.Proofs.Ytfopbiiffiickaa.Ev.U
open Go
noncomputable def outB (x:Ltp) (o:Outward):Bool:=rightG o.2&&(o.2.2.2.2.2.2.1==1||o.2.2.2.2.2.2.1==3)&&(o.2.1==x.1)&&(o.2.2.2.2.1==x.2.1)&&(o.2.2.2.2.2.1==x.2.2.1)&&h28 o.1&& !(o.1==x.1)
noncomputable def inB' (x:Ltp) (t:Taking):Bool:=rightB t&&(t.2.2.2.2.2.2.1==1)&&(t.2.2.2.2.2.2.2.1==x.2.2.2.1)&& !(t.1==x.1)
noncomputable def cloB (x:Ltp) (c:Closed):Bool:=h28 c.1&& !(c.1==x.1)&& !(c.2.1==0)&& !decide (c.2.2.1<1)&& !decide (c.2.2.1>512)
noncomputable def outF (x:Ltp):List Outward->List Outward->Bool
 |_,[]=>true
 |pre,o::r=>outB x o&&(!pre.any (fun p=>p.2.2.1==o.2.2.1)&&outF x (pre++[o]) r)
def keyT (t:Taking):Int×Int:=(t.1,t.2.1)
def keyC (c:Closed):Int×Int:=(c.1,c.2.1)
def onceB (x:Ltp):Bool:= !(twI (x.2.2.2.2.2.2.1.map keyT++x.2.2.2.2.2.2.2.map keyC) []).1
noncomputable def topB (x:Ltp):Bool:=h28 x.1&&h29 (x.2.1,x.2.2.1,x.2.2.2.1)&& !(x.2.2.2.2.1==0)&& !decide ((x.2.2.2.2.2.1.length:Int)>8)&& !decide ((x.2.2.2.2.2.2.1.length:Int)>8)&& !decide ((x.2.2.2.2.2.2.2.length:Int)>16)
noncomputable def rightL (x:Ltp):Bool:=topB x&&(outF x [] x.2.2.2.2.2.1&&(x.2.2.2.2.2.2.1.all (inB' x)&&(x.2.2.2.2.2.2.2.all (cloB x)&&onceB x)))
theorem c10o (y e1 e3 a b c d e:Bool):(if(if(if(if(if(if(!y)=true then true else(if(!e1)=true then(!e3)else false))=true then true else !a)=true then true else !b)=true then true else !c)=true then true else !d)=true then true else e)= !(y&&(e1||e3)&&a&&b&&c&&d&& !e):=by cases y<;>cases e1<;>cases e3<;>cases a<;>cases b<;>cases c<;>cases d<;>cases e<;>rfl
theorem c10i (y a b e:Bool):(if(if(if(!y)=true then true else !a)=true then true else !b)=true then true else e)= !(y&&a&&b&& !e):=by cases y<;>cases a<;>cases b<;>cases e<;>rfl
theorem c10c (y a b c d:Bool):(if(if(if(if(!y)=true then true else a)=true then true else b)=true then true else c)=true then true else d)= !(y&& !a&& !b&& !c&& !d):=by cases y<;>cases a<;>cases b<;>cases c<;>cases d<;>rfl
theorem c10t (y z a b c d:Bool):(if(if(if(if(if(!y)=true then true else !z)=true then true else a)=true then true else b)=true then true else c)=true then true else d)= !(y&&z&& !a&& !b&& !c&& !d):=by cases y<;>cases z<;>cases a<;>cases b<;>cases c<;>cases d<;>rfl
theorem l10x0 (out:List Outward) (n i:Int) (y1 y2 y3 y4 y5:Int) (yo:List Outward) (yi:List Taking) (yc:List Closed) (a1:Int) (a2:Int) (a3:List Int) (a4:Int) (a5:Int) (a6:Int) (a7:List Claim) (a8:Int) (a9:Int) (a10:Int) (a11:Int) (a12:Int) (a13:Int) (a14:Int) (a15:Int) (a16:Int) (a17:Int) (a18:Bool) (a19:List Int) (a20:List Claim) (a21:Int) (a22:Int) (a23:List Int) (a24:Int) (x:List Outward) (hb:x.length<1000000):∀(k j:Nat),j+k=x.length->lpU g10x0 (out,n,i,x,(x.length:Int),(j:Int),y1,y2,y3,y4,y5,yo,yi,yc,a1,a2,a3,a4,a5,a6,a7,a8,a9,a10,a11,a12,a13,a14,a15,a16,a17,a18,a19,a20,a21,a22,a23,a24)=some (if(x.drop j).any (fun p=>p.2.2.1==a2)=true then .inr false else .inl (out,n,i,y1,y2,y3,y4,y5,yo,yi,yc))
 |0,j,hi=>by
  have hd:decide ((j:Int)<(x.length:Int))=false:=decide_eq_false (by omega)
  rw[lp_end (x:=.inl (out,n,i,y1,y2,y3,y4,y5,yo,yi,yc)) (by simp only[g10x0,hd,Bool.false_eq_true,if_false])]
  rw[List.drop_of_length_le (by omega)];rfl
 |k+1,j,hi=>by
  have hd:decide ((j:Int)<(x.length:Int))=true:=decide_eq_true (by omega)
  have h1:j<x.length:=by omega
  have hr:g10x0 (out,n,i,x,(x.length:Int),(j:Int),y1,y2,y3,y4,y5,yo,yi,yc,a1,a2,a3,a4,a5,a6,a7,a8,a9,a10,a11,a12,a13,a14,a15,a16,a17,a18,a19,a20,a21,a22,a23,a24)=if(x[j].2.2.1==a2)=true then some (Sum.inr (Sum.inr false))else some (Sum.inl (out,n,i,x,(x.length:Int),IntKind.i64.wrap ((j:Int)+1),y1,y2,y3,y4,y5,yo,yi,yc,a1,a2,a3,a4,a5,a6,a7,a8,a9,a10,a11,a12,a13,a14,a15,a16,a17,a18,a19,a20,a21,a22,a23,a24)):=by
   simp only[g10x0,hd,if_true,idx_some' h1,Option.bind_some]
  rw[drop_cons' h1,List.any_cons]
  cases e:(x[j].2.2.1==a2)with
  |true=>rw[lp_end (x:=.inr false) (by rw[hr,e];rfl)];rfl
  |false=>
   rw[lp_next (s':=(out,n,i,x,(x.length:Int),((j+1:Nat):Int),y1,y2,y3,y4,y5,yo,yi,yc,a1,a2,a3,a4,a5,a6,a7,a8,a9,a10,a11,a12,a13,a14,a15,a16,a17,a18,a19,a20,a21,a22,a23,a24)) (by rw[hr,e,wnext' (show j<1000000000000000 by omega)];rfl),l10x0 out n i y1 y2 y3 y4 y5 yo yi yc a1 a2 a3 a4 a5 a6 a7 a8 a9 a10 a11 a12 a13 a14 a15 a16 a17 a18 a19 a20 a21 a22 a23 a24 x hb k (j+1) (by omega),Bool.false_or]
structure RiL (x:Ltp):Prop where
 s:SmL x
 os:∀o∈x.2.2.2.2.2.1,0<=o.2.2.2.2.2.2.2.2.2.2.1
 ts:∀t∈x.2.2.2.2.2.2.1,0<=t.2.1
theorem l10x1 (y1 y2 y3 y4 y5:Int) (x:List Outward) (yi:List Taking) (yc:List Closed) (hb:x.length<1000000) (hg:∀o∈x,SmG o.2) (hs:∀o∈x,0<=o.2.2.2.2.2.2.2.2.2.2.1):∀(k i:Nat),i+k=x.length->lpU g10x1 (x,(x.length:Int),(i:Int),y1,y2,y3,y4,y5,x,yi,yc)=some (if outF (y1,y2,y3,y4,y5,x,yi,yc) (x.take i) (x.drop i)=true then .inl (y1,y2,y3,y4,y5,x,yi,yc)else .inr false)
 |0,i,hi=>by
  have hd:decide ((i:Int)<(x.length:Int))=false:=decide_eq_false (by omega)
  rw[lp_end (x:=.inl (y1,y2,y3,y4,y5,x,yi,yc)) (by simp only[g10x1,hd,Bool.false_eq_true,if_false])]
  rw[List.drop_of_length_le (by omega)];simp only[outF,if_true]
 |k+1,i,hi=>by
  have hd:decide ((i:Int)<(x.length:Int))=true:=decide_eq_true (by omega)
  have h1:i<x.length:=by omega
  have hm:=List.getElem_mem h1
  have hw:=w30 x[i].2 (hg _ hm) (hs _ hm)
  have hc:=c10o (rightG x[i].2) (x[i].2.2.2.2.2.2.1==1) (x[i].2.2.2.2.2.2.1==3) (x[i].2.1==y1) (x[i].2.2.2.2.1==y2) (x[i].2.2.2.2.2.1==y3) (h28 x[i].1) (x[i].1==y1)
  have hcut:cut x 0 (i:Int)=some (x.take i):=by rw[cut_ok ⟨by omega,by omega,by omega⟩];simp
  have hl:((x.take i).length:Int)=(i:Int):=by simp;omega
  have ht:x.take (i+1)=x.take i++[x[i]]:=by rw[List.take_add_one];simp[h1]
  have k0:=l10x0 x (x.length:Int) (i:Int) y1 y2 y3 y4 y5 x yi yc (x[i].2.1) (x[i].2.2.1) (x[i].2.2.2.1) (x[i].2.2.2.2.1) (x[i].2.2.2.2.2.1) (x[i].2.2.2.2.2.2.1) (x[i].2.2.2.2.2.2.2.1) (x[i].2.2.2.2.2.2.2.2.1) (x[i].2.2.2.2.2.2.2.2.2.1) (x[i].2.2.2.2.2.2.2.2.2.2.1) (x[i].2.2.2.2.2.2.2.2.2.2.2.1) (x[i].2.2.2.2.2.2.2.2.2.2.2.2.1) (x[i].2.2.2.2.2.2.2.2.2.2.2.2.2.1) (x[i].2.2.2.2.2.2.2.2.2.2.2.2.2.2.1) (x[i].2.2.2.2.2.2.2.2.2.2.2.2.2.2.2.1) (x[i].2.2.2.2.2.2.2.2.2.2.2.2.2.2.2.2.1) (x[i].2.2.2.2.2.2.2.2.2.2.2.2.2.2.2.2.2.1) (x[i].2.2.2.2.2.2.2.2.2.2.2.2.2.2.2.2.2.2.1) (x[i].2.2.2.2.2.2.2.2.2.2.2.2.2.2.2.2.2.2.2.1) (x[i].2.2.2.2.2.2.2.2.2.2.2.2.2.2.2.2.2.2.2.2.1) (x[i].2.2.2.2.2.2.2.2.2.2.2.2.2.2.2.2.2.2.2.2.2.1) (x[i].2.2.2.2.2.2.2.2.2.2.2.2.2.2.2.2.2.2.2.2.2.2.1) (x[i].2.2.2.2.2.2.2.2.2.2.2.2.2.2.2.2.2.2.2.2.2.2.2.1) (x[i].2.2.2.2.2.2.2.2.2.2.2.2.2.2.2.2.2.2.2.2.2.2.2.2) (x.take i) (by simp;omega) (x.take i).length 0 (by omega)
  rw[show((0:Nat):Int)=(0:Int)from rfl,List.drop_zero]at k0
  have hr:g10x1 (x,(x.length:Int),(i:Int),y1,y2,y3,y4,y5,x,yi,yc)=if(!outB (y1,y2,y3,y4,y5,x,yi,yc) x[i])=true then some (Sum.inr (Sum.inr false))else if(x.take i).any (fun p=>p.2.2.1==x[i].2.2.1)=true then some (Sum.inr (Sum.inr false))else some (Sum.inl (x,(x.length:Int),IntKind.i64.wrap ((i:Int)+1),y1,y2,y3,y4,y5,x,yi,yc)):=by
   simp only[g10x1,hd,if_true,idx_some' h1,Option.bind_some,hw,hcut]
   refine(congrArg (fun(b:Bool)=>if b=true then _ else _) hc).trans ?_
   show(if(!outB (y1,y2,y3,y4,y5,x,yi,yc) x[i])=true then _ else _)=_
   cases outB (y1,y2,y3,y4,y5,x,yi,yc) x[i]with
   |false=>rfl
   |true=>
    simp only[Bool.not_true,Bool.false_eq_true,if_false]
    refine(congrArg (fun q=>Option.bind q _) k0).trans ?_
    cases(x.take i).any (fun p=>p.2.2.1==x[i].2.2.1)<;>rfl
  rw[drop_cons' h1]
  cases e:outB (y1,y2,y3,y4,y5,x,yi,yc) x[i]with
  |false=>rw[lp_end (x:=.inr false) (by rw[hr,e];rfl)];simp only[outF,e,Bool.false_and,Bool.false_eq_true,if_false]
  |true=>
   cases e2:(x.take i).any (fun p=>p.2.2.1==x[i].2.2.1)with
   |true=>rw[lp_end (x:=.inr false) (by rw[hr,e,e2];rfl)];simp only[outF,e,e2,Bool.not_true,Bool.false_and,Bool.and_false,Bool.false_eq_true,if_false]
   |false=>
    rw[lp_next (s':=(x,(x.length:Int),((i+1:Nat):Int),y1,y2,y3,y4,y5,x,yi,yc)) (by rw[hr,e,e2,wnext' (show i<1000000000000000 by omega)];rfl),l10x1 y1 y2 y3 y4 y5 x yi yc hb hg hs k (i+1) (by omega),ht]
    simp only[outF,e,e2,Bool.not_false,Bool.true_and]
theorem l10x2 (y1 y2 y3 y4 y5:Int) (yo:List Outward) (x:List Taking) (yc:List Closed) (hb:x.length<1000000) (hg:∀o∈x,SmT o) (hs:∀t∈x,0<=t.2.1):∀(k i:Nat),i+k=x.length->lpU g10x2 (x,(x.length:Int),(i:Int),y1,y2,y3,y4,y5,yo,x,yc)=some (if(x.drop i).all (inB' (y1,y2,y3,y4,y5,yo,x,yc))=true then .inl (y1,y2,y3,y4,y5,yo,x,yc)else .inr false)
 |0,i,hi=>by
  have hd:decide ((i:Int)<(x.length:Int))=false:=decide_eq_false (by omega)
  rw[lp_end (x:=.inl (y1,y2,y3,y4,y5,yo,x,yc)) (by simp only[g10x2,hd,Bool.false_eq_true,if_false])]
  rw[List.drop_of_length_le (by omega)];rfl
 |k+1,i,hi=>by
  have hd:decide ((i:Int)<(x.length:Int))=true:=decide_eq_true (by omega)
  have h1:i<x.length:=by omega
  have hm:=List.getElem_mem h1
  have hw:=w31 x[i] (hg _ hm) (hs _ hm)
  have hc:=c10i (rightB x[i]) (x[i].2.2.2.2.2.2.1==1) (x[i].2.2.2.2.2.2.2.1==y4) (x[i].1==y1)
  have hr:g10x2 (x,(x.length:Int),(i:Int),y1,y2,y3,y4,y5,yo,x,yc)=if(!inB' (y1,y2,y3,y4,y5,yo,x,yc) x[i])=true then some (Sum.inr (Sum.inr false))else some (Sum.inl (x,(x.length:Int),IntKind.i64.wrap ((i:Int)+1),y1,y2,y3,y4,y5,yo,x,yc)):=by
   simp only[g10x2,hd,if_true,idx_some' h1,Option.bind_some,hw]
   exact congrArg (fun(b:Bool)=>if b=true then _ else _) hc
  rw[drop_cons' h1,List.all_cons]
  cases e:inB' (y1,y2,y3,y4,y5,yo,x,yc) x[i]with
  |false=>rw[lp_end (x:=.inr false) (by rw[hr,e];rfl)];rfl
  |true=>rw[lp_next (s':=(x,(x.length:Int),((i+1:Nat):Int),y1,y2,y3,y4,y5,yo,x,yc)) (by rw[hr,e,wnext' (show i<1000000000000000 by omega)];rfl),l10x2 y1 y2 y3 y4 y5 yo x yc hb hg hs k (i+1) (by omega),Bool.true_and]
theorem l10x3 (y1 y2 y3 y4 y5:Int) (yo:List Outward) (yi:List Taking) (x:List Closed) (hb:x.length<1000000):∀(k i:Nat),i+k=x.length->lpU g10x3 (x,(x.length:Int),(i:Int),y1,y2,y3,y4,y5,yo,yi,x)=some (if(x.drop i).all (cloB (y1,y2,y3,y4,y5,yo,yi,x))=true then .inl (y1,y2,y3,y4,y5,yo,yi,x)else .inr false)
 |0,i,hi=>by
  have hd:decide ((i:Int)<(x.length:Int))=false:=decide_eq_false (by omega)
  rw[lp_end (x:=.inl (y1,y2,y3,y4,y5,yo,yi,x)) (by simp only[g10x3,hd,Bool.false_eq_true,if_false])]
  rw[List.drop_of_length_le (by omega)];rfl
 |k+1,i,hi=>by
  have hd:decide ((i:Int)<(x.length:Int))=true:=decide_eq_true (by omega)
  have h1:i<x.length:=by omega
  have hc:=c10c (h28 x[i].1) (x[i].1==y1) (x[i].2.1==0) (decide (x[i].2.2.1<1)) (decide (x[i].2.2.1>512))
  have hr:g10x3 (x,(x.length:Int),(i:Int),y1,y2,y3,y4,y5,yo,yi,x)=if(!cloB (y1,y2,y3,y4,y5,yo,yi,x) x[i])=true then some (Sum.inr (Sum.inr false))else some (Sum.inl (x,(x.length:Int),IntKind.i64.wrap ((i:Int)+1),y1,y2,y3,y4,y5,yo,yi,x)):=by
   simp only[g10x3,hd,if_true,idx_some' h1,Option.bind_some]
   exact congrArg (fun(b:Bool)=>if b=true then _ else _) hc
  rw[drop_cons' h1,List.all_cons]
  cases e:cloB (y1,y2,y3,y4,y5,yo,yi,x) x[i]with
  |false=>rw[lp_end (x:=.inr false) (by rw[hr,e];rfl)];rfl
  |true=>rw[lp_next (s':=(x,(x.length:Int),((i+1:Nat):Int),y1,y2,y3,y4,y5,yo,yi,x)) (by rw[hr,e,wnext' (show i<1000000000000000 by omega)];rfl),l10x3 y1 y2 y3 y4 y5 yo yi x hb k (i+1) (by omega),Bool.true_and]
theorem tw_app:∀(a b ks:List (Int×Int)),(twI (a++b) ks).1=((twI a ks).1||(twI b (ks++a)).1)
 |[],b,ks=>by simp[twI]
 |k::r,b,ks=>by
  by_cases h:k∈ks
  ·simp[twI,h]
  ·simp only[List.cons_append,twI,if_neg h]
   rw[tw_app r b (ks++[k])]
   simp
theorem tw_snd:∀(a ks:List (Int×Int)),(twI a ks).1=false->(twI a ks).2=ks++a
 |[],ks,_=>by simp[twI]
 |k::r,ks,h=>by
  by_cases hk:k∈ks
  ·simp[twI,hk]at h
  ·simp only[twI,if_neg hk]at h ⊢
   rw[tw_snd r _ h];simp
theorem l32x0 (y1 y2 y3 y4 y5:Int) (yo:List Outward) (x:List Taking) (yc:List Closed) (hb:x.length<1000000):∀(k i:Nat) (acc:List Closed),i+k=x.length->acc.length=i->lpU g32x0 (acc,x,(x.length:Int),(i:Int),y1,y2,y3,y4,y5,yo,x,yc)=some (acc++(x.drop i).map (fun t=>(t.1,t.2.1,(0:Int),false,(0:Int))),y1,y2,y3,y4,y5,yo,x,yc)
 |0,i,acc,hi,ha=>by
  have hd:decide ((i:Int)<(x.length:Int))=false:=decide_eq_false (by omega)
  rw[lp_end (x:=(acc,y1,y2,y3,y4,y5,yo,x,yc)) (by simp only[g32x0,hd,Bool.false_eq_true,if_false])]
  rw[List.drop_of_length_le (by omega)];simp
 |k+1,i,acc,hi,ha=>by
  have hd:decide ((i:Int)<(x.length:Int))=true:=decide_eq_true (by omega)
  have h1:i<x.length:=by omega
  have hr:g32x0 (acc,x,(x.length:Int),(i:Int),y1,y2,y3,y4,y5,yo,x,yc)=some (.inl (acc++[(x[i].1,x[i].2.1,(0:Int),false,(0:Int))],x,(x.length:Int),((i+1:Nat):Int),y1,y2,y3,y4,y5,yo,x,yc)):=by
   simp only[g32x0,hd,if_true,idx_some' h1,Option.bind_some]
   rw[apd_ok (by simp;omega),Option.bind_some,wnext' (show i<1000000000000000 by omega)]
  rw[lp_next hr,l32x0 y1 y2 y3 y4 y5 yo x yc hb k (i+1) _ (by omega) (by simp[ha]),drop_cons' h1,List.map_cons,List.append_assoc]
  rfl
theorem l32x1 (al al2:List Closed) (n i:Int) (a1 a2 a3:Int) (a4:Bool) (a5:Int) (x:List Closed) (hb:x.length<10000000):∀(k j:Nat),j+k=x.length->lpU g32x1 (al,al2,n,i,x,(x.length:Int),(j:Int),a1,a2,a3,a4,a5)=some (if(a1,a2)∈(x.drop j).map keyC then .inr false else .inl (al,al2,n,i))
 |0,j,hi=>by
  have hd:decide ((j:Int)<(x.length:Int))=false:=decide_eq_false (by omega)
  rw[lp_end (x:=.inl (al,al2,n,i)) (by simp only[g32x1,hd,Bool.false_eq_true,if_false])]
  rw[List.drop_of_length_le (by omega)];simp
 |k+1,j,hi=>by
  have hd:decide ((j:Int)<(x.length:Int))=true:=decide_eq_true (by omega)
  have h1:j<x.length:=by omega
  have hr:g32x1 (al,al2,n,i,x,(x.length:Int),(j:Int),a1,a2,a3,a4,a5)=if(a1==x[j].1&&a2==x[j].2.1)=true then some (Sum.inr (Sum.inr false))else some (Sum.inl (al,al2,n,i,x,(x.length:Int),IntKind.i64.wrap ((j:Int)+1),a1,a2,a3,a4,a5)):=by
   simp only[g32x1,hd,if_true,idx_some' h1,Option.bind_some,if_andf]
  rw[drop_cons' h1,List.map_cons]
  have hq:(a1==x[j].1&&a2==x[j].2.1)=decide ((a1,a2)=keyC x[j]):=by
   rw[Bool.eq_iff_iff];simp[keyC]
  rw[hq]at hr
  by_cases e:(a1,a2)=keyC x[j]
  ·rw[decide_eq_true e]at hr
   rw[lp_end (x:=.inr false) (by rw[hr];rfl),if_pos (by rw[e];exact List.mem_cons_self)]
  ·rw[decide_eq_false e]at hr
   rw[lp_next (s':=(al,al2,n,i,x,(x.length:Int),((j+1:Nat):Int),a1,a2,a3,a4,a5)) (by rw[hr,wnext' (show j<1000000000000000 by omega)];rfl),l32x1 al al2 n i a1 a2 a3 a4 a5 x hb k (j+1) (by omega)]
   have hm:(a1,a2)∈keyC x[j]::(x.drop (j+1)).map keyC↔(a1,a2)∈(x.drop (j+1)).map keyC:=by
    rw[List.mem_cons]
    exact⟨fun h=>h.resolve_left e,.inr⟩
   by_cases hq:(a1,a2)∈(x.drop (j+1)).map keyC
   ·rw[if_pos hq,if_pos (hm.2 hq)]
   ·rw[if_neg hq,if_neg fun h=>hq (hm.1 h)]
theorem l32x2 (x:List Closed) (hb:x.length<10000000):∀(k i:Nat),i+k=x.length->lpU g32x2 (x,x,(x.length:Int),(i:Int))=some (if(twI ((x.drop i).map keyC) ((x.take i).map keyC)).1=true then .inr false else .inl ())
 |0,i,hi=>by
  have hd:decide ((i:Int)<(x.length:Int))=false:=decide_eq_false (by omega)
  rw[lp_end (x:=.inl ()) (by simp only[g32x2,hd,Bool.false_eq_true,if_false])]
  rw[List.drop_of_length_le (by omega)];rfl
 |k+1,i,hi=>by
  have hd:decide ((i:Int)<(x.length:Int))=true:=decide_eq_true (by omega)
  have h1:i<x.length:=by omega
  have hcut:cut x 0 (i:Int)=some (x.take i):=by rw[cut_ok ⟨by omega,by omega,by omega⟩];simp
  have ht:x.take (i+1)=x.take i++[x[i]]:=by rw[List.take_add_one];simp[h1]
  have k0:=l32x1 x x (x.length:Int) (i:Int) x[i].1 x[i].2.1 x[i].2.2.1 x[i].2.2.2.1 x[i].2.2.2.2 (x.take i) (by simp;omega) (x.take i).length 0 (by omega)
  rw[show((0:Nat):Int)=(0:Int)from rfl,List.drop_zero]at k0
  have hr:g32x2 (x,x,(x.length:Int),(i:Int))=if keyC x[i]∈(x.take i).map keyC then some (Sum.inr (Sum.inr false))else some (Sum.inl (x,x,(x.length:Int),IntKind.i64.wrap ((i:Int)+1))):=by
   simp only[g32x2,hd,if_true,idx_some' h1,Option.bind_some,hcut]
   refine(congrArg (fun q=>Option.bind q _) k0).trans ?_
   show(some (if keyC x[i]∈(x.take i).map keyC then _ else _)).bind _=_
   by_cases q:keyC x[i]∈(x.take i).map keyC
   ·rw[if_pos q,if_pos q];rfl
   ·rw[if_neg q,if_neg q];rfl
  rw[drop_cons' h1,List.map_cons]
  by_cases q:keyC x[i]∈(x.take i).map keyC
  ·rw[lp_end (x:=.inr false) (by rw[hr,if_pos q])]
   simp only[twI,if_pos q,if_true]
  ·rw[lp_next (s':=(x,x,(x.length:Int),((i+1:Nat):Int))) (by rw[hr,if_neg q,wnext' (show i<1000000000000000 by omega)]),l32x2 x hb k (i+1) (by omega),ht]
   simp only[twI,if_neg q,List.map_append,List.map_cons,List.map_nil]
theorem w32 (x:Ltp) (h2:x.2.2.2.2.2.2.1.length<1000000) (h3:x.2.2.2.2.2.2.2.length<1000000):g32 x=some (onceB x):=by
 obtain⟨y1,y2,y3,y4,y5,yo,yi,yc⟩:=x
 simp only at h2 h3
 have k0:=l32x0 y1 y2 y3 y4 y5 yo yi yc h2 yi.length 0 [] (by omega) rfl
 rw[show((0:Nat):Int)=(0:Int)from rfl,List.drop_zero,List.nil_append]at k0
 unfold g32
 simp only[k0,Option.bind_some]
 rw[apd_ok (by simp;omega),Option.bind_some]
 generalize hq:yi.map (fun t=>(t.1,t.2.1,(0:Int),false,(0:Int)))++yc=q
 have hl:q.length<10000000:=by rw[<-hq];simp;omega
 have k1:=l32x2 q hl q.length 0 (by omega)
 rw[show((0:Nat):Int)=(0:Int)from rfl,List.drop_zero,List.take_zero,List.map_nil]at k1
 rw[k1,Option.bind_some]
 have e:q.map keyC=yi.map keyT++yc.map keyC:=by
  rw[<-hq,List.map_append,List.map_map];rfl
 rw[e]
 show _=some (!(twI (yi.map keyT++yc.map keyC) []).1)
 cases(twI (yi.map keyT++yc.map keyC) []).1<;>rfl
theorem w10 (x:Ltp) (h:RiL x):g10 x=some (rightL x):=by
 have e32:=w32 x h.s.i h.s.c
 obtain⟨⟨q1,q2,q3,q4,q5⟩,q6,q7⟩:=h
 unfold g10
 refine(congrArg (fun(b:Bool)=>if b=true then _ else _) (c10t (h28 x.1) (h29 (x.2.1,x.2.2.1,x.2.2.2.1)) (x.2.2.2.2.1==0) (decide ((x.2.2.2.2.2.1.length:Int)>8)) (decide ((x.2.2.2.2.2.2.1.length:Int)>8)) (decide ((x.2.2.2.2.2.2.2.length:Int)>16)))).trans ?_
 show(if(!topB x)=true then _ else _)=_
 unfold rightL
 cases topB x with
 |false=>rfl
 |true=>
  obtain⟨y1,y2,y3,y4,y5,yo,yi,yc⟩:=x
  simp only at q1 q2 q3 q4 q5 q6 q7 e32
  have k0:=l10x1 y1 y2 y3 y4 y5 yo yi yc q1 q4 q6 yo.length 0 (by omega)
  have k1:=l10x2 y1 y2 y3 y4 y5 yo yi yc q2 q5 q7 yi.length 0 (by omega)
  have k2:=l10x3 y1 y2 y3 y4 y5 yo yi yc q3 yc.length 0 (by omega)
  rw[show((0:Nat):Int)=(0:Int)from rfl,List.drop_zero]at k0 k1 k2
  rw[List.take_zero]at k0
  simp only[Bool.not_true,Bool.false_eq_true,if_false,k0,Bool.true_and]
  cases outF (y1,y2,y3,y4,y5,yo,yi,yc) [] yo with
  |false=>rfl
  |true=>
   simp only[if_true,Option.bind_some,k1,Bool.true_and]
   cases yi.all (inB' (y1,y2,y3,y4,y5,yo,yi,yc))with
   |false=>rfl
   |true=>
    simp only[if_true,Option.bind_some,k2,Bool.true_and]
    cases yc.all (cloB (y1,y2,y3,y4,y5,yo,yi,yc))with
    |false=>rfl
    |true=>simp only[if_true,Option.bind_some,e32,Bool.true_and]
theorem l89 (x:List Outward) (φ:Outward->Option Bool) (f:Outward->Bool) (hφ:∀a∈x,φ a=some (f a)) (hb:x.length<1000000):∀(k i:Nat),i+k=x.length->∃r,lpU g89x0 (x,φ,(x.length:Int),(i:Int))=some r∧((x.drop i).any f=false∧r= .inl ()∨(x.drop i).any f=true∧∃n:Nat,r= .inr (n:Int))
 |0,i,hi=>by
  have hd:decide ((i:Int)<(x.length:Int))=false:=decide_eq_false (by omega)
  refine⟨_,lp_end (x:=.inl ()) (by simp only[g89x0,hd,Bool.false_eq_true,if_false]),.inl ⟨?_,rfl⟩⟩
  rw[List.drop_of_length_le (by omega)];rfl
 |k+1,i,hi=>by
  have hd:decide ((i:Int)<(x.length:Int))=true:=decide_eq_true (by omega)
  have h1:i<x.length:=by omega
  have hr:g89x0 (x,φ,(x.length:Int),(i:Int))=if f x[i]=true then some (Sum.inr (Sum.inr (i:Int)))else some (Sum.inl (x,φ,(x.length:Int),IntKind.i64.wrap ((i:Int)+1))):=by
   simp only[g89x0,hd,if_true,idx_some' h1,Option.bind_some,hφ _ (List.getElem_mem h1)]
  rw[drop_cons' h1,List.any_cons]
  cases e:f x[i]with
  |true=>exact⟨_,lp_end (x:=.inr (i:Int)) (by rw[hr,e];rfl),.inr ⟨rfl,i,rfl⟩⟩
  |false=>
   rw[lp_next (s':=(x,φ,(x.length:Int),((i+1:Nat):Int))) (by rw[hr,e,wnext' (show i<1000000000000000 by omega)];rfl),Bool.false_or]
   exact l89 x φ f hφ hb k (i+1) (by omega)
theorem w40 (x:List Outward) (φ:Outward->Option Bool) (f:Outward->Bool) (hφ:∀a∈x,φ a=some (f a)) (hb:x.length<1000000):g40 x φ=some (x.any f):=by
 obtain⟨r,h1,h2⟩:=l89 x φ f hφ hb x.length 0 (by omega)
 rw[show((0:Nat):Int)=(0:Int)from rfl]at h1
 rw[List.drop_zero]at h2
 unfold g40 g89
 rw[h1]
 rcases h2 with⟨e,rfl⟩|⟨e,n,rfl⟩
 ·rw[e];rfl
 ·rw[e]
  show some (decide ((n:Int)>=0))=some true
  rw[decide_eq_true (by omega)]
theorem l90 (x:List Taking) (φ:Taking->Option Bool) (f:Taking->Bool) (hφ:∀a∈x,φ a=some (f a)) (hb:x.length<1000000):∀(k i:Nat),i+k=x.length->∃r,lpU g90x0 (x,φ,(x.length:Int),(i:Int))=some r∧((x.drop i).any f=false∧r= .inl ()∨(x.drop i).any f=true∧∃n:Nat,r= .inr (n:Int))
 |0,i,hi=>by
  have hd:decide ((i:Int)<(x.length:Int))=false:=decide_eq_false (by omega)
  refine⟨_,lp_end (x:=.inl ()) (by simp only[g90x0,hd,Bool.false_eq_true,if_false]),.inl ⟨?_,rfl⟩⟩
  rw[List.drop_of_length_le (by omega)];rfl
 |k+1,i,hi=>by
  have hd:decide ((i:Int)<(x.length:Int))=true:=decide_eq_true (by omega)
  have h1:i<x.length:=by omega
  have hr:g90x0 (x,φ,(x.length:Int),(i:Int))=if f x[i]=true then some (Sum.inr (Sum.inr (i:Int)))else some (Sum.inl (x,φ,(x.length:Int),IntKind.i64.wrap ((i:Int)+1))):=by
   simp only[g90x0,hd,if_true,idx_some' h1,Option.bind_some,hφ _ (List.getElem_mem h1)]
  rw[drop_cons' h1,List.any_cons]
  cases e:f x[i]with
  |true=>exact⟨_,lp_end (x:=.inr (i:Int)) (by rw[hr,e];rfl),.inr ⟨rfl,i,rfl⟩⟩
  |false=>
   rw[lp_next (s':=(x,φ,(x.length:Int),((i+1:Nat):Int))) (by rw[hr,e,wnext' (show i<1000000000000000 by omega)];rfl),Bool.false_or]
   exact l90 x φ f hφ hb k (i+1) (by omega)
theorem w41 (x:List Taking) (φ:Taking->Option Bool) (f:Taking->Bool) (hφ:∀a∈x,φ a=some (f a)) (hb:x.length<1000000):g41 x φ=some (x.any f):=by
 obtain⟨r,h1,h2⟩:=l90 x φ f hφ hb x.length 0 (by omega)
 rw[show((0:Nat):Int)=(0:Int)from rfl]at h1
 rw[List.drop_zero]at h2
 unfold g41 g90
 rw[h1]
 rcases h2 with⟨e,rfl⟩|⟨e,n,rfl⟩
 ·rw[e];rfl
 ·rw[e]
  show some (decide ((n:Int)>=0))=some true
  rw[decide_eq_true (by omega)]
theorem l91 (x:List Closed) (φ:Closed->Option Bool) (f:Closed->Bool) (hφ:∀a∈x,φ a=some (f a)) (hb:x.length<1000000):∀(k i:Nat),i+k=x.length->∃r,lpU g91x0 (x,φ,(x.length:Int),(i:Int))=some r∧((x.drop i).any f=false∧r= .inl ()∨(x.drop i).any f=true∧∃n:Nat,r= .inr (n:Int))
 |0,i,hi=>by
  have hd:decide ((i:Int)<(x.length:Int))=false:=decide_eq_false (by omega)
  refine⟨_,lp_end (x:=.inl ()) (by simp only[g91x0,hd,Bool.false_eq_true,if_false]),.inl ⟨?_,rfl⟩⟩
  rw[List.drop_of_length_le (by omega)];rfl
 |k+1,i,hi=>by
  have hd:decide ((i:Int)<(x.length:Int))=true:=decide_eq_true (by omega)
  have h1:i<x.length:=by omega
  have hr:g91x0 (x,φ,(x.length:Int),(i:Int))=if f x[i]=true then some (Sum.inr (Sum.inr (i:Int)))else some (Sum.inl (x,φ,(x.length:Int),IntKind.i64.wrap ((i:Int)+1))):=by
   simp only[g91x0,hd,if_true,idx_some' h1,Option.bind_some,hφ _ (List.getElem_mem h1)]
  rw[drop_cons' h1,List.any_cons]
  cases e:f x[i]with
  |true=>exact⟨_,lp_end (x:=.inr (i:Int)) (by rw[hr,e];rfl),.inr ⟨rfl,i,rfl⟩⟩
  |false=>
   rw[lp_next (s':=(x,φ,(x.length:Int),((i+1:Nat):Int))) (by rw[hr,e,wnext' (show i<1000000000000000 by omega)];rfl),Bool.false_or]
   exact l91 x φ f hφ hb k (i+1) (by omega)
theorem w42 (x:List Closed) (φ:Closed->Option Bool) (f:Closed->Bool) (hφ:∀a∈x,φ a=some (f a)) (hb:x.length<1000000):g42 x φ=some (x.any f):=by
 obtain⟨r,h1,h2⟩:=l91 x φ f hφ hb x.length 0 (by omega)
 rw[show((0:Nat):Int)=(0:Int)from rfl]at h1
 rw[List.drop_zero]at h2
 unfold g42 g91
 rw[h1]
 rcases h2 with⟨e,rfl⟩|⟨e,n,rfl⟩
 ·rw[e];rfl
 ·rw[e]
  show some (decide ((n:Int)>=0))=some true
  rw[decide_eq_true (by omega)]
theorem w24 (x a b:Int):h24 x a b=inB x a b:=by
 simp only[h24,inB,if_andf,ge_iff_le]
theorem w23 (x:Int):h23 x=h28 x:=by
 simp only[h23,w24,h28,inB,if_andf,ge_iff_le]
theorem w39 (r:Rules):h39 r=h29 r:=by
 simp only[h39,w24,h29,inB,if_andf,ge_iff_le,Bool.and_assoc]
theorem nB (b:Bool) (n:Int) (hn:n≠0):((if b=true then(0:Int)else n)!=0)= !b:=by cases b<;>simp[hn]
theorem w34 (x:Ltp) (o:Outward) (h:SmG o.2):g34 o x (fun n=>h33 n x)=some (!outB x o):=by
 unfold g34
 rw[w35 o.2 h,Option.bind_some,nB _ _ (by decide)]
 simp only[h33,w23,K34,outB,bne]
 cases rightG o.2<;>cases(o.2.2.2.2.2.2.1==1||o.2.2.2.2.2.2.1==3)<;>cases(o.2.1==x.1)<;>cases(o.2.2.2.2.1==x.2.1)<;>cases(o.2.2.2.2.2.1==x.2.2.1)<;>cases h28 o.1<;>cases(o.1==x.1)<;>rfl
theorem w36 (x:Ltp) (t:Taking) (h:SmT t):g36 t x=some (!inB' x t):=by
 unfold g36
 rw[w37 t h,Option.bind_some,nB _ _ (by decide)]
 simp only[inB',bne]
 cases rightB t<;>cases(t.2.2.2.2.2.2.1==1)<;>cases(t.2.2.2.2.2.2.2.1==x.2.2.2.1)<;>cases(t.1==x.1)<;>rfl
theorem w38 (x:Ltp) (c:Closed):g38 c (fun n=>h33 n x)= !cloB x c:=by
 unfold g38
 simp only[h33,w23,w24,cloB,bne]
 have e:inB c.2.2.1 1 512=(!decide (c.2.2.1<1)&& !decide (c.2.2.1>512)):=by
  rw[Bool.eq_iff_iff];simp[inB]
 rw[e]
 cases h28 c.1<;>cases(c.1==x.1)<;>cases(c.2.1==0)<;>cases decide (c.2.2.1<1)<;>cases decide (c.2.2.1>512)<;>rfl
theorem any_not {α:Type} (f:α->Bool):∀l:List α,l.any (fun a=> !f a)= !l.all f
 |[]=>rfl
 |a::r=>by rw[List.any_cons,List.all_cons,any_not f r,Bool.not_and]
theorem any_key (x:Ltp) (o:Outward) (ho:o.2.1=x.1):∀pre:List Outward,(∀p∈pre,p.2.1=x.1)->pre.any (fun p=>p.2.2.1==o.2.2.1)=decide (h44 o∈pre.map h44)
 |[],_=>rfl
 |p::r,h=>by
  rw[List.any_cons,any_key x o ho r fun q hq=>h q (List.mem_cons_of_mem _ hq)]
  have hp:=h p List.mem_cons_self
  rw[Bool.eq_iff_iff]
  simp only[Bool.or_eq_true,beq_iff_eq,decide_eq_true_eq,List.map_cons,List.mem_cons,h44,Prod.mk.injEq]
  constructor
  ·rintro(e|e)
   ·exact .inl ⟨by rw[ho,hp],e.symm⟩
   ·exact .inr (of_decide_eq_true e)
  ·rintro(⟨_,e⟩|e)
   ·exact .inl e.symm
   ·exact .inr (decide_eq_true e)
theorem outF_tw (x:Ltp):∀(l pre:List Outward),(∀p∈pre,p.2.1=x.1)->outF x pre l=(l.all (outB x)&& !(twI (l.map h44) (pre.map h44)).1)
 |[],pre,_=>rfl
 |o::r,pre,h=>by
  simp only[outF,List.all_cons,List.map_cons,twI]
  cases e:outB x o with
  |false=>rfl
  |true=>
   have ho:o.2.1=x.1:=by
    simp only[outB,Bool.and_eq_true,beq_iff_eq]at e
    exact e.1.1.1.1.2
   rw[any_key x o ho pre h,outF_tw x r (pre++[o]) fun p hp=>by
    rcases List.mem_append.1 hp with q|q
    ·exact h p q
    ·rw[List.mem_singleton.1 q];exact ho]
   by_cases hm:h44 o∈pre.map h44
   ·simp only[if_pos hm,decide_eq_true hm,Bool.not_true,Bool.false_and,Bool.and_false]
   ·simp only[if_neg hm,decide_eq_false hm,Bool.not_false,Bool.true_and,List.map_append,List.map_cons,List.map_nil]
theorem fin12 (c1 b1 b2 b3 t1 t2 t3:Bool):(if(!c1)=true then some (260:Int)else(some (!b1)).bind fun b1=>if b1=true then some 260 else(some (!b2)).bind fun b2=>if b2=true then some 260 else(some (!b3)).bind fun b3=>if b3=true then some 260 else if t1=true then some 260 else if t2=true then some 260 else if t3=true then some 260 else some 0)=some (if(c1&&((b1&& !t1)&&(b2&&(b3&& !(t2||t3)))))=true then 0 else 260):=by
 cases c1<;>cases b1<;>cases b2<;>cases b3<;>cases t1<;>cases t2<;>cases t3<;>rfl
theorem w12 (x:Ltp) (h:SmL x):g12 x=some (if rightL x=true then 0 else 260):=by
 unfold g12
 rw[w40 _ _ _ (fun o ho=>w34 x o (h.og o ho)) h.o,w41 _ _ _ (fun o ho=>w36 x o (h.ig o ho)) h.i,w42 _ _ _ (fun c _=>congrArg some (w38 x c)) h.c,any_not,any_not,any_not]
 have et:(!h23 x.1|| !h39 (x.2.1,x.2.2.1,x.2.2.2.1)||x.2.2.2.2.1==0||decide ((List.length x.2.2.2.2.2.1:Int)>8)||decide ((List.length x.2.2.2.2.2.2.1:Int)>8)||decide ((List.length x.2.2.2.2.2.2.2:Int)>16))= !topB x:=by
  simp only[w23,w39,topB,Bool.not_and,Bool.not_not]
 rw[et]
 have e3:(twI (x.2.2.2.2.2.2.1.map h46) []).1=false->(twI (x.2.2.2.2.2.2.1.map h46) []).2=x.2.2.2.2.2.2.1.map h46:=fun e=>by rw[tw_snd _ _ e];rfl
 refine(fin12 _ _ _ _ _ _ _).trans ?_
 unfold rightL
 rw[outF_tw x _ [] (fun p hp=>by cases hp)]
 have eo:onceB x= !((twI (x.2.2.2.2.2.2.1.map h46) []).1||(twI (x.2.2.2.2.2.2.2.map h48) (twI (x.2.2.2.2.2.2.1.map h46) []).2).1):=by
  show(!(twI (x.2.2.2.2.2.2.1.map h46++x.2.2.2.2.2.2.2.map h48) []).1)=_
  rw[tw_app,List.nil_append]
  cases q:(twI (x.2.2.2.2.2.2.1.map h46) []).1 with
  |true=>rfl
  |false=>rw[e3 q]
 rw[eo]
 rfl
end Go.Proofs.Ytfopbiiffiickaa.Ev.U
namespace Go.Proofs.Ytfopbiiffiickaa.Ev.U
open Go
theorem reach_le:reachBytes<=140737488355328:=by decide
theorem cpg_z {o:Outward} (h:Zf YOutward o):CpG o.2:=by
 have h1:List.length (α:=Int) o.2.2.2.1*1<=reachBytes:=h.2.2.2.1.1
 have h2:List.length (α:=Claim) o.2.2.2.2.2.2.2.1*16<=reachBytes:=h.2.2.2.2.2.2.2.1.1
 have h3:List.length (α:=Int) o.2.2.2.2.2.2.2.2.2.2.2.2.2.2.2.2.2.2.2.2.2.2.2.1*4<=reachBytes:=h.2.2.2.2.2.2.2.2.2.2.2.2.2.2.2.2.2.2.2.2.2.2.2.1.1
 have h4:List.length (α:=Int) o.2.2.2.2.2.2.2.2.2.2.2.2.2.2.2.2.2.2.2.1*1<=reachBytes:=h.2.2.2.2.2.2.2.2.2.2.2.2.2.2.2.2.2.2.2.1.1
 have h5:List.length (α:=Claim) o.2.2.2.2.2.2.2.2.2.2.2.2.2.2.2.2.2.2.2.2.1*16<=reachBytes:=h.2.2.2.2.2.2.2.2.2.2.2.2.2.2.2.2.2.2.2.2.1.1
 refine⟨Nat.le_trans h1 reach_le,Nat.le_trans h2 reach_le,Nat.le_trans h3 reach_le,Nat.le_trans h4 reach_le,?_⟩
 unfold reachBytes at h5
 omega
theorem cpt_z {t:Taking} (h:Zf YTaking t):CpT t:=by
 have h1:List.length (α:=Int) t.2.2.2.1*1<=reachBytes:=h.2.2.2.1.1
 have h2:List.length (α:=Claim) t.2.2.2.2.1*16<=reachBytes:=h.2.2.2.2.1.1
 exact⟨Nat.le_trans h1 reach_le,Nat.le_trans h2 reach_le⟩
theorem og_z {x:Ltp} (h:Zf YLtp x):∀o∈x.2.2.2.2.2.1,CpG o.2:=fun o ho=>cpg_z (h.2.2.2.2.2.1.2 o ho)
theorem ig_z {x:Ltp} (h:Zf YLtp x):∀t∈x.2.2.2.2.2.2.1,CpT t:=fun t ht=>cpt_z (h.2.2.2.2.2.2.1.2 t ht)
theorem ri_sh {x:Ltp} (h:Zf YLtp x) (hw:Wf YLtp x):RiL (shL x):=by
 refine⟨sm_sh x (og_z h),fun o ho=>?_,fun t ht=>?_⟩
 ·obtain⟨q,hq,rfl⟩:=List.mem_map.1 ho
  have h1:Wf YOutward q:=hw.2.2.2.2.2.1 q (List.mem_of_mem_take hq)
  have h2:inK .u32 q.2.2.2.2.2.2.2.2.2.2.1=true:=h1.2.2.2.2.2.2.2.2.2.2.1
  exact(of_decide_eq_true h2).1
 ·obtain⟨q,hq,rfl⟩:=List.mem_map.1 ht
  have h1:Wf YTaking q:=hw.2.2.2.2.2.2.1 q (List.mem_of_mem_take hq)
  have h2:inK .u32 q.2.1=true:=h1.2.1
  exact(of_decide_eq_true h2).1
theorem l5 (l:List Ltp) (hz:∀x∈l,Zf YLtp x) (hw:∀x∈l,Wf YLtp x):∀(k i:Nat),i+k=l.length->i<=16->∃r,lpU g5x0 (l,l,(l.length:Int),(i:Int))=some r∧r= .inl ()
 |0,i,hi,h16=>by
  have hd:decide ((i:Int)<(l.length:Int))=false:=decide_eq_false (by omega)
  exact⟨_,lp_end (x:=.inl ()) (by simp only[g5x0,hd,Bool.false_eq_true,if_false]),rfl⟩
 |k+1,i,hi,h16=>by
  have hd:decide ((i:Int)<(l.length:Int))=true:=decide_eq_true (by omega)
  have h1:i<l.length:=by omega
  have h0:0<l.length:=by omega
  by_cases e:i=16
  ·subst e
   exact⟨_,lp_end (x:=.inl ()) (by simp only[g5x0,hd,if_true,idx_some' h1,Option.bind_some];rfl),rfl⟩
  ·have e':((i:Int)==16)=false:=by simp;omega
   have m1:=List.getElem_mem h1
   have m0:=List.getElem_mem h0
   have i0:idx l (0:Int)=some l[0]:=idx_some' (i:=0) h0
   have a1:=w8 l[i] (og_z (hz _ m1)) (ig_z (hz _ m1))
   have a0:=w8 l[0] (og_z (hz _ m0)) (ig_z (hz _ m0))
   have ri:=ri_sh (hz _ m1) (hw _ m1)
   have b1:=w10 _ ri
   have b2:=w12 _ ri.s
   have b3:=w19 (shL l[i]) (shL l[0]) ri.s
   have b4:=w14 (shL l[i]) (shL l[0]) ri.s
   have b5:=w20 _ (cp_sh l[i] (og_z (hz _ m1)))
   have b6:=w19 (shL l[i]) (shL l[i]) ri.s
   rw[sameP_self]at b6
   have hr:g5x0 (l,l,(l.length:Int),(i:Int))=some (.inl (l,l,(l.length:Int),((i+1:Nat):Int))):=by
    simp only[g5x0,hd,if_true,idx_some' h1,i0,Option.bind_some,e',Bool.false_eq_true,if_false,a1,a0,b1,b2,b3,b4]
    rw[<-wnext' (show i<1000000000000000 by omega)]
    generalize sameP (shL l[i]) (shL l[0])=s
    generalize rightL (shL l[i])=r
    have q:((s==s)!=true)=false:=by cases s<;>rfl
    simp only[q,Bool.not_false,if_true,b5,b6,Option.bind_some]
    cases r<;>rfl
   rw[lp_next hr]
   exact l5 l hz hw k (i+1) (by omega) (by omega)
theorem w5 (l:List Ltp) (hz:Zf (.l .ro YLtp) l) (hw:Wf (.l .ro YLtp) l):g5 l=some true:=by
 obtain⟨r,h1,h2⟩:=l5 l (fun x hx=>hz.2 x hx) (fun x hx=>hw x hx) l.length 0 (by omega) (by omega)
 rw[show((0:Nat):Int)=(0:Int)from rfl]at h1
 subst h2
 unfold g5
 simp only[Bool.not_true,Bool.false_eq_true,if_false,h1,Option.bind_some]
end Go.Proofs.Ytfopbiiffiickaa.Ev.U
namespace Go.Proofs.Ytfopbiiffiickaa.Ev
open Go Go.ChangeShapes Go.WideShapes Go.ChangeAt Go.RowKit
theorem own:ownKnob Try.prog.godebug=none:=by kernel_rfl
theorem laidOut:laidOutB Try.prog=true:=by kernel_rfl
theorem rtb {g:G} {w:World} {x:Value} {b:Bool} (h:RT g w retL x (.v (.bool b))):x= .bool b:=h
end Go.Proofs.Ytfopbiiffiickaa.Ev
namespace Go.Proofs.Ytfopbiiffiickaa.Ev.U
open Go
theorem ef5 {x0:((.l .ro YLtp):Ty).T} {d0:D} (r0:RepL (EF pg) ((.l .ro YLtp)) [] x0 [d0]) (z0:Zf ((.l .ro YLtp)) x0):EF pg 5 [d0] []=some (.v (.bool true),[]):=by
 obtain⟨r,h1,h2⟩:=ef_b1 (show TOK1 (EF pg) (run1 E5 (EF pg)) (.par ⟨[.v ((.l .ro YLtp))],.b⟩ (fun x=>g5 x))from o5) (by simp) rfl (x:=x0) (ds:=[d0]) rfl r0 (w5 x0 z0 (wf_rep r0))
 obtain rfl:=eq_of_heq h2
 exact(v5 _).trans h1
end Go.Proofs.Ytfopbiiffiickaa.Ev.U
namespace Go.Proofs.Ytfopbiiffiickaa
open Go Go.ChangeShapes Go.WideShapes Go.ChangeAt Go.RowKit Go.Proofs.Ytfopbiiffiickaa.Ev
set_option maxRecDepth 100000 in
theorem lifted5 (os:Os) (started:os.Started) (H:Type) (enc:TypeId×Value->H):
  ReturnsInHanded {} Try.checked os 5 .any (Rows.ltpSameSpec.pre6 enc Try.prog Try.f5 Rows.ltpSameRow.domain false) (Rows.ltpSameSpec.post enc Try.prog Try.f5 false true false false):=by
 refine returnsInHanded_of_change_sized (C:=Try.checked) own started (by kernel_rfl) Try.func5
  (ChangeSpec.witness6 (enc:=enc) (C:=Try.checked) false ⟨#[],#[.slice none 0 0],[]⟩ 8 (by kernel_rfl) (by kernel_rfl) (by kernel_rfl) (by kernel_rfl)) ?_
 intro W base args ds gs before hval0 hW hcnd hsz0 _
 have hval:∀(j:Nat) t v,Try.f5.params[j]? =some t->args[j]? =some v->Value.okWide Try.prog W .any base t v:=hval0
 have hW':=hW
 obtain⟨p,q,hA0,hV,rfl,hfz,hnd⟩:=hW
 have hA:DataW.TrodAll enc Try.prog W 0 (fun _=>true) true Try.f5.params.toList args.toList ds p:=hA0
 rw[Try.params5]at hA hval
 obtain⟨v0,vs0,d0,ds0,p0,q0,hargs,rfl,rfl,h0,r0⟩:=trodAll_cons hA
 obtain⟨rfl,rfl,rfl⟩:=trodAll_nil r0
 obtain rfl:args= #[v0]:=by cases args;simp_all
 obtain⟨rfl,rfl⟩:=trodVars_none hV
 have lt0:∀x∈p0,x.block<W.heap.size:=by obtain⟨m,hm⟩:=h0;exact DataW.trod_lt m _ _ _ hm
 have w0:∀q∈d0.weights Try.prog 54,q<=reachBytes:=fun q hq=>by simpa using List.all_eq_true.1 hsz0 q (DataW.weights_mem_each (j:=0) rfl rfl q hq)
 obtain⟨c0,g0,k0⟩:=open_argz (zb:=true) (k:=12) (fun _=>rfl) (by kernel_rfl) (hval 0 54 v0 rfl rfl) h0 (fun _=>w0)
 obtain⟨x0,e0,z0⟩:=U.arg_z (P:=EF U.pg) 12 ((.l .ro U.YLtp)) (by kernel_rfl) g0
 clear hA0 hval0 hsz0
 refine(run0 U.pg_ok (f:=5) (by decide) (U.ef5 e0 (z0 rfl)) (W:=W) (vs:= #[v0]) rfl (fun i d hi=>?_)).mono fun e W' ⟨x,g',he,hr,bel⟩=>?_
 ·match i with
  |0=>simp at hi;subst hi;exact⟨v0,rfl,k0⟩
  |i+1=>simp at hi
 ·obtain rfl:=rtb hr
  subst he
  exact⟨_,rfl,_,_,_,[],_,[],hW',trodAll_mk1 (shut_bool Try.underlying4 _),trodAll_cons_mk (Below.trod laidOut (by kernel_rfl) (of_decide_eq_true (by kernel_rfl)) h0 bel lt0) trodAll_mk0,rfl,bel.frame _,fun h=>by cases h⟩
theorem ltpSame_holds:Rows.LtpSameSaid:=
 OpenClaim.holds_of_wide 5 Try.f5 rfl rfl rfl rfl rfl rfl rfl ⟨rfl,rfl,rfl,rfl,rfl⟩ rfl rfl rfl rfl rfl (by kernel_rfl) Try.func5 (by kernel_rfl)
  (of_decide_eq_true (by kernel_rfl)) (by unfold Func.isWrapper;first|(rw[if_pos (by decide+kernel)];kernel_rfl)|(rw[if_neg (by decide+kernel)];exact⟨rfl,rfl⟩))
  (fun os started H enc _=>lifted5 os started H enc)
#print axioms ltpSame_holds
end Go.Proofs.Ytfopbiiffiickaa
