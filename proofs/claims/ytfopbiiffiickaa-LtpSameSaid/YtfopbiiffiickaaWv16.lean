/- Which sessions are bad, on the evaluator. Conditions: none. -/
import Derived.Test.YtfopbiiffiickaaGu16
set_option linter.all false
set_option maxRecDepth 100000
namespace Go.Proofs.Ytfopbiiffiickaa.Ev.U
open Go
def mo (b:Bool):Mode:=if b then .ro else .nl
theorem mo_ne (b:Bool):mo b≠ .mu:=by cases b<;>simp[mo]
theorem mo_s {b:Bool} {z:Nat} {xs:List D}:(D.sl (mo b) z xs).strip1=D.sl (mo b) z xs:=by cases b<;>rfl
theorem mo_s2 {b:Bool} {z:Nat} {xs:List D}:(D.sl (mo b) z xs).strip2=D.sl (mo b) z xs:=by cases b<;>rfl
theorem mo_s3 {b:Bool} {z:Nat} {xs:List D}:(D.sl (mo b) z xs).strip=D.sl (mo b) z xs:=by cases b<;>rfl
theorem st_v {x:Value}:(D.v x).strip= .v x:=rfl
theorem st_v1 {x:Value}:(D.v x).strip1= .v x:=rfl
theorem st_v2 {x:Value}:(D.v x).strip2= .v x:=rfl
theorem st_p {f s o:Nat}:(D.ptr f s o).strip= .ptr f s o:=rfl
theorem st_p1 {f s o:Nat}:(D.ptr f s o).strip1= .ptr f s o:=rfl
theorem st_p2 {f s o:Nat}:(D.ptr f s o).strip2= .ptr f s o:=rfl
theorem st_f {cs:List D} {o:Nat}:(D.fptr cs o).strip= .fptr cs o:=rfl
theorem st_c {f:Nat} {cs:List D}:(D.clo f cs).strip= .clo f cs:=rfl
theorem st_c1 {f:Nat} {cs:List D}:(D.clo f cs).strip1= .clo f cs:=rfl
theorem st_c2 {f:Nat} {cs:List D}:(D.clo f cs).strip2= .clo f cs:=rfl
theorem st_y {f s:Nat}:(D.yld f s).strip= .yld f s:=rfl
theorem st_y2 {f s:Nat}:(D.yld f s).strip2= .yld f s:=rfl
theorem st_u:D.u.strip= .u:=rfl
theorem st_a {cs:List D}:(D.agg cs).strip= .agg (cs.map D.strip1):=rfl
theorem st_a2 {cs:List D}:(D.agg cs).strip2= .agg (cs.map D.strip1):=rfl
theorem ce_v {x:Value}:(D.v x).cells=[.v x]:=rfl
theorem ce_a {cs:List D}:(D.agg cs).cells=cs:=rfl
theorem ce_c {f:Nat} {cs:List D}:(D.clo f cs).cells=[.clo f cs]:=rfl
theorem ce_s {m:Mode} {z:Nat} {xs:List D}:(D.sl m z xs).cells=[.sl m z xs]:=rfl
theorem mod_last {B:List Bx} {L:Bx} {g:Bx->Bx}:(B++[L]).modify B.length g=B++[g L]:=by
 induction B with
 |nil=>rfl
 |cons b r ih=>simp[ih]
theorem get_last {B:List Bx} {L:Bx}:(B++[L])[B.length]? =some L:=by simp
theorem getq_lt {α:Type} {l:List α} {i:Nat} {x:α} (h:l[i]? =some x):i<l.length:=by
 rcases Nat.lt_or_ge i l.length with q|q
 ·exact q
 ·rw[List.getElem?_eq_none q]at h;cases h
def keyD (ks:List (Int×Int)):List D:=ks.flatMap fun p=>[.v (.int .i64 p.1),.v (.int .u32 p.2)]
theorem keyD_app (ks:List (Int×Int)) (p:Int×Int):keyD (ks++[p])=keyD ks++[.v (.int .i64 p.1),.v (.int .u32 p.2)]:=by simp[keyD]
theorem memK_key {a c:Int}:∀{ks:List (Int×Int)},memK a c (keyD ks)=some (decide ((a,c)∈ks))
 |[]=>by simp[keyD,memK]
 |(x,y)::r=>by
  have ih:=memK_key (a:=a) (c:=c) (ks:=r)
  show memK a c (.v (.int .i64 x):: .v (.int .u32 y)::keyD r)=_
  simp only[memK]
  by_cases h:x=a∧y=c
  ·rw[if_pos h,h.1,h.2];simp
  ·rw[if_neg h,ih]
   have h':¬((a,c)=(x,y)):=fun e=>h (by injection e with e1 e2;exact⟨e1.symm,e2.symm⟩)
   congr 1
   rw[decide_eq_decide,List.mem_cons]
   simp only[h',false_or]
def twI:List (Int×Int)->List (Int×Int)->Bool×List (Int×Int)
 |[],ks=>(false,ks)
 |k::r,ks=>if k∈ks then(true,ks)else twI r (ks++[k])
theorem rf_st {cs:List D} (h:cs.all D.rf1=true):cs.map D.strip1=cs:=by
 induction cs with
 |nil=>rfl
 |cons c r ih=>
  simp only[List.all_cons,Bool.and_eq_true]at h
  rw[List.map_cons,ih h.2]
  congr 1
  cases c with
  |sl m z xs=>cases m<;>first|rfl|(cases h.1)
  |v x=>rfl
  |_=>cases h.1
theorem rf_sto {cs:List D} (h:cs.all D.rf1=true):cs.all D.sto1=true:=by
 refine List.all_eq_true.2 fun c hc=>?_
 have:=List.all_eq_true.1 h c hc
 cases c with
 |sl m z xs=>rfl
 |v x=>exact this
 |_=>cases this
theorem rf_bnd {cs:List D} (h:cs.all D.rf1=true) (k:Nat):cs.all (D.bnd1 k)=true:=by
 refine List.all_eq_true.2 fun c hc=>?_
 have:=List.all_eq_true.1 h c hc
 cases c with
 |sl m z xs=>rfl
 |v x=>rfl
 |_=>cases this
theorem sb_self {b:Nat} {X:List D}:∀{L:Bx},lk b L=some X->sb b X L=L
 |[],h=>by cases h
 |(c,ds)::r,h=>by
  by_cases e:b=c
  ·subst e
   simp only[lk,if_true]at h
   injection h with h
   simp[sb,h]
  ·simp only[lk,if_neg e]at h
   simp[sb,e,sb_self h]
theorem sb_sb' {b:Nat} {X Y:List D}:∀{L:Bx},sb b Y (sb b X L)=sb b Y L
 |[]=>rfl
 |(c,ds)::r=>by
  by_cases e:b=c
  ·subst e;simp[sb]
  ·simp[sb,e,sb_sb' (L:=r)]
theorem mod_self {B:List Bx} {f b:Nat} {L:Bx} {X:List D} (hL:B[f]? =some L) (hb:lk b L=some X):B.modify f (sb b X)=B:=by
 apply List.ext_getElem?
 intro i
 rw[List.getElem?_modify]
 by_cases h:f=i
 ·subst h;rw[hL];simp[sb_self hb]
 ·simp[h]
theorem mod_mod {B:List Bx} {f b:Nat} {X Y:List D}:(B.modify f (sb b X)).modify f (sb b Y)=B.modify f (sb b Y):=by
 apply List.ext_getElem?
 intro i
 rw[List.getElem?_modify,List.getElem?_modify,List.getElem?_modify]
 by_cases h:f=i
 ·subst h
  cases B[f]? with
  |none=>rfl
  |some l=>simp[sb_sb']
 ·simp[h]
structure ElK (z fk:Nat) (d:D) (p:Int×Int):Prop where
 ag:∃cs,d= .agg cs∧cs.length=z∧cs.all D.rf1=true
 key:∀B,EF pg fk [d] B=some (.agg [.v (.int .i64 p.1),.v (.int .u32 p.2)],B)
theorem len1 {α:Type} {cs:List α} {z:Nat} (h:cs.length=z):cs.take z=cs:=List.take_of_length_le (by omega)
def h43 (B:List Bx) (f b:Nat) (m:Bool) (z:Nat) (es:List D) (i:Nat):S:=⟨[(1,.clo 44 []),(2,.yld f b),(10,.sl (mo m) z es),(11,.v (.int .i64 es.length)),(12,.v (.int .i64 i))],[],B⟩
theorem r43 {B:List Bx} {f b i:Nat} {m:Bool} {es:List D} {d:D} {p:Int×Int} {ks:List (Int×Int)} {L:Bx} (hi:es[i]? =some d) (hd:ElK 25 44 d p) (hf:f<B.length) (hL:B[f]? =some L) (hb:lk b L=some (keyD ks)) (hlen:es.length<1000000):
  ∃s',evC (EF pg) b43x0 (h43 B f b m 25 es i)=some (if p∈ks then .rt else .nm,s')∧(p∈ks->get 6 s'.e= .v (.bool true)∧s'.o=B)∧(p∉ks->carry [1,2,10,11,12] [] s'=some (h43 (B.modify f (sb b (keyD (ks++[p])))) f b m 25 es (i+1))):=by
 obtain⟨⟨cs,rfl,hz,hrf⟩,hk⟩:=hd
 have hlt:=getq_lt hi
 have hil:(i:Int)<es.length:=by omega
 have hne:¬ f=B.length:=by omega
 have hst:=rf_st hrf
 have hsto:=rf_sto hrf
 have hbn:=fun k=>rf_bnd hrf k
 have htk:=len1 hz
 have hw:IntKind.i64.wrap ((i:Int)+1)=((i+1:Nat):Int):=by
  simp only[IntKind.wrap,IntKind.bits,IntKind.signed]
  simp
  omega
 have hmu:=mo_ne m
 have hf1:f<B.length+1:=by omega
 have hbx:(B[f]?).bind (lk b)=some (keyD ks):=by rw[hL];exact hb
 by_cases hm:p∈ks
 ·have:∃s',evC (EF pg) b43x0 (h43 B f b m 25 es i)=some (.rt,s')∧get 6 s'.e= .v (.bool true)∧s'.o=B:=by
   simp only[b43x0,h43,evC]
   simp[-List.all_eq_true,runF,evC,evOps,evStp,evOp,rd,rdL,rds,get,put,putO,argE,res1,resL,mkRes,doCall,unsnoc_append,S.wl,S.wo,lk,ins,sb,bx,sbx,pick,over,D.tupB,D.bnd2,D.bnd1,D.frz2,D.frz1,D.frzP,D.sto1,Value.oneCell',zc,bz,Tc.er,TStp.er,u_,ug_,s_,g_,n_,List.map_cons,List.map_nil,List.all_cons,List.all_nil,List.length_cons,List.length_nil,List.drop_succ_cons,List.drop_zero,List.take_succ_cons,List.take_zero,List.nil_append,List.cons_append,List.append_nil,List.getElem?_cons_succ,List.getElem?_cons_zero,Option.bind_some,Option.map_some,D.capB,dwnA,Nat.reduceEqDiff,Nat.reduceAdd,Nat.reduceLeDiff,Nat.reduceSub,Nat.reduceLT,Nat.reduceMul,Nat.zero_add,Nat.add_zero,reduceCtorEq,↓reduceIte,Bool.and_true,Bool.true_and,Bool.and_self,Bool.not_false,Bool.not_true,decide_true,decide_false,and_self,and_true,true_and,Bool.false_eq_true,ge_iff_le,gt_iff_lt,st_v,st_v1,st_v2,st_p,st_p2,st_c,st_c2,st_y,st_y2,st_u,st_a,st_a2,st_f,ce_v,ce_a,mo_s3,hi,hil,hz,hst,hsto,hbn,htk,hk,hne,hbx,hmu,keyK,memK_key,hm]
  obtain⟨s',k1,k2⟩:=this
  exact⟨s',by rw[if_pos hm];exact k1,fun _=>k2,fun h=>absurd hm h⟩
 ·have:∃s',evC (EF pg) b43x0 (h43 B f b m 25 es i)=some (.nm,s')∧carry [1,2,10,11,12] [] s'=some (h43 (B.modify f (sb b (keyD (ks++[p])))) f b m 25 es (i+1)):=by
   simp only[b43x0,h43,evC]
   simp[-List.all_eq_true,runF,evC,evOps,evStp,evOp,rd,rdL,rds,get,put,putO,argE,res1,resL,mkRes,doCall,unsnoc_append,S.wl,S.wo,lk,ins,sb,bx,sbx,pick,over,D.tupB,D.bnd2,D.bnd1,D.frz2,D.frz1,D.frzP,D.sto1,Value.oneCell',zc,bz,Tc.er,TStp.er,u_,ug_,s_,g_,n_,List.map_cons,List.map_nil,List.all_cons,List.all_nil,List.length_cons,List.length_nil,List.drop_succ_cons,List.drop_zero,List.take_succ_cons,List.take_zero,List.nil_append,List.cons_append,List.append_nil,List.getElem?_cons_succ,List.getElem?_cons_zero,Option.bind_some,Option.map_some,D.capB,dwnA,Nat.reduceEqDiff,Nat.reduceAdd,Nat.reduceLeDiff,Nat.reduceSub,Nat.reduceLT,Nat.reduceMul,Nat.zero_add,Nat.add_zero,reduceCtorEq,↓reduceIte,Bool.and_true,Bool.true_and,Bool.and_self,Bool.not_false,Bool.not_true,decide_true,decide_false,and_self,and_true,true_and,Bool.false_eq_true,ge_iff_le,gt_iff_lt,st_v,st_v1,st_v2,st_p,st_p2,st_c,st_c2,st_y,st_y2,st_u,st_a,st_a2,st_f,ce_v,ce_a,mo_s3,hi,hil,hz,hst,hsto,hbn,htk,hk,hne,hbx,hmu,keyK,memK_key,hm]
   simp[carry,carE,carL,get,D.inn,D.in2,D.in1,hw,hf,keyD_app]
  obtain⟨s',k1,k2⟩:=this
  exact⟨s',by rw[if_neg hm];exact k1,fun h=>absurd h hm,fun _=>k2⟩
theorem e43 {B:List Bx} {f b z:Nat} {m:Bool} {es:List D}:∃s',evC (EF pg) b43x0 (h43 B f b m z es es.length)=some (.ex 0,s')∧s'.o=B∧s'.l=[]:=by
 simp only[b43x0,h43,evC]
 simp[-List.all_eq_true,runF,evC,evOps,evStp,evOp,rd,rdL,rds,get,put,putO,argE,res1,resL,mkRes,doCall,unsnoc_append,S.wl,S.wo,lk,ins,sb,bx,sbx,pick,over,D.tupB,D.bnd2,D.bnd1,D.frz2,D.frz1,D.frzP,D.sto1,Value.oneCell',zc,bz,Tc.er,TStp.er,u_,ug_,s_,g_,n_,List.map_cons,List.map_nil,List.all_cons,List.all_nil,List.length_cons,List.length_nil,List.drop_succ_cons,List.drop_zero,List.take_succ_cons,List.take_zero,List.nil_append,List.cons_append,List.append_nil,List.getElem?_cons_succ,List.getElem?_cons_zero,Option.bind_some,Option.map_some,D.capB,dwnA,Nat.reduceEqDiff,Nat.reduceAdd,Nat.reduceLeDiff,Nat.reduceSub,Nat.reduceLT,Nat.reduceMul,Nat.zero_add,Nat.add_zero,reduceCtorEq,↓reduceIte,Bool.and_true,Bool.true_and,Bool.and_self,Bool.not_false,Bool.not_true,decide_true,decide_false,and_self,and_true,true_and,Bool.false_eq_true,ge_iff_le,gt_iff_lt,st_v,st_v1,st_v2,mo_s3]
theorem i43 {f b:Nat} {m:Bool} {z:Nat} {es:List D} {ps:List (Int×Int)} (hz:es=[]∨z=25) (hlen:es.length<1000000) (hps:ps.length=es.length) (hel:∀(i:Nat) d p,es[i]? =some d->ps[i]? =some p->ElK 25 44 d p):∀(j i:Nat),i+j=es.length->
  ∀(ks:List (Int×Int)) (B:List Bx) (L:Bx),B[f]? =some L->lk b L=some (keyD ks)->f<B.length->∀s,carry [1,2,10,11,12] [] s=some (h43 B f b m z es i)->
  ∃s',iter (evC (EF pg) b43x0) (carry [1,2,10,11,12] []) (j+1) s=some (if(twI (ps.drop i) ks).1=true then .rt else .ex 0,s')∧s'.o=B.modify f (sb b (keyD (twI (ps.drop i) ks).2))∧((twI (ps.drop i) ks).1=true->get 6 s'.e= .v (.bool true))
 |0,i,hij,ks,B,L,hL,hb,hf,s,hs=>by
  obtain rfl:i=es.length:=by omega
  obtain⟨s',k1,k2,_⟩:=e43 (B:=B) (f:=f) (b:=b) (z:=z) (m:=m) (es:=es)
  have hd:ps.drop es.length=[]:=List.drop_eq_nil_of_le (by omega)
  rw[hd]
  refine⟨s',?_,?_,fun h=>(by cases h)⟩
  ·simp only[iter,hs,k1,twI];rfl
  ·rw[k2];exact(mod_self hL hb).symm
 |j+1,i,hij,ks,B,L,hL,hb,hf,s,hs=>by
  have hi:i<es.length:=by omega
  obtain rfl:z=25:=by
   rcases hz with rfl|h
   ·simp at hi
   ·exact h
  have h1:es[i]? =some es[i]:=List.getElem?_eq_getElem hi
  have h2:ps[i]? =some ps[i]:=List.getElem?_eq_getElem (by omega)
  obtain⟨s1,k1,k2,k3⟩:=r43 (m:=m) h1 (hel i _ _ h1 h2) hf hL hb hlen
  have hd:ps.drop i=ps[i]::ps.drop (i+1):=List.drop_eq_getElem_cons (by omega)
  rw[hd]
  by_cases hm:ps[i]∈ks
  ·rw[if_pos hm]at k1
   obtain⟨g6,go⟩:=k2 hm
   refine⟨s1,?_,?_,fun _=>g6⟩
   ·simp only[iter,hs,k1,twI,if_pos hm];rfl
   ·rw[go];simp only[twI,if_pos hm];exact(mod_self hL hb).symm
  ·rw[if_neg hm]at k1
   obtain⟨s',q1,q2,q3⟩:=i43 (m:=m) (.inr rfl) hlen hps hel j (i+1) (by omega) (ks++[ps[i]]) (B.modify f (sb b (keyD (ks++[ps[i]])))) (sb b (keyD (ks++[ps[i]])) L) (by rw[List.getElem?_modify,hL];simp) (by rw[lk_sb,if_pos rfl,hb];rfl) (by simpa using hf) s1 (k3 hm)
   refine⟨s',?_,?_,?_⟩
   ·rw[iter,hs]
    simp only[k1,twI,if_neg hm]
    exact q1
   ·rw[q2]
    simp only[twI,if_neg hm]
    exact mod_mod
   ·simp only[twI,if_neg hm];exact q3
theorem x43 {f b:Nat} {m:Bool} {z:Nat} {es:List D} {ps:List (Int×Int)} (hz:es=[]∨z=25) (hlen:es.length<1000000) (hps:ps.length=es.length) (hel:∀(i:Nat) d p,es[i]? =some d->ps[i]? =some p->ElK 25 44 d p)
  {ks:List (Int×Int)} {B:List Bx} {L:Bx} (hL:B[f]? =some L) (hb:lk b L=some (keyD ks)) (hf:f<B.length):
  EF pg 43 [.sl (mo m) z es,.clo 44 [],.yld f b] B=some (.v (.bool (twI ps ks).1),B.modify f (sb b (keyD (twI ps ks).2))):=by
 have hcar:carry [1,2,10,11,12] [] ⟨[(12,.v (.int .i64 0)),(11,.v (.int .i64 es.length)),(10,.sl (mo m) z es),(6,.v (.bool false)),(0,.sl (mo m) z es),(1,.clo 44 []),(2,.yld f b)],[],B⟩=some (h43 B f b m z es 0):=by
  simp[carry,carE,carL,get,D.inn,D.in2,D.in1,h43,hf]
 obtain⟨s',k1,k2,k3⟩:=i43 (m:=m) hz hlen hps hel es.length 0 (by omega) ks B L hL hb hf _ hcar
 have hlp:evC (EF pg) l43x0 ⟨[(12,.v (.int .i64 0)),(11,.v (.int .i64 es.length)),(10,.sl (mo m) z es),(6,.v (.bool false)),(0,.sl (mo m) z es),(1,.clo 44 []),(2,.yld f b)],[],B⟩=some (if(twI ps ks).1=true then .rt else .ex 0,s'):=by
  simp only[l43x0,evC]
  exact lim_eq (n:=es.length+1) (fun n r=>iter_step n r) k1
 rw[List.drop_zero]at k2 k3
 rw[EF_eq]
 by_cases ht:(twI ps ks).1=true
 ·have g6:=k3 ht
  rw[if_pos ht]at hlp
  simp[-List.all_eq_true,runF,evC,evOps,evStp,evOp,rd,rdL,rds,get,put,putO,argE,res1,resL,mkRes,doCall,unsnoc_append,S.wl,S.wo,lk,ins,sb,bx,sbx,pick,over,D.tupB,D.bnd2,D.bnd1,D.frz2,D.frz1,D.frzP,D.sto1,Value.oneCell',zc,bz,Tc.er,TStp.er,u_,ug_,s_,g_,n_,List.map_cons,List.map_nil,List.all_cons,List.all_nil,List.length_cons,List.length_nil,List.drop_succ_cons,List.drop_zero,List.take_succ_cons,List.take_zero,List.nil_append,List.cons_append,List.append_nil,List.getElem?_cons_succ,List.getElem?_cons_zero,Option.bind_some,Option.map_some,D.capB,dwnA,Nat.reduceEqDiff,Nat.reduceAdd,Nat.reduceLeDiff,Nat.reduceSub,Nat.reduceLT,Nat.reduceMul,Nat.zero_add,Nat.add_zero,reduceCtorEq,↓reduceIte,Bool.and_true,Bool.true_and,Bool.and_self,Bool.not_false,Bool.not_true,decide_true,decide_false,and_self,and_true,true_and,Bool.false_eq_true,ge_iff_le,gt_iff_lt,p43,F43,c43,st_v,st_v1,st_v2,st_c,st_c2,st_y,st_y2,mo_s2,mo_s3,hlp,g6,ht,k2]
 ·rw[if_neg ht]at hlp
  simp[-List.all_eq_true,runF,evC,evOps,evStp,evOp,rd,rdL,rds,get,put,putO,argE,res1,resL,mkRes,doCall,unsnoc_append,S.wl,S.wo,lk,ins,sb,bx,sbx,pick,over,D.tupB,D.bnd2,D.bnd1,D.frz2,D.frz1,D.frzP,D.sto1,Value.oneCell',zc,bz,Tc.er,TStp.er,u_,ug_,s_,g_,n_,List.map_cons,List.map_nil,List.all_cons,List.all_nil,List.length_cons,List.length_nil,List.drop_succ_cons,List.drop_zero,List.take_succ_cons,List.take_zero,List.nil_append,List.cons_append,List.append_nil,List.getElem?_cons_succ,List.getElem?_cons_zero,Option.bind_some,Option.map_some,D.capB,dwnA,Nat.reduceEqDiff,Nat.reduceAdd,Nat.reduceLeDiff,Nat.reduceSub,Nat.reduceLT,Nat.reduceMul,Nat.zero_add,Nat.add_zero,reduceCtorEq,↓reduceIte,Bool.and_true,Bool.true_and,Bool.and_self,Bool.not_false,Bool.not_true,decide_true,decide_false,and_self,and_true,true_and,Bool.false_eq_true,ge_iff_le,gt_iff_lt,p43,F43,c43,st_v,st_v1,st_v2,st_c,st_c2,st_y,st_y2,mo_s2,mo_s3,hlp,ht,k2]
def h45 (B:List Bx) (f b:Nat) (m:Bool) (z:Nat) (es:List D) (i:Nat):S:=⟨[(1,.clo 46 []),(2,.yld f b),(10,.sl (mo m) z es),(11,.v (.int .i64 es.length)),(12,.v (.int .i64 i))],[],B⟩
theorem r45 {B:List Bx} {f b i:Nat} {m:Bool} {es:List D} {d:D} {p:Int×Int} {ks:List (Int×Int)} {L:Bx} (hi:es[i]? =some d) (hd:ElK 9 46 d p) (hf:f<B.length) (hL:B[f]? =some L) (hb:lk b L=some (keyD ks)) (hlen:es.length<1000000):
  ∃s',evC (EF pg) b45x0 (h45 B f b m 9 es i)=some (if p∈ks then .rt else .nm,s')∧(p∈ks->get 6 s'.e= .v (.bool true)∧s'.o=B)∧(p∉ks->carry [1,2,10,11,12] [] s'=some (h45 (B.modify f (sb b (keyD (ks++[p])))) f b m 9 es (i+1))):=by
 obtain⟨⟨cs,rfl,hz,hrf⟩,hk⟩:=hd
 have hlt:=getq_lt hi
 have hil:(i:Int)<es.length:=by omega
 have hne:¬ f=B.length:=by omega
 have hst:=rf_st hrf
 have hsto:=rf_sto hrf
 have hbn:=fun k=>rf_bnd hrf k
 have htk:=len1 hz
 have hw:IntKind.i64.wrap ((i:Int)+1)=((i+1:Nat):Int):=by
  simp only[IntKind.wrap,IntKind.bits,IntKind.signed]
  simp
  omega
 have hmu:=mo_ne m
 have hf1:f<B.length+1:=by omega
 have hbx:(B[f]?).bind (lk b)=some (keyD ks):=by rw[hL];exact hb
 by_cases hm:p∈ks
 ·have:∃s',evC (EF pg) b45x0 (h45 B f b m 9 es i)=some (.rt,s')∧get 6 s'.e= .v (.bool true)∧s'.o=B:=by
   simp only[b45x0,h45,evC]
   simp[-List.all_eq_true,runF,evC,evOps,evStp,evOp,rd,rdL,rds,get,put,putO,argE,res1,resL,mkRes,doCall,unsnoc_append,S.wl,S.wo,lk,ins,sb,bx,sbx,pick,over,D.tupB,D.bnd2,D.bnd1,D.frz2,D.frz1,D.frzP,D.sto1,Value.oneCell',zc,bz,Tc.er,TStp.er,u_,ug_,s_,g_,n_,List.map_cons,List.map_nil,List.all_cons,List.all_nil,List.length_cons,List.length_nil,List.drop_succ_cons,List.drop_zero,List.take_succ_cons,List.take_zero,List.nil_append,List.cons_append,List.append_nil,List.getElem?_cons_succ,List.getElem?_cons_zero,Option.bind_some,Option.map_some,D.capB,dwnA,Nat.reduceEqDiff,Nat.reduceAdd,Nat.reduceLeDiff,Nat.reduceSub,Nat.reduceLT,Nat.reduceMul,Nat.zero_add,Nat.add_zero,reduceCtorEq,↓reduceIte,Bool.and_true,Bool.true_and,Bool.and_self,Bool.not_false,Bool.not_true,decide_true,decide_false,and_self,and_true,true_and,Bool.false_eq_true,ge_iff_le,gt_iff_lt,st_v,st_v1,st_v2,st_p,st_p2,st_c,st_c2,st_y,st_y2,st_u,st_a,st_a2,st_f,ce_v,ce_a,mo_s3,hi,hil,hz,hst,hsto,hbn,htk,hk,hne,hbx,hmu,keyK,memK_key,hm]
  obtain⟨s',k1,k2⟩:=this
  exact⟨s',by rw[if_pos hm];exact k1,fun _=>k2,fun h=>absurd hm h⟩
 ·have:∃s',evC (EF pg) b45x0 (h45 B f b m 9 es i)=some (.nm,s')∧carry [1,2,10,11,12] [] s'=some (h45 (B.modify f (sb b (keyD (ks++[p])))) f b m 9 es (i+1)):=by
   simp only[b45x0,h45,evC]
   simp[-List.all_eq_true,runF,evC,evOps,evStp,evOp,rd,rdL,rds,get,put,putO,argE,res1,resL,mkRes,doCall,unsnoc_append,S.wl,S.wo,lk,ins,sb,bx,sbx,pick,over,D.tupB,D.bnd2,D.bnd1,D.frz2,D.frz1,D.frzP,D.sto1,Value.oneCell',zc,bz,Tc.er,TStp.er,u_,ug_,s_,g_,n_,List.map_cons,List.map_nil,List.all_cons,List.all_nil,List.length_cons,List.length_nil,List.drop_succ_cons,List.drop_zero,List.take_succ_cons,List.take_zero,List.nil_append,List.cons_append,List.append_nil,List.getElem?_cons_succ,List.getElem?_cons_zero,Option.bind_some,Option.map_some,D.capB,dwnA,Nat.reduceEqDiff,Nat.reduceAdd,Nat.reduceLeDiff,Nat.reduceSub,Nat.reduceLT,Nat.reduceMul,Nat.zero_add,Nat.add_zero,reduceCtorEq,↓reduceIte,Bool.and_true,Bool.true_and,Bool.and_self,Bool.not_false,Bool.not_true,decide_true,decide_false,and_self,and_true,true_and,Bool.false_eq_true,ge_iff_le,gt_iff_lt,st_v,st_v1,st_v2,st_p,st_p2,st_c,st_c2,st_y,st_y2,st_u,st_a,st_a2,st_f,ce_v,ce_a,mo_s3,hi,hil,hz,hst,hsto,hbn,htk,hk,hne,hbx,hmu,keyK,memK_key,hm]
   simp[carry,carE,carL,get,D.inn,D.in2,D.in1,hw,hf,keyD_app]
  obtain⟨s',k1,k2⟩:=this
  exact⟨s',by rw[if_neg hm];exact k1,fun h=>absurd h hm,fun _=>k2⟩
theorem e45 {B:List Bx} {f b z:Nat} {m:Bool} {es:List D}:∃s',evC (EF pg) b45x0 (h45 B f b m z es es.length)=some (.ex 0,s')∧s'.o=B∧s'.l=[]:=by
 simp only[b45x0,h45,evC]
 simp[-List.all_eq_true,runF,evC,evOps,evStp,evOp,rd,rdL,rds,get,put,putO,argE,res1,resL,mkRes,doCall,unsnoc_append,S.wl,S.wo,lk,ins,sb,bx,sbx,pick,over,D.tupB,D.bnd2,D.bnd1,D.frz2,D.frz1,D.frzP,D.sto1,Value.oneCell',zc,bz,Tc.er,TStp.er,u_,ug_,s_,g_,n_,List.map_cons,List.map_nil,List.all_cons,List.all_nil,List.length_cons,List.length_nil,List.drop_succ_cons,List.drop_zero,List.take_succ_cons,List.take_zero,List.nil_append,List.cons_append,List.append_nil,List.getElem?_cons_succ,List.getElem?_cons_zero,Option.bind_some,Option.map_some,D.capB,dwnA,Nat.reduceEqDiff,Nat.reduceAdd,Nat.reduceLeDiff,Nat.reduceSub,Nat.reduceLT,Nat.reduceMul,Nat.zero_add,Nat.add_zero,reduceCtorEq,↓reduceIte,Bool.and_true,Bool.true_and,Bool.and_self,Bool.not_false,Bool.not_true,decide_true,decide_false,and_self,and_true,true_and,Bool.false_eq_true,ge_iff_le,gt_iff_lt,st_v,st_v1,st_v2,mo_s3]
theorem i45 {f b:Nat} {m:Bool} {z:Nat} {es:List D} {ps:List (Int×Int)} (hz:es=[]∨z=9) (hlen:es.length<1000000) (hps:ps.length=es.length) (hel:∀(i:Nat) d p,es[i]? =some d->ps[i]? =some p->ElK 9 46 d p):∀(j i:Nat),i+j=es.length->
  ∀(ks:List (Int×Int)) (B:List Bx) (L:Bx),B[f]? =some L->lk b L=some (keyD ks)->f<B.length->∀s,carry [1,2,10,11,12] [] s=some (h45 B f b m z es i)->
  ∃s',iter (evC (EF pg) b45x0) (carry [1,2,10,11,12] []) (j+1) s=some (if(twI (ps.drop i) ks).1=true then .rt else .ex 0,s')∧s'.o=B.modify f (sb b (keyD (twI (ps.drop i) ks).2))∧((twI (ps.drop i) ks).1=true->get 6 s'.e= .v (.bool true))
 |0,i,hij,ks,B,L,hL,hb,hf,s,hs=>by
  obtain rfl:i=es.length:=by omega
  obtain⟨s',k1,k2,_⟩:=e45 (B:=B) (f:=f) (b:=b) (z:=z) (m:=m) (es:=es)
  have hd:ps.drop es.length=[]:=List.drop_eq_nil_of_le (by omega)
  rw[hd]
  refine⟨s',?_,?_,fun h=>(by cases h)⟩
  ·simp only[iter,hs,k1,twI];rfl
  ·rw[k2];exact(mod_self hL hb).symm
 |j+1,i,hij,ks,B,L,hL,hb,hf,s,hs=>by
  have hi:i<es.length:=by omega
  obtain rfl:z=9:=by
   rcases hz with rfl|h
   ·simp at hi
   ·exact h
  have h1:es[i]? =some es[i]:=List.getElem?_eq_getElem hi
  have h2:ps[i]? =some ps[i]:=List.getElem?_eq_getElem (by omega)
  obtain⟨s1,k1,k2,k3⟩:=r45 (m:=m) h1 (hel i _ _ h1 h2) hf hL hb hlen
  have hd:ps.drop i=ps[i]::ps.drop (i+1):=List.drop_eq_getElem_cons (by omega)
  rw[hd]
  by_cases hm:ps[i]∈ks
  ·rw[if_pos hm]at k1
   obtain⟨g6,go⟩:=k2 hm
   refine⟨s1,?_,?_,fun _=>g6⟩
   ·simp only[iter,hs,k1,twI,if_pos hm];rfl
   ·rw[go];simp only[twI,if_pos hm];exact(mod_self hL hb).symm
  ·rw[if_neg hm]at k1
   obtain⟨s',q1,q2,q3⟩:=i45 (m:=m) (.inr rfl) hlen hps hel j (i+1) (by omega) (ks++[ps[i]]) (B.modify f (sb b (keyD (ks++[ps[i]])))) (sb b (keyD (ks++[ps[i]])) L) (by rw[List.getElem?_modify,hL];simp) (by rw[lk_sb,if_pos rfl,hb];rfl) (by simpa using hf) s1 (k3 hm)
   refine⟨s',?_,?_,?_⟩
   ·rw[iter,hs]
    simp only[k1,twI,if_neg hm]
    exact q1
   ·rw[q2]
    simp only[twI,if_neg hm]
    exact mod_mod
   ·simp only[twI,if_neg hm];exact q3
theorem x45 {f b:Nat} {m:Bool} {z:Nat} {es:List D} {ps:List (Int×Int)} (hz:es=[]∨z=9) (hlen:es.length<1000000) (hps:ps.length=es.length) (hel:∀(i:Nat) d p,es[i]? =some d->ps[i]? =some p->ElK 9 46 d p)
  {ks:List (Int×Int)} {B:List Bx} {L:Bx} (hL:B[f]? =some L) (hb:lk b L=some (keyD ks)) (hf:f<B.length):
  EF pg 45 [.sl (mo m) z es,.clo 46 [],.yld f b] B=some (.v (.bool (twI ps ks).1),B.modify f (sb b (keyD (twI ps ks).2))):=by
 have hcar:carry [1,2,10,11,12] [] ⟨[(12,.v (.int .i64 0)),(11,.v (.int .i64 es.length)),(10,.sl (mo m) z es),(6,.v (.bool false)),(0,.sl (mo m) z es),(1,.clo 46 []),(2,.yld f b)],[],B⟩=some (h45 B f b m z es 0):=by
  simp[carry,carE,carL,get,D.inn,D.in2,D.in1,h45,hf]
 obtain⟨s',k1,k2,k3⟩:=i45 (m:=m) hz hlen hps hel es.length 0 (by omega) ks B L hL hb hf _ hcar
 have hlp:evC (EF pg) l45x0 ⟨[(12,.v (.int .i64 0)),(11,.v (.int .i64 es.length)),(10,.sl (mo m) z es),(6,.v (.bool false)),(0,.sl (mo m) z es),(1,.clo 46 []),(2,.yld f b)],[],B⟩=some (if(twI ps ks).1=true then .rt else .ex 0,s'):=by
  simp only[l45x0,evC]
  exact lim_eq (n:=es.length+1) (fun n r=>iter_step n r) k1
 rw[List.drop_zero]at k2 k3
 rw[EF_eq]
 by_cases ht:(twI ps ks).1=true
 ·have g6:=k3 ht
  rw[if_pos ht]at hlp
  simp[-List.all_eq_true,runF,evC,evOps,evStp,evOp,rd,rdL,rds,get,put,putO,argE,res1,resL,mkRes,doCall,unsnoc_append,S.wl,S.wo,lk,ins,sb,bx,sbx,pick,over,D.tupB,D.bnd2,D.bnd1,D.frz2,D.frz1,D.frzP,D.sto1,Value.oneCell',zc,bz,Tc.er,TStp.er,u_,ug_,s_,g_,n_,List.map_cons,List.map_nil,List.all_cons,List.all_nil,List.length_cons,List.length_nil,List.drop_succ_cons,List.drop_zero,List.take_succ_cons,List.take_zero,List.nil_append,List.cons_append,List.append_nil,List.getElem?_cons_succ,List.getElem?_cons_zero,Option.bind_some,Option.map_some,D.capB,dwnA,Nat.reduceEqDiff,Nat.reduceAdd,Nat.reduceLeDiff,Nat.reduceSub,Nat.reduceLT,Nat.reduceMul,Nat.zero_add,Nat.add_zero,reduceCtorEq,↓reduceIte,Bool.and_true,Bool.true_and,Bool.and_self,Bool.not_false,Bool.not_true,decide_true,decide_false,and_self,and_true,true_and,Bool.false_eq_true,ge_iff_le,gt_iff_lt,p45,F45,c45,st_v,st_v1,st_v2,st_c,st_c2,st_y,st_y2,mo_s2,mo_s3,hlp,g6,ht,k2]
 ·rw[if_neg ht]at hlp
  simp[-List.all_eq_true,runF,evC,evOps,evStp,evOp,rd,rdL,rds,get,put,putO,argE,res1,resL,mkRes,doCall,unsnoc_append,S.wl,S.wo,lk,ins,sb,bx,sbx,pick,over,D.tupB,D.bnd2,D.bnd1,D.frz2,D.frz1,D.frzP,D.sto1,Value.oneCell',zc,bz,Tc.er,TStp.er,u_,ug_,s_,g_,n_,List.map_cons,List.map_nil,List.all_cons,List.all_nil,List.length_cons,List.length_nil,List.drop_succ_cons,List.drop_zero,List.take_succ_cons,List.take_zero,List.nil_append,List.cons_append,List.append_nil,List.getElem?_cons_succ,List.getElem?_cons_zero,Option.bind_some,Option.map_some,D.capB,dwnA,Nat.reduceEqDiff,Nat.reduceAdd,Nat.reduceLeDiff,Nat.reduceSub,Nat.reduceLT,Nat.reduceMul,Nat.zero_add,Nat.add_zero,reduceCtorEq,↓reduceIte,Bool.and_true,Bool.true_and,Bool.and_self,Bool.not_false,Bool.not_true,decide_true,decide_false,and_self,and_true,true_and,Bool.false_eq_true,ge_iff_le,gt_iff_lt,p45,F45,c45,st_v,st_v1,st_v2,st_c,st_c2,st_y,st_y2,mo_s2,mo_s3,hlp,ht,k2]
def h47 (B:List Bx) (f b:Nat) (m:Bool) (z:Nat) (es:List D) (i:Nat):S:=⟨[(1,.clo 48 []),(2,.yld f b),(10,.sl (mo m) z es),(11,.v (.int .i64 es.length)),(12,.v (.int .i64 i))],[],B⟩
theorem r47 {B:List Bx} {f b i:Nat} {m:Bool} {es:List D} {d:D} {p:Int×Int} {ks:List (Int×Int)} {L:Bx} (hi:es[i]? =some d) (hd:ElK 5 48 d p) (hf:f<B.length) (hL:B[f]? =some L) (hb:lk b L=some (keyD ks)) (hlen:es.length<1000000):
  ∃s',evC (EF pg) b47x0 (h47 B f b m 5 es i)=some (if p∈ks then .rt else .nm,s')∧(p∈ks->get 6 s'.e= .v (.bool true)∧s'.o=B)∧(p∉ks->carry [1,2,10,11,12] [] s'=some (h47 (B.modify f (sb b (keyD (ks++[p])))) f b m 5 es (i+1))):=by
 obtain⟨⟨cs,rfl,hz,hrf⟩,hk⟩:=hd
 have hlt:=getq_lt hi
 have hil:(i:Int)<es.length:=by omega
 have hne:¬ f=B.length:=by omega
 have hst:=rf_st hrf
 have hsto:=rf_sto hrf
 have hbn:=fun k=>rf_bnd hrf k
 have htk:=len1 hz
 have hw:IntKind.i64.wrap ((i:Int)+1)=((i+1:Nat):Int):=by
  simp only[IntKind.wrap,IntKind.bits,IntKind.signed]
  simp
  omega
 have hmu:=mo_ne m
 have hf1:f<B.length+1:=by omega
 have hbx:(B[f]?).bind (lk b)=some (keyD ks):=by rw[hL];exact hb
 by_cases hm:p∈ks
 ·have:∃s',evC (EF pg) b47x0 (h47 B f b m 5 es i)=some (.rt,s')∧get 6 s'.e= .v (.bool true)∧s'.o=B:=by
   simp only[b47x0,h47,evC]
   simp[-List.all_eq_true,runF,evC,evOps,evStp,evOp,rd,rdL,rds,get,put,putO,argE,res1,resL,mkRes,doCall,unsnoc_append,S.wl,S.wo,lk,ins,sb,bx,sbx,pick,over,D.tupB,D.bnd2,D.bnd1,D.frz2,D.frz1,D.frzP,D.sto1,Value.oneCell',zc,bz,Tc.er,TStp.er,u_,ug_,s_,g_,n_,List.map_cons,List.map_nil,List.all_cons,List.all_nil,List.length_cons,List.length_nil,List.drop_succ_cons,List.drop_zero,List.take_succ_cons,List.take_zero,List.nil_append,List.cons_append,List.append_nil,List.getElem?_cons_succ,List.getElem?_cons_zero,Option.bind_some,Option.map_some,D.capB,dwnA,Nat.reduceEqDiff,Nat.reduceAdd,Nat.reduceLeDiff,Nat.reduceSub,Nat.reduceLT,Nat.reduceMul,Nat.zero_add,Nat.add_zero,reduceCtorEq,↓reduceIte,Bool.and_true,Bool.true_and,Bool.and_self,Bool.not_false,Bool.not_true,decide_true,decide_false,and_self,and_true,true_and,Bool.false_eq_true,ge_iff_le,gt_iff_lt,st_v,st_v1,st_v2,st_p,st_p2,st_c,st_c2,st_y,st_y2,st_u,st_a,st_a2,st_f,ce_v,ce_a,mo_s3,hi,hil,hz,hst,hsto,hbn,htk,hk,hne,hbx,hmu,keyK,memK_key,hm]
  obtain⟨s',k1,k2⟩:=this
  exact⟨s',by rw[if_pos hm];exact k1,fun _=>k2,fun h=>absurd hm h⟩
 ·have:∃s',evC (EF pg) b47x0 (h47 B f b m 5 es i)=some (.nm,s')∧carry [1,2,10,11,12] [] s'=some (h47 (B.modify f (sb b (keyD (ks++[p])))) f b m 5 es (i+1)):=by
   simp only[b47x0,h47,evC]
   simp[-List.all_eq_true,runF,evC,evOps,evStp,evOp,rd,rdL,rds,get,put,putO,argE,res1,resL,mkRes,doCall,unsnoc_append,S.wl,S.wo,lk,ins,sb,bx,sbx,pick,over,D.tupB,D.bnd2,D.bnd1,D.frz2,D.frz1,D.frzP,D.sto1,Value.oneCell',zc,bz,Tc.er,TStp.er,u_,ug_,s_,g_,n_,List.map_cons,List.map_nil,List.all_cons,List.all_nil,List.length_cons,List.length_nil,List.drop_succ_cons,List.drop_zero,List.take_succ_cons,List.take_zero,List.nil_append,List.cons_append,List.append_nil,List.getElem?_cons_succ,List.getElem?_cons_zero,Option.bind_some,Option.map_some,D.capB,dwnA,Nat.reduceEqDiff,Nat.reduceAdd,Nat.reduceLeDiff,Nat.reduceSub,Nat.reduceLT,Nat.reduceMul,Nat.zero_add,Nat.add_zero,reduceCtorEq,↓reduceIte,Bool.and_true,Bool.true_and,Bool.and_self,Bool.not_false,Bool.not_true,decide_true,decide_false,and_self,and_true,true_and,Bool.false_eq_true,ge_iff_le,gt_iff_lt,st_v,st_v1,st_v2,st_p,st_p2,st_c,st_c2,st_y,st_y2,st_u,st_a,st_a2,st_f,ce_v,ce_a,mo_s3,hi,hil,hz,hst,hsto,hbn,htk,hk,hne,hbx,hmu,keyK,memK_key,hm]
   simp[carry,carE,carL,get,D.inn,D.in2,D.in1,hw,hf,keyD_app]
  obtain⟨s',k1,k2⟩:=this
  exact⟨s',by rw[if_neg hm];exact k1,fun h=>absurd h hm,fun _=>k2⟩
theorem e47 {B:List Bx} {f b z:Nat} {m:Bool} {es:List D}:∃s',evC (EF pg) b47x0 (h47 B f b m z es es.length)=some (.ex 0,s')∧s'.o=B∧s'.l=[]:=by
 simp only[b47x0,h47,evC]
 simp[-List.all_eq_true,runF,evC,evOps,evStp,evOp,rd,rdL,rds,get,put,putO,argE,res1,resL,mkRes,doCall,unsnoc_append,S.wl,S.wo,lk,ins,sb,bx,sbx,pick,over,D.tupB,D.bnd2,D.bnd1,D.frz2,D.frz1,D.frzP,D.sto1,Value.oneCell',zc,bz,Tc.er,TStp.er,u_,ug_,s_,g_,n_,List.map_cons,List.map_nil,List.all_cons,List.all_nil,List.length_cons,List.length_nil,List.drop_succ_cons,List.drop_zero,List.take_succ_cons,List.take_zero,List.nil_append,List.cons_append,List.append_nil,List.getElem?_cons_succ,List.getElem?_cons_zero,Option.bind_some,Option.map_some,D.capB,dwnA,Nat.reduceEqDiff,Nat.reduceAdd,Nat.reduceLeDiff,Nat.reduceSub,Nat.reduceLT,Nat.reduceMul,Nat.zero_add,Nat.add_zero,reduceCtorEq,↓reduceIte,Bool.and_true,Bool.true_and,Bool.and_self,Bool.not_false,Bool.not_true,decide_true,decide_false,and_self,and_true,true_and,Bool.false_eq_true,ge_iff_le,gt_iff_lt,st_v,st_v1,st_v2,mo_s3]
theorem i47 {f b:Nat} {m:Bool} {z:Nat} {es:List D} {ps:List (Int×Int)} (hz:es=[]∨z=5) (hlen:es.length<1000000) (hps:ps.length=es.length) (hel:∀(i:Nat) d p,es[i]? =some d->ps[i]? =some p->ElK 5 48 d p):∀(j i:Nat),i+j=es.length->
  ∀(ks:List (Int×Int)) (B:List Bx) (L:Bx),B[f]? =some L->lk b L=some (keyD ks)->f<B.length->∀s,carry [1,2,10,11,12] [] s=some (h47 B f b m z es i)->
  ∃s',iter (evC (EF pg) b47x0) (carry [1,2,10,11,12] []) (j+1) s=some (if(twI (ps.drop i) ks).1=true then .rt else .ex 0,s')∧s'.o=B.modify f (sb b (keyD (twI (ps.drop i) ks).2))∧((twI (ps.drop i) ks).1=true->get 6 s'.e= .v (.bool true))
 |0,i,hij,ks,B,L,hL,hb,hf,s,hs=>by
  obtain rfl:i=es.length:=by omega
  obtain⟨s',k1,k2,_⟩:=e47 (B:=B) (f:=f) (b:=b) (z:=z) (m:=m) (es:=es)
  have hd:ps.drop es.length=[]:=List.drop_eq_nil_of_le (by omega)
  rw[hd]
  refine⟨s',?_,?_,fun h=>(by cases h)⟩
  ·simp only[iter,hs,k1,twI];rfl
  ·rw[k2];exact(mod_self hL hb).symm
 |j+1,i,hij,ks,B,L,hL,hb,hf,s,hs=>by
  have hi:i<es.length:=by omega
  obtain rfl:z=5:=by
   rcases hz with rfl|h
   ·simp at hi
   ·exact h
  have h1:es[i]? =some es[i]:=List.getElem?_eq_getElem hi
  have h2:ps[i]? =some ps[i]:=List.getElem?_eq_getElem (by omega)
  obtain⟨s1,k1,k2,k3⟩:=r47 (m:=m) h1 (hel i _ _ h1 h2) hf hL hb hlen
  have hd:ps.drop i=ps[i]::ps.drop (i+1):=List.drop_eq_getElem_cons (by omega)
  rw[hd]
  by_cases hm:ps[i]∈ks
  ·rw[if_pos hm]at k1
   obtain⟨g6,go⟩:=k2 hm
   refine⟨s1,?_,?_,fun _=>g6⟩
   ·simp only[iter,hs,k1,twI,if_pos hm];rfl
   ·rw[go];simp only[twI,if_pos hm];exact(mod_self hL hb).symm
  ·rw[if_neg hm]at k1
   obtain⟨s',q1,q2,q3⟩:=i47 (m:=m) (.inr rfl) hlen hps hel j (i+1) (by omega) (ks++[ps[i]]) (B.modify f (sb b (keyD (ks++[ps[i]])))) (sb b (keyD (ks++[ps[i]])) L) (by rw[List.getElem?_modify,hL];simp) (by rw[lk_sb,if_pos rfl,hb];rfl) (by simpa using hf) s1 (k3 hm)
   refine⟨s',?_,?_,?_⟩
   ·rw[iter,hs]
    simp only[k1,twI,if_neg hm]
    exact q1
   ·rw[q2]
    simp only[twI,if_neg hm]
    exact mod_mod
   ·simp only[twI,if_neg hm];exact q3
theorem x47 {f b:Nat} {m:Bool} {z:Nat} {es:List D} {ps:List (Int×Int)} (hz:es=[]∨z=5) (hlen:es.length<1000000) (hps:ps.length=es.length) (hel:∀(i:Nat) d p,es[i]? =some d->ps[i]? =some p->ElK 5 48 d p)
  {ks:List (Int×Int)} {B:List Bx} {L:Bx} (hL:B[f]? =some L) (hb:lk b L=some (keyD ks)) (hf:f<B.length):
  EF pg 47 [.sl (mo m) z es,.clo 48 [],.yld f b] B=some (.v (.bool (twI ps ks).1),B.modify f (sb b (keyD (twI ps ks).2))):=by
 have hcar:carry [1,2,10,11,12] [] ⟨[(12,.v (.int .i64 0)),(11,.v (.int .i64 es.length)),(10,.sl (mo m) z es),(6,.v (.bool false)),(0,.sl (mo m) z es),(1,.clo 48 []),(2,.yld f b)],[],B⟩=some (h47 B f b m z es 0):=by
  simp[carry,carE,carL,get,D.inn,D.in2,D.in1,h47,hf]
 obtain⟨s',k1,k2,k3⟩:=i47 (m:=m) hz hlen hps hel es.length 0 (by omega) ks B L hL hb hf _ hcar
 have hlp:evC (EF pg) l47x0 ⟨[(12,.v (.int .i64 0)),(11,.v (.int .i64 es.length)),(10,.sl (mo m) z es),(6,.v (.bool false)),(0,.sl (mo m) z es),(1,.clo 48 []),(2,.yld f b)],[],B⟩=some (if(twI ps ks).1=true then .rt else .ex 0,s'):=by
  simp only[l47x0,evC]
  exact lim_eq (n:=es.length+1) (fun n r=>iter_step n r) k1
 rw[List.drop_zero]at k2 k3
 rw[EF_eq]
 by_cases ht:(twI ps ks).1=true
 ·have g6:=k3 ht
  rw[if_pos ht]at hlp
  simp[-List.all_eq_true,runF,evC,evOps,evStp,evOp,rd,rdL,rds,get,put,putO,argE,res1,resL,mkRes,doCall,unsnoc_append,S.wl,S.wo,lk,ins,sb,bx,sbx,pick,over,D.tupB,D.bnd2,D.bnd1,D.frz2,D.frz1,D.frzP,D.sto1,Value.oneCell',zc,bz,Tc.er,TStp.er,u_,ug_,s_,g_,n_,List.map_cons,List.map_nil,List.all_cons,List.all_nil,List.length_cons,List.length_nil,List.drop_succ_cons,List.drop_zero,List.take_succ_cons,List.take_zero,List.nil_append,List.cons_append,List.append_nil,List.getElem?_cons_succ,List.getElem?_cons_zero,Option.bind_some,Option.map_some,D.capB,dwnA,Nat.reduceEqDiff,Nat.reduceAdd,Nat.reduceLeDiff,Nat.reduceSub,Nat.reduceLT,Nat.reduceMul,Nat.zero_add,Nat.add_zero,reduceCtorEq,↓reduceIte,Bool.and_true,Bool.true_and,Bool.and_self,Bool.not_false,Bool.not_true,decide_true,decide_false,and_self,and_true,true_and,Bool.false_eq_true,ge_iff_le,gt_iff_lt,p47,F47,c47,st_v,st_v1,st_v2,st_c,st_c2,st_y,st_y2,mo_s2,mo_s3,hlp,g6,ht,k2]
 ·rw[if_neg ht]at hlp
  simp[-List.all_eq_true,runF,evC,evOps,evStp,evOp,rd,rdL,rds,get,put,putO,argE,res1,resL,mkRes,doCall,unsnoc_append,S.wl,S.wo,lk,ins,sb,bx,sbx,pick,over,D.tupB,D.bnd2,D.bnd1,D.frz2,D.frz1,D.frzP,D.sto1,Value.oneCell',zc,bz,Tc.er,TStp.er,u_,ug_,s_,g_,n_,List.map_cons,List.map_nil,List.all_cons,List.all_nil,List.length_cons,List.length_nil,List.drop_succ_cons,List.drop_zero,List.take_succ_cons,List.take_zero,List.nil_append,List.cons_append,List.append_nil,List.getElem?_cons_succ,List.getElem?_cons_zero,Option.bind_some,Option.map_some,D.capB,dwnA,Nat.reduceEqDiff,Nat.reduceAdd,Nat.reduceLeDiff,Nat.reduceSub,Nat.reduceLT,Nat.reduceMul,Nat.zero_add,Nat.add_zero,reduceCtorEq,↓reduceIte,Bool.and_true,Bool.true_and,Bool.and_self,Bool.not_false,Bool.not_true,decide_true,decide_false,and_self,and_true,true_and,Bool.false_eq_true,ge_iff_le,gt_iff_lt,p47,F47,c47,st_v,st_v1,st_v2,st_c,st_c2,st_y,st_y2,mo_s2,mo_s3,hlp,ht,k2]
end Go.Proofs.Ytfopbiiffiickaa.Ev.U
set_option maxRecDepth 100000
namespace Go.Proofs.Ytfopbiiffiickaa.Ev.U
open Go
theorem call_v {k:Nat} {a:AK} {ak:List AK} {r:Ty} {f:(Sg.mk (a::ak) r).aT.T->Option (Sg.mk (a::ak) r).oT.T} (o:TOK (EF pg) k (.par ⟨a::ak,r⟩ f)) (hv:∀b∈a::ak,∃τ,b= .v τ) (ht:(Sg.mk (a::ak) r).aT.tupk=true)
  {F:List Fx} (n:Nat) (hlt:∀x∈F,x.f<n) {x:(Sg.mk (a::ak) r).aT.T} {ds:List D} (hl:ds.length=(a::ak).length) (hr:RepL (EF pg) (Sg.mk (a::ak) r).aT F x ds) {y:(Sg.mk (a::ak) r).oT.T} (hy:f x=some y):
  ∃d,Rep4 (c0 (EF pg)) (outW r (xsOf (a::ak)) y).1 d∧∀B:List Bx,B.length=n->Sat F B->EF pg k ds B=some (d,B):=by
 have hok:Cx.ok ⟨EF pg,F,n,[],fun _=>[]⟩:=⟨(fun r h=>by cases h),(fun i j r q h=>by simp at h),fun x h=>⟨hlt x h,fun r h=>by cases h⟩⟩
 have hw:=tupW_ok (c:=⟨EF pg,F,n,[],fun _=>[]⟩) ht hr
 have harg:=argl_v (c':=⟨EF pg,F,n,[],fun _=>[]⟩) hv (by rw[<-hl,hw.length]) hw
 obtain⟨d,Y',r1,r2,r3⟩:=o.1 F n [] (fun _=>[]) [] hok (fun i r ys h=>by simp at h) x ds harg y hy
 refine⟨d,r1,fun B hB hF=>?_⟩
 have:=r3 B ⟨hB,hF,(fun r h=>by cases h),(fun i r h=>by simp at h)⟩ (fun i r ys h=>by simp at h)
 rw[this]
 cases Y'<;>rfl
theorem tot_par {P:Caller} {k:Nat} {sg:Sg} {f:sg.aT.T->sg.oT.T} (h:TOK P k (.tot sg f)):TOK P k (.par sg fun x=>some (f x)):=⟨h.1,trivial⟩
theorem call_o {k:Nat} {a r:Ty} {f:(Sg.mk [.v a,.o r] .b).aT.T->Option (Sg.mk [.v a,.o r] .b).oT.T} (o:TOK (EF pg) k (.par ⟨[.v a,.o r],.b⟩ f)) {F:List Fx} (n fr b:Nat) (hfr:fr<n) (hlt:∀x∈F,x.f<n) {x:a.T} {z:r.T} {d:D} {cells:List D} (hav:a.val=true) (hrk:r.rowk=true)
  (hx:RepL (EF pg) a F x [d]) (hz:RepL (EF pg) r F z cells) (hlen:cells.length=rowLen r) {y:Bool} (hy:f (x,z)=some y):
  ∀B:List Bx,B.length=n->Sat F B->(∃L cs,B[fr]? =some L∧lk b L=some cs∧cells.length<=cs.length∧cs.take cells.length=cells)->EF pg k [d,.ptr fr b 0] B=some (.v (.bool y),B):=by
 intro B hB hF hL
 obtain⟨L,cs,hL,hb,hle,htk⟩:=hL
 let c:Cx:=⟨EF pg,F,n,[⟨false,fr,b,0,rowLen r⟩],fun _=>cells⟩
 have hok:Cx.ok c:=⟨(fun q h=>by simp[c]at h;subst h;exact hfr),(fun i j q q' h h' _ hw=>by
  have hq:=List.mem_of_getElem? h
  simp[c]at hq;subst hq;cases hw),(fun x h=>⟨hlt x h,(fun q hq hw=>by simp[c]at hq;subst hq;cases hw)⟩)⟩
 have harg:ArgL c [.v a,.o r] [valW a x,.ag (cellsW r z)] [d,.ptr fr b 0] [⟨false,fr,b,0,rowLen r⟩] [cells]:=
  ⟨valW_ok (c:=c) hav hx,⟨rfl,rfl,rfl,hlen,(cellsW_ok (c:=c) hrk hz).mono fun _ _ _ q=>to2 (to1 q)⟩,trivial⟩
 obtain⟨d',Y',r1,r2,r3⟩:=o.1 F n [⟨false,fr,b,0,rowLen r⟩] (fun _=>cells) [cells] hok (fun i q ys h h' _=>by
  cases i with
  |zero=>simp at h';exact h'.symm
  |succ i=>simp at h') (x,z) [d,.ptr fr b 0] harg y hy
 have hd:d'= .v (.bool y):=b_d r1.2
 subst hd
 have:=r3 B ⟨hB,hF,(fun q hq=>by
   simp at hq;subst hq
   exact⟨L,cs,hL,hb,by simp[<-hlen,hle]⟩),(fun i q hi _=>by
   cases i with
   |zero=>
    simp at hi;subst hi
    exact⟨L,cs,hL,hb,by simp[<-hlen,hle],by simp[<-hlen,htk]⟩
   |succ i=>simp at hi)⟩ (fun i q ys hi hy=>by
   cases i with
   |zero=>
    simp at hi hy;subst hi hy
    exact⟨L,cs,hL,hb,by simp[hle],by simp[htk]⟩
   |succ i=>simp at hi)
 rw[this]
 cases Y'<;>rfl
abbrev YL:Ty:=.p (.i .i64) (.p (.i .i64) (.p (.i .i64) (.p (.i .i64) (.p (.i .u32) (.p (.l .ro YOutward) (.p (.l .ro YTaking) (.l .ro YClosed)))))))
theorem x23 (a:Int) (ha:inK .i64 a=true) (B:List Bx):EF pg 23 [.v (.int .i64 a)] B=some (.v (.bool (h23 a)),B):=by
 obtain⟨d',h1,h2⟩:=call_v (F:=[]) (r:=.b) (tot_par o23) (by simp) rfl B.length (fun x h=>by cases h) (x:=a) (ds:=[.v (.int .i64 a)]) rfl ⟨rfl,ha⟩ rfl
 obtain rfl:=b_d h1.2
 exact h2 B rfl (Sat.nil B)
theorem x24 (a b c:Int) (ha:inK .i64 a=true) (hb:inK .i64 b=true) (hc:inK .i64 c=true) (B:List Bx):EF pg 24 [.v (.int .i64 a),.v (.int .i64 b),.v (.int .i64 c)] B=some (.v (.bool (h24 a b c)),B):=by
 obtain⟨d',h1,h2⟩:=call_v (F:=[]) (r:=.b) (tot_par o24) (by simp) rfl B.length (fun x h=>by cases h) (x:=(a,b,c)) (ds:=[.v (.int .i64 a),.v (.int .i64 b),.v (.int .i64 c)]) rfl ⟨⟨rfl,rfl⟩,_,_,rfl,⟨rfl,ha⟩,⟨rfl,rfl⟩,_,_,rfl,⟨rfl,hb⟩,⟨rfl,hc⟩⟩ rfl
 obtain rfl:=b_d h1.2
 exact h2 B rfl (Sat.nil B)
theorem x39 {r:Rules} {d:D} (hd:RepL (EF pg) YRules [] r [d]) (B:List Bx):EF pg 39 [d] B=some (.v (.bool (h39 r)),B):=by
 obtain⟨d',h1,h2⟩:=call_v (F:=[]) (r:=.b) (tot_par o39) (by simp) rfl B.length (fun x h=>by cases h) (x:=r) (ds:=[d]) rfl hd rfl
 obtain rfl:=b_d h1.2
 exact h2 B rfl (Sat.nil B)
theorem x35 {s:Sending} {d:D} (hd:RepL (EF pg) YSending [] s [d]) {y:Int} (hy:g35 s=some y) (B:List Bx):EF pg 35 [d] B=some (.v (.int .i64 y),B):=by
 obtain⟨d',h1,h2⟩:=call_v (F:=[]) (r:=.i .i64) o35 (by simp) rfl B.length (fun x h=>by cases h) (x:=s) (ds:=[d]) rfl hd hy
 obtain⟨rfl,_⟩:=i_d h1.2
 exact h2 B rfl (Sat.nil B)
def F2 (fr:Nat) (cells:List D):List Fx:=[⟨fr,1,0,cells⟩,⟨fr,3,0,[.clo 33 [.ptr fr 1 0]]⟩]
theorem yl_len {x:Ltp} {cells:List D} {F:List Fx} (h:RepL (EF pg) YL F x cells):cells.length=8:=by
 obtain⟨_,d1,q,rfl,r1,h⟩:=h
 obtain⟨_,d2,q,rfl,r2,h⟩:=h
 obtain⟨_,d3,q,rfl,r3,h⟩:=h
 obtain⟨_,d4,q,rfl,r4,h⟩:=h
 obtain⟨_,d5,q,rfl,r5,h⟩:=h
 obtain⟨_,d6,q,rfl,r6,h⟩:=h
 obtain⟨_,d7,q,rfl,r7,h⟩:=h
 obtain⟨d8,rfl⟩:=one_sing rfl h
 rfl
theorem sat1 {fr:Nat} {cells:List D} {x:Ltp} (hz:RepL (EF pg) YL [] x cells) {B:List Bx} {F:List Fx} (hF:(⟨fr,1,0,cells⟩:Fx)∈F) (h:Sat F B):∃L cs,B[fr]? =some L∧lk 1 L=some cs∧cells.length<=cs.length∧cs.take cells.length=cells:=by
 obtain⟨l,cs,a1,a2,a3,a4⟩:=h _ hF
 simp only[Nat.zero_add]at a3
 exact⟨l,cs,a1,a2,a3,by simpa using a4⟩
theorem fn36 {fr:Nat} {cells:List D} {x:Ltp} (hz:RepL (EF pg) YL [] x cells) {F:List Fx} (hF:(⟨fr,1,0,cells⟩:Fx)∈F):RepL (EF pg) (.fn YTaking .b) F (fun t=>g36 t x) [.clo 36 [.ptr fr 1 0]]:=by
 refine⟨36,_,rfl,fun d hd=>?_,fun v ak hak yy hyy n hn=>?_⟩
 ·simp only[List.mem_cons,List.not_mem_nil,or_false]at hd
  subst hd
  exact⟨_,hF,rfl⟩
 ·obtain⟨d,rfl⟩:∃d,ak=[d]:=by obtain⟨_,cs,q,_⟩:=hak;exact⟨_,q⟩
  refine⟨_,[.v (.bool yy)],rfl,rfl,fun B' hB' hs=>?_⟩
  exact call_o (F:=[]) o36 n fr 1 (hn _ hF) (fun x h=>by cases h) (x:=v) (z:=x) rfl rfl hak hz (yl_len hz) hyy B' hB' (Sat.nil B') (sat1 hz hF hs)
def K34 (b4 s6 n1 w1 t1 q:Bool):Bool:=if(if(if(if(if b4 then true else !s6)then true else n1)then true else w1)then true else t1)then true else !q
section
variable {fr:Nat} {B:List Bx} {L:Bx} {Q1 Q3 cs:List D} {to src wt tr stt nd wt' tr' y4:Int} {q:Bool}
theorem rg_ok {c:Caller} {l:List Stp} {s s1:S} (h:evOps c l s=some s1):evC c (.rg l) s=some (.nm,s1):=by simp only[evC,h];rfl
theorem x34a (hl:cs.length=24) (hrf:cs.all D.rf1=true) (g5:cs[5]? =some (.v (.int .i64 stt))):
  ∃E,(∀X,evC (EF pg) (.sq (.rg [s_ 3 (.bx (.t 0)),s_ 4 (.mv (.c (.bool false)))]) (.sq (.rg [s_ 7 (.fa (.t 3) 1),s_ 8 (.ld (some 24) (.t 7)),s_ 5 (.al [.int .i64 0,.int .u32 0,.slice none 0 0,.int .i64 0,.int .i64 0,.int .i64 0,.slice none 0 0,.int .i64 0,.int .i64 0,.int .u32 0,.int .u32 0,.int .u32 0,.int .i64 0,.int .i64 0,.int .i64 0,.int .i64 0,.int .i64 0,.bool false,.slice none 0 0,.slice none 0 0,.int .i64 0,.int .i64 0,.slice none 0 0,.int .i64 0]),n_ (.st 24 (.t 5) (.m 8))]) (.sq (.rg [s_ 9 (.fa (.t 5) 5),s_ 10 (.ld none (.t 9)),s_ 11 (.bin .eql (.t 10) (I 1)),s_ 12 (.mv (.t 11)),g_ 12 false 13 (.fa (.t 5) 5),g_ 12 false 14 (.ld none (.t 13)),g_ 12 false 15 (.bin .eql (.t 14) (I 3)),s_ 16 (.pk (.t 12) (.c (.bool true)) (.t 15)),s_ 6 (.mv (.t 16))]) X))) ⟨[(0,.agg (.v (.int .i64 to)::cs)),(1,.ptr fr 1 0),(2,.ptr fr 3 0)],[],B⟩=evC (EF pg) X ⟨E,[(3,.v (.int .i64 to)::cs),(5,cs)],B⟩)∧get 1 E= .ptr fr 1 0∧get 2 E= .ptr fr 3 0∧get 3 E= .ptr B.length 3 0∧get 5 E= .ptr B.length 5 0∧get 6 E= .v (.bool (stt==1||stt==3)):=by
 have hst:=rf_st hrf
 have hsto:=rf_sto hrf
 have hbn:=fun k=>rf_bnd hrf k
 have htk:=len1 hl
 generalize hS1:(stt==1)=s1
 generalize hS3:(stt==3)=s3
 have:∃E,(∃s1 s2,evOps (EF pg) [s_ 3 (.bx (.t 0)),s_ 4 (.mv (.c (.bool false)))] ⟨[(0,.agg (.v (.int .i64 to)::cs)),(1,.ptr fr 1 0),(2,.ptr fr 3 0)],[],B⟩=some s1∧evOps (EF pg) [s_ 7 (.fa (.t 3) 1),s_ 8 (.ld (some 24) (.t 7)),s_ 5 (.al [.int .i64 0,.int .u32 0,.slice none 0 0,.int .i64 0,.int .i64 0,.int .i64 0,.slice none 0 0,.int .i64 0,.int .i64 0,.int .u32 0,.int .u32 0,.int .u32 0,.int .i64 0,.int .i64 0,.int .i64 0,.int .i64 0,.int .i64 0,.bool false,.slice none 0 0,.slice none 0 0,.int .i64 0,.int .i64 0,.slice none 0 0,.int .i64 0]),n_ (.st 24 (.t 5) (.m 8))] s1=some s2∧evOps (EF pg) [s_ 9 (.fa (.t 5) 5),s_ 10 (.ld none (.t 9)),s_ 11 (.bin .eql (.t 10) (I 1)),s_ 12 (.mv (.t 11)),g_ 12 false 13 (.fa (.t 5) 5),g_ 12 false 14 (.ld none (.t 13)),g_ 12 false 15 (.bin .eql (.t 14) (I 3)),s_ 16 (.pk (.t 12) (.c (.bool true)) (.t 15)),s_ 6 (.mv (.t 16))] s2=some ⟨E,[(3,.v (.int .i64 to)::cs),(5,cs)],B⟩)∧get 1 E= .ptr fr 1 0∧get 2 E= .ptr fr 3 0∧get 3 E= .ptr B.length 3 0∧get 5 E= .ptr B.length 5 0∧get 6 E= .v (.bool (s1||s3)):=by
  cases s1<;>simp[-List.all_eq_true,-getElem?_pos,-bne_iff_ne,-bne_eq_false_iff_eq,runF,evC,evOps,evStp,evOp,rd,rdL,rds,get,put,putO,argE,res1,resL,mkRes,doCall,unsnoc_append,S.wl,S.wo,lk,ins,sb,bx,sbx,pick,over,D.tupB,D.bnd2,D.bnd1,D.frz2,D.frz1,D.frzP,D.sto1,Value.oneCell',zc,bz,Tc.er,TStp.er,u_,ug_,s_,g_,n_,List.map_cons,List.map_nil,List.all_cons,List.all_nil,List.length_cons,List.length_nil,List.drop_succ_cons,List.drop_zero,List.take_succ_cons,List.take_zero,List.nil_append,List.cons_append,List.append_nil,List.getElem?_cons_succ,List.getElem?_cons_zero,Option.bind_some,Option.map_some,D.capB,dwnA,Nat.reduceEqDiff,Nat.reduceAdd,Nat.reduceLeDiff,Nat.reduceSub,Nat.reduceLT,Nat.reduceMul,Nat.zero_add,Nat.add_zero,reduceCtorEq,↓reduceIte,Bool.and_true,Bool.true_and,Bool.and_self,Bool.not_false,Bool.not_true,decide_true,decide_false,and_self,and_true,true_and,Bool.false_eq_true,ge_iff_le,gt_iff_lt,st_v,st_v1,st_v2,st_p,st_p2,st_c,st_c2,st_u,st_a,st_a2,ce_v,ce_a,hl,hst,hsto,hbn,htk,g5,hS1,hS3]
 obtain⟨E,⟨s1,s2,h1,h2,h3⟩,h4⟩:=this
 exact⟨E,fun X=>by rw[sq_nm (rg_ok h1),sq_nm (rg_ok h2),sq_nm (rg_ok h3)],h4⟩
theorem x34p {E:Env} (hl:cs.length=24) (hst:List.map D.strip1 cs=cs) (htk:List.take 24 cs=cs) (h35:∀B,EF pg 35 [.agg cs] B=some (.v (.int .i64 y4),B)) {s6:Bool} (hne:¬ fr=B.length) (e1:get 1 E= .ptr fr 1 0) (e2:get 2 E= .ptr fr 3 0) (e3:get 3 E= .ptr B.length 3 0) (e5:get 5 E= .ptr B.length 5 0) (e6:get 6 E= .v (.bool s6)):
  ∃E',evOps (EF pg) [s_ 17 (.ld (some 24) (.t 5)),s_ 18 (.call 35 [(.t 17)]),s_ 19 (.bin .neq (.t 18) (I 0)),s_ 20 (.mv (.t 19))] ⟨E,[(3,.v (.int .i64 to)::cs),(5,cs)],B⟩=some ⟨E',[(3,.v (.int .i64 to)::cs),(5,cs)],B⟩∧get 1 E'= .ptr fr 1 0∧get 2 E'= .ptr fr 3 0∧get 3 E'= .ptr B.length 3 0∧get 5 E'= .ptr B.length 5 0∧get 6 E'= .v (.bool s6)∧get 20 E'= .v (.bool (y4 !=0)):=by
 simp[-List.all_eq_true,-getElem?_pos,-bne_iff_ne,-bne_eq_false_iff_eq,runF,evC,evOps,evStp,evOp,rd,rdL,rds,get,put,putO,argE,res1,resL,mkRes,doCall,unsnoc_append,S.wl,S.wo,lk,ins,sb,bx,sbx,pick,over,D.tupB,D.bnd2,D.bnd1,D.frz2,D.frz1,D.frzP,D.sto1,Value.oneCell',zc,bz,Tc.er,TStp.er,u_,ug_,s_,g_,n_,List.map_cons,List.map_nil,List.all_cons,List.all_nil,List.length_cons,List.length_nil,List.drop_succ_cons,List.drop_zero,List.take_succ_cons,List.take_zero,List.nil_append,List.cons_append,List.append_nil,List.getElem?_cons_succ,List.getElem?_cons_zero,Option.bind_some,Option.map_some,D.capB,dwnA,Nat.reduceEqDiff,Nat.reduceAdd,Nat.reduceLeDiff,Nat.reduceSub,Nat.reduceLT,Nat.reduceMul,Nat.zero_add,Nat.add_zero,reduceCtorEq,↓reduceIte,Bool.and_true,Bool.true_and,Bool.and_self,Bool.not_false,Bool.not_true,decide_true,decide_false,and_self,and_true,true_and,Bool.false_eq_true,ge_iff_le,gt_iff_lt,st_v,st_v1,st_v2,st_p,st_p2,st_c,st_c2,st_u,st_a,st_a2,ce_v,ce_a,hl,hst,htk,hne,h35,e1,e2,e3,e5,e6]
theorem x34q {E:Env} {b s6:Bool} (hne:¬ fr=B.length) (e1:get 1 E= .ptr fr 1 0) (e2:get 2 E= .ptr fr 3 0) (e3:get 3 E= .ptr B.length 3 0) (e5:get 5 E= .ptr B.length 5 0) (e6:get 6 E= .v (.bool s6)) (e7:get 20 E= .v (.bool b)):
  ∃E',evOps (EF pg) [g_ 20 false 21 (.mv (.t 6)),g_ 20 false 22 (.no (.t 21)),s_ 23 (.pk (.t 20) (.c (.bool true)) (.t 22)),s_ 24 (.mv (.t 23))] ⟨E,[(3,.v (.int .i64 to)::cs),(5,cs)],B⟩=some ⟨E',[(3,.v (.int .i64 to)::cs),(5,cs)],B⟩∧get 1 E'= .ptr fr 1 0∧get 2 E'= .ptr fr 3 0∧get 3 E'= .ptr B.length 3 0∧get 5 E'= .ptr B.length 5 0∧get 24 E'= .v (.bool (if b then true else !s6)):=by
 cases b<;>simp[-List.all_eq_true,-getElem?_pos,-bne_iff_ne,-bne_eq_false_iff_eq,runF,evC,evOps,evStp,evOp,rd,rdL,rds,get,put,putO,argE,res1,resL,mkRes,doCall,unsnoc_append,S.wl,S.wo,lk,ins,sb,bx,sbx,pick,over,D.tupB,D.bnd2,D.bnd1,D.frz2,D.frz1,D.frzP,D.sto1,Value.oneCell',zc,bz,Tc.er,TStp.er,u_,ug_,s_,g_,n_,List.map_cons,List.map_nil,List.all_cons,List.all_nil,List.length_cons,List.length_nil,List.drop_succ_cons,List.drop_zero,List.take_succ_cons,List.take_zero,List.nil_append,List.cons_append,List.append_nil,List.getElem?_cons_succ,List.getElem?_cons_zero,Option.bind_some,Option.map_some,D.capB,dwnA,Nat.reduceEqDiff,Nat.reduceAdd,Nat.reduceLeDiff,Nat.reduceSub,Nat.reduceLT,Nat.reduceMul,Nat.zero_add,Nat.add_zero,reduceCtorEq,↓reduceIte,Bool.and_true,Bool.true_and,Bool.and_self,Bool.not_false,Bool.not_true,decide_true,decide_false,and_self,and_true,true_and,Bool.false_eq_true,ge_iff_le,gt_iff_lt,st_v,st_v1,st_v2,st_p,st_p2,st_c,st_c2,st_u,st_a,st_a2,ce_v,ce_a,e1,e2,e3,e5,e6,e7]
theorem x34r {E:Env} {b:Bool} (g0:cs[0]? =some (.v (.int .i64 src))) (hb1:(B[fr]?).bind (lk 1)=some Q1) (q0:Q1[0]? =some (.v (.int .i64 nd))) (hne:¬ fr=B.length) (e1:get 1 E= .ptr fr 1 0) (e2:get 2 E= .ptr fr 3 0) (e3:get 3 E= .ptr B.length 3 0) (e5:get 5 E= .ptr B.length 5 0) (e7:get 24 E= .v (.bool b)):
  ∃E',evOps (EF pg) [g_ 24 false 25 (.fa (.t 5) 0),g_ 24 false 26 (.fa (.t 25) 0),g_ 24 false 27 (.ld none (.t 26)),g_ 24 false 28 (.fa (.t 1) 0),g_ 24 false 29 (.ld none (.t 28)),g_ 24 false 30 (.bin .neq (.t 27) (.t 29)),s_ 31 (.pk (.t 24) (.c (.bool true)) (.t 30)),s_ 32 (.mv (.t 31))] ⟨E,[(3,.v (.int .i64 to)::cs),(5,cs)],B⟩=some ⟨E',[(3,.v (.int .i64 to)::cs),(5,cs)],B⟩∧get 1 E'= .ptr fr 1 0∧get 2 E'= .ptr fr 3 0∧get 3 E'= .ptr B.length 3 0∧get 5 E'= .ptr B.length 5 0∧get 32 E'= .v (.bool (if b then true else src !=nd)):=by
 generalize hN:(src !=nd)=n1
 cases b<;>simp[-List.all_eq_true,-getElem?_pos,-bne_iff_ne,-bne_eq_false_iff_eq,runF,evC,evOps,evStp,evOp,rd,rdL,rds,get,put,putO,argE,res1,resL,mkRes,doCall,unsnoc_append,S.wl,S.wo,lk,ins,sb,bx,sbx,pick,over,D.tupB,D.bnd2,D.bnd1,D.frz2,D.frz1,D.frzP,D.sto1,Value.oneCell',zc,bz,Tc.er,TStp.er,u_,ug_,s_,g_,n_,List.map_cons,List.map_nil,List.all_cons,List.all_nil,List.length_cons,List.length_nil,List.drop_succ_cons,List.drop_zero,List.take_succ_cons,List.take_zero,List.nil_append,List.cons_append,List.append_nil,List.getElem?_cons_succ,List.getElem?_cons_zero,Option.bind_some,Option.map_some,D.capB,dwnA,Nat.reduceEqDiff,Nat.reduceAdd,Nat.reduceLeDiff,Nat.reduceSub,Nat.reduceLT,Nat.reduceMul,Nat.zero_add,Nat.add_zero,reduceCtorEq,↓reduceIte,Bool.and_true,Bool.true_and,Bool.and_self,Bool.not_false,Bool.not_true,decide_true,decide_false,and_self,and_true,true_and,Bool.false_eq_true,ge_iff_le,gt_iff_lt,st_v,st_v1,st_v2,st_p,st_p2,st_c,st_c2,st_u,st_a,st_a2,ce_v,ce_a,hne,hb1,g0,q0,e1,e2,e3,e5,e7,hN]
theorem x34s {E:Env} {b:Bool} (g3:cs[3]? =some (.v (.int .i64 wt))) (hb1:(B[fr]?).bind (lk 1)=some Q1) (q1:Q1[1]? =some (.v (.int .i64 wt'))) (hne:¬ fr=B.length) (e1:get 1 E= .ptr fr 1 0) (e2:get 2 E= .ptr fr 3 0) (e3:get 3 E= .ptr B.length 3 0) (e5:get 5 E= .ptr B.length 5 0) (e7:get 32 E= .v (.bool b)):
  ∃E',evOps (EF pg) [g_ 32 false 33 (.fa (.t 5) 0),g_ 32 false 34 (.fa (.t 33) 3),g_ 32 false 35 (.ld none (.t 34)),g_ 32 false 36 (.fa (.t 1) 1),g_ 32 false 37 (.fa (.t 36) 0),g_ 32 false 38 (.ld none (.t 37)),g_ 32 false 39 (.bin .neq (.t 35) (.t 38)),s_ 40 (.pk (.t 32) (.c (.bool true)) (.t 39)),s_ 41 (.mv (.t 40))] ⟨E,[(3,.v (.int .i64 to)::cs),(5,cs)],B⟩=some ⟨E',[(3,.v (.int .i64 to)::cs),(5,cs)],B⟩∧get 1 E'= .ptr fr 1 0∧get 2 E'= .ptr fr 3 0∧get 3 E'= .ptr B.length 3 0∧get 5 E'= .ptr B.length 5 0∧get 41 E'= .v (.bool (if b then true else wt !=wt')):=by
 generalize hN:(wt !=wt')=n1
 cases b<;>simp[-List.all_eq_true,-getElem?_pos,-bne_iff_ne,-bne_eq_false_iff_eq,runF,evC,evOps,evStp,evOp,rd,rdL,rds,get,put,putO,argE,res1,resL,mkRes,doCall,unsnoc_append,S.wl,S.wo,lk,ins,sb,bx,sbx,pick,over,D.tupB,D.bnd2,D.bnd1,D.frz2,D.frz1,D.frzP,D.sto1,Value.oneCell',zc,bz,Tc.er,TStp.er,u_,ug_,s_,g_,n_,List.map_cons,List.map_nil,List.all_cons,List.all_nil,List.length_cons,List.length_nil,List.drop_succ_cons,List.drop_zero,List.take_succ_cons,List.take_zero,List.nil_append,List.cons_append,List.append_nil,List.getElem?_cons_succ,List.getElem?_cons_zero,Option.bind_some,Option.map_some,D.capB,dwnA,Nat.reduceEqDiff,Nat.reduceAdd,Nat.reduceLeDiff,Nat.reduceSub,Nat.reduceLT,Nat.reduceMul,Nat.zero_add,Nat.add_zero,reduceCtorEq,↓reduceIte,Bool.and_true,Bool.true_and,Bool.and_self,Bool.not_false,Bool.not_true,decide_true,decide_false,and_self,and_true,true_and,Bool.false_eq_true,ge_iff_le,gt_iff_lt,st_v,st_v1,st_v2,st_p,st_p2,st_c,st_c2,st_u,st_a,st_a2,ce_v,ce_a,hne,hb1,g3,q1,e1,e2,e3,e5,e7,hN]
theorem x34t {E:Env} {b:Bool} (g4:cs[4]? =some (.v (.int .i64 tr))) (hb1:(B[fr]?).bind (lk 1)=some Q1) (q2:Q1[2]? =some (.v (.int .i64 tr'))) (hne:¬ fr=B.length) (e1:get 1 E= .ptr fr 1 0) (e2:get 2 E= .ptr fr 3 0) (e3:get 3 E= .ptr B.length 3 0) (e5:get 5 E= .ptr B.length 5 0) (e7:get 41 E= .v (.bool b)):
  ∃E',evOps (EF pg) [g_ 41 false 42 (.fa (.t 5) 0),g_ 41 false 43 (.fa (.t 42) 4),g_ 41 false 44 (.ld none (.t 43)),g_ 41 false 45 (.fa (.t 1) 1),g_ 41 false 46 (.fa (.t 45) 1),g_ 41 false 47 (.ld none (.t 46)),g_ 41 false 48 (.bin .neq (.t 44) (.t 47)),s_ 49 (.pk (.t 41) (.c (.bool true)) (.t 48)),s_ 50 (.mv (.t 49))] ⟨E,[(3,.v (.int .i64 to)::cs),(5,cs)],B⟩=some ⟨E',[(3,.v (.int .i64 to)::cs),(5,cs)],B⟩∧get 1 E'= .ptr fr 1 0∧get 2 E'= .ptr fr 3 0∧get 3 E'= .ptr B.length 3 0∧get 5 E'= .ptr B.length 5 0∧get 50 E'= .v (.bool (if b then true else tr !=tr')):=by
 generalize hN:(tr !=tr')=n1
 cases b<;>simp[-List.all_eq_true,-getElem?_pos,-bne_iff_ne,-bne_eq_false_iff_eq,runF,evC,evOps,evStp,evOp,rd,rdL,rds,get,put,putO,argE,res1,resL,mkRes,doCall,unsnoc_append,S.wl,S.wo,lk,ins,sb,bx,sbx,pick,over,D.tupB,D.bnd2,D.bnd1,D.frz2,D.frz1,D.frzP,D.sto1,Value.oneCell',zc,bz,Tc.er,TStp.er,u_,ug_,s_,g_,n_,List.map_cons,List.map_nil,List.all_cons,List.all_nil,List.length_cons,List.length_nil,List.drop_succ_cons,List.drop_zero,List.take_succ_cons,List.take_zero,List.nil_append,List.cons_append,List.append_nil,List.getElem?_cons_succ,List.getElem?_cons_zero,Option.bind_some,Option.map_some,D.capB,dwnA,Nat.reduceEqDiff,Nat.reduceAdd,Nat.reduceLeDiff,Nat.reduceSub,Nat.reduceLT,Nat.reduceMul,Nat.zero_add,Nat.add_zero,reduceCtorEq,↓reduceIte,Bool.and_true,Bool.true_and,Bool.and_self,Bool.not_false,Bool.not_true,decide_true,decide_false,and_self,and_true,true_and,Bool.false_eq_true,ge_iff_le,gt_iff_lt,st_v,st_v1,st_v2,st_p,st_p2,st_c,st_c2,st_u,st_a,st_a2,ce_v,ce_a,hne,hb1,g4,q2,e1,e2,e3,e5,e7,hN]
theorem x34u {E:Env} {b:Bool} (hb3:(B[fr]?).bind (lk 3)=some Q3) (q3:Q3[0]? =some (.clo 33 [.ptr fr 1 0])) (h33:∀l,EF pg 33 [.v (.int .i64 to),.ptr fr 1 0] (B++[l])=some (.v (.bool q),B++[l])) (hne:¬ fr=B.length) (e1:get 1 E= .ptr fr 1 0) (e2:get 2 E= .ptr fr 3 0) (e3:get 3 E= .ptr B.length 3 0) (e5:get 5 E= .ptr B.length 5 0) (e7:get 50 E= .v (.bool b)):
  ∃E',evOps (EF pg) [g_ 50 false 51 (.ld none (.t 2)),g_ 50 false 52 (.fa (.t 3) 0),g_ 50 false 53 (.ld none (.t 52)),g_ 50 false 54 (.cv (.t 51) [(.t 53)]),g_ 50 false 55 (.no (.t 54)),s_ 56 (.pk (.t 50) (.c (.bool true)) (.t 55)),s_ 4 (.mv (.t 56))] ⟨E,[(3,.v (.int .i64 to)::cs),(5,cs)],B⟩=some ⟨E',[(3,.v (.int .i64 to)::cs),(5,cs)],B⟩∧get 1 E'= .ptr fr 1 0∧get 2 E'= .ptr fr 3 0∧get 3 E'= .ptr B.length 3 0∧get 5 E'= .ptr B.length 5 0∧get 4 E'= .v (.bool (if b then true else !q)):=by
 cases b<;>simp[-List.all_eq_true,-getElem?_pos,-bne_iff_ne,-bne_eq_false_iff_eq,runF,evC,evOps,evStp,evOp,rd,rdL,rds,get,put,putO,argE,res1,resL,mkRes,doCall,unsnoc_append,S.wl,S.wo,lk,ins,sb,bx,sbx,pick,over,D.tupB,D.bnd2,D.bnd1,D.frz2,D.frz1,D.frzP,D.sto1,Value.oneCell',zc,bz,Tc.er,TStp.er,u_,ug_,s_,g_,n_,List.map_cons,List.map_nil,List.all_cons,List.all_nil,List.length_cons,List.length_nil,List.drop_succ_cons,List.drop_zero,List.take_succ_cons,List.take_zero,List.nil_append,List.cons_append,List.append_nil,List.getElem?_cons_succ,List.getElem?_cons_zero,Option.bind_some,Option.map_some,D.capB,dwnA,Nat.reduceEqDiff,Nat.reduceAdd,Nat.reduceLeDiff,Nat.reduceSub,Nat.reduceLT,Nat.reduceMul,Nat.zero_add,Nat.add_zero,reduceCtorEq,↓reduceIte,Bool.and_true,Bool.true_and,Bool.and_self,Bool.not_false,Bool.not_true,decide_true,decide_false,and_self,and_true,true_and,Bool.false_eq_true,ge_iff_le,gt_iff_lt,st_v,st_v1,st_v2,st_p,st_p2,st_c,st_c2,st_u,st_a,st_a2,ce_v,ce_a,hne,hb3,q3,h33,e1,e2,e3,e5,e7]
theorem ops_app {c:Caller}:∀{l l':List Stp} {s s1:S},evOps c l s=some s1->evOps c (l++l') s=evOps c l' s1
 |[],l',s,s1,h=>by injection h with h;subst h;rfl
 |p::r,l',s,s1,h=>by
  simp only[evOps]at h
  obtain⟨s2,h1,h2⟩:=Option.bind_eq_some_iff.1 h
  show evOps c (p::(r++l')) s=_
  simp only[evOps,h1,Option.bind_some]
  exact ops_app h2
theorem x34b {E:Env} {s6:Bool} (hl:cs.length=24) (hrf:cs.all D.rf1=true) (g0:cs[0]? =some (.v (.int .i64 src))) (g3:cs[3]? =some (.v (.int .i64 wt))) (g4:cs[4]? =some (.v (.int .i64 tr)))
  (hfr:fr<B.length) (hb1:(B[fr]?).bind (lk 1)=some Q1) (hb3:(B[fr]?).bind (lk 3)=some Q3) (q0:Q1[0]? =some (.v (.int .i64 nd))) (q1:Q1[1]? =some (.v (.int .i64 wt'))) (q2:Q1[2]? =some (.v (.int .i64 tr'))) (q3:Q3[0]? =some (.clo 33 [.ptr fr 1 0]))
  (h35:∀B,EF pg 35 [.agg cs] B=some (.v (.int .i64 y4),B)) (h33:∀l,EF pg 33 [.v (.int .i64 to),.ptr fr 1 0] (B++[l])=some (.v (.bool q),B++[l]))
  (e1:get 1 E= .ptr fr 1 0) (e2:get 2 E= .ptr fr 3 0) (e3:get 3 E= .ptr B.length 3 0) (e5:get 5 E= .ptr B.length 5 0) (e6:get 6 E= .v (.bool s6)):
  ∃s',evOps (EF pg) [s_ 17 (.ld (some 24) (.t 5)),s_ 18 (.call 35 [(.t 17)]),s_ 19 (.bin .neq (.t 18) (I 0)),s_ 20 (.mv (.t 19)),g_ 20 false 21 (.mv (.t 6)),g_ 20 false 22 (.no (.t 21)),s_ 23 (.pk (.t 20) (.c (.bool true)) (.t 22)),s_ 24 (.mv (.t 23)),g_ 24 false 25 (.fa (.t 5) 0),g_ 24 false 26 (.fa (.t 25) 0),g_ 24 false 27 (.ld none (.t 26)),g_ 24 false 28 (.fa (.t 1) 0),g_ 24 false 29 (.ld none (.t 28)),g_ 24 false 30 (.bin .neq (.t 27) (.t 29)),s_ 31 (.pk (.t 24) (.c (.bool true)) (.t 30)),s_ 32 (.mv (.t 31)),g_ 32 false 33 (.fa (.t 5) 0),g_ 32 false 34 (.fa (.t 33) 3),g_ 32 false 35 (.ld none (.t 34)),g_ 32 false 36 (.fa (.t 1) 1),g_ 32 false 37 (.fa (.t 36) 0),g_ 32 false 38 (.ld none (.t 37)),g_ 32 false 39 (.bin .neq (.t 35) (.t 38)),s_ 40 (.pk (.t 32) (.c (.bool true)) (.t 39)),s_ 41 (.mv (.t 40)),g_ 41 false 42 (.fa (.t 5) 0),g_ 41 false 43 (.fa (.t 42) 4),g_ 41 false 44 (.ld none (.t 43)),g_ 41 false 45 (.fa (.t 1) 1),g_ 41 false 46 (.fa (.t 45) 1),g_ 41 false 47 (.ld none (.t 46)),g_ 41 false 48 (.bin .neq (.t 44) (.t 47)),s_ 49 (.pk (.t 41) (.c (.bool true)) (.t 48)),s_ 50 (.mv (.t 49)),g_ 50 false 51 (.ld none (.t 2)),g_ 50 false 52 (.fa (.t 3) 0),g_ 50 false 53 (.ld none (.t 52)),g_ 50 false 54 (.cv (.t 51) [(.t 53)]),g_ 50 false 55 (.no (.t 54)),s_ 56 (.pk (.t 50) (.c (.bool true)) (.t 55)),s_ 4 (.mv (.t 56))] ⟨E,[(3,.v (.int .i64 to)::cs),(5,cs)],B⟩=some s'∧s'.o=B∧get 4 s'.e= .v (.bool (K34 (y4 !=0) s6 (src !=nd) (wt !=wt') (tr !=tr') q)):=by
 have hne:¬ fr=B.length:=by omega
 have hst:=rf_st hrf
 have htk:=len1 hl
 obtain⟨E1,k1,e1,e2,e3,e5,e6,e7⟩:=x34p hl hst htk h35 hne e1 e2 e3 e5 e6
 obtain⟨E2,k2,e1,e2,e3,e5,e7⟩:=x34q (to:=to) (cs:=cs) hne e1 e2 e3 e5 e6 e7
 obtain⟨E3,k3,e1,e2,e3,e5,e7⟩:=x34r (to:=to) g0 hb1 q0 hne e1 e2 e3 e5 e7
 obtain⟨E4,k4,e1,e2,e3,e5,e7⟩:=x34s (to:=to) g3 hb1 q1 hne e1 e2 e3 e5 e7
 obtain⟨E5,k5,e1,e2,e3,e5,e7⟩:=x34t (to:=to) g4 hb1 q2 hne e1 e2 e3 e5 e7
 obtain⟨E6,k6,e1,e2,e3,e5,e7⟩:=x34u (cs:=cs) hb3 q3 h33 hne e1 e2 e3 e5 e7
 refine⟨⟨E6,[(3,.v (.int .i64 to)::cs),(5,cs)],B⟩,?_,rfl,e7⟩
 exact(ops_app k1).trans ((ops_app k2).trans ((ops_app k3).trans ((ops_app k4).trans ((ops_app k5).trans k6))))
theorem x34 (hl:cs.length=24) (hrf:cs.all D.rf1=true) (g0:cs[0]? =some (.v (.int .i64 src))) (g3:cs[3]? =some (.v (.int .i64 wt))) (g4:cs[4]? =some (.v (.int .i64 tr))) (g5:cs[5]? =some (.v (.int .i64 stt)))
  (hfr:fr<B.length) (hL:B[fr]? =some L) (h1:lk 1 L=some Q1) (h3:lk 3 L=some Q3) (q0:Q1[0]? =some (.v (.int .i64 nd))) (q1:Q1[1]? =some (.v (.int .i64 wt'))) (q2:Q1[2]? =some (.v (.int .i64 tr'))) (q3:Q3[0]? =some (.clo 33 [.ptr fr 1 0]))
  (h35:∀B,EF pg 35 [.agg cs] B=some (.v (.int .i64 y4),B)) (h33:∀l,EF pg 33 [.v (.int .i64 to),.ptr fr 1 0] (B++[l])=some (.v (.bool q),B++[l])):
  EF pg 34 [.agg (.v (.int .i64 to)::cs),.ptr fr 1 0,.ptr fr 3 0] B=some (.v (.bool (K34 (y4 !=0) (stt==1||stt==3) (src !=nd) (wt !=wt') (tr !=tr') q)),B):=by
 obtain⟨E,ha,e1,e2,e3,e5,e6⟩:=x34a (fr:=fr) (B:=B) (to:=to) hl hrf g5
 obtain⟨s',k1,k2,k3⟩:=x34b (s6:=stt==1||stt==3) hl hrf g0 g3 g4 hfr (by rw[hL];exact h1) (by rw[hL];exact h3) q0 q1 q2 q3 h35 h33 e1 e2 e3 e5 e6
 have hst:=rf_st hrf
 have hev:evC (EF pg) c34 ⟨[(0,.agg (.v (.int .i64 to)::cs)),(1,.ptr fr 1 0),(2,.ptr fr 3 0)],[],B⟩=some (.rt,s'):=by
  rw[show c34=_ from rfl]
  unfold c34
  rw[ha,sq_nm (rg_ok k1)];rfl
 rw[EF_eq]
 simp[-List.all_eq_true,runF,evC,evOps,evStp,evOp,rd,rdL,rds,get,put,putO,argE,res1,resL,mkRes,doCall,unsnoc_append,S.wl,S.wo,lk,ins,sb,bx,sbx,pick,over,D.tupB,D.bnd2,D.bnd1,D.frz2,D.frz1,D.frzP,D.sto1,Value.oneCell',zc,bz,Tc.er,TStp.er,u_,ug_,s_,g_,n_,List.map_cons,List.map_nil,List.all_cons,List.all_nil,List.length_cons,List.length_nil,List.drop_succ_cons,List.drop_zero,List.take_succ_cons,List.take_zero,List.nil_append,List.cons_append,List.append_nil,List.getElem?_cons_succ,List.getElem?_cons_zero,Option.bind_some,Option.map_some,D.capB,dwnA,Nat.reduceEqDiff,Nat.reduceAdd,Nat.reduceLeDiff,Nat.reduceSub,Nat.reduceLT,Nat.reduceMul,Nat.zero_add,Nat.add_zero,reduceCtorEq,↓reduceIte,Bool.and_true,Bool.true_and,Bool.and_self,Bool.not_false,Bool.not_true,decide_true,decide_false,and_self,and_true,true_and,Bool.false_eq_true,ge_iff_le,gt_iff_lt,p34,F34,st_v,st_v1,st_v2,st_p,st_p2,st_a,st_a2,hst,hev,k2,k3]
end
end Go.Proofs.Ytfopbiiffiickaa.Ev.U
set_option maxRecDepth 100000
namespace Go.Proofs.Ytfopbiiffiickaa.Ev.U
open Go
def rfk:Ty->Bool
 | .i _=>true
 | .b=>true
 | .s=>true
 | .l .ro _=>true
 | .p a r=>rfk a&&rfk r
 |_=>false
theorem rf_row {P:Caller} {F:List Fx}:∀{r:Ty} {x:r.T} {ds:List D},rfk r=true->RepL P r F x ds->ds.all D.rf1=true
 | .i k,x,ds,_,h=>by obtain⟨rfl,_⟩:=h;rfl
 | .b,x,ds,_,h=>by have h:ds=[.v (.bool x)]:=h;subst h;rfl
 | .s,x,ds,_,h=>by obtain⟨rfl,_⟩:=h;rfl
 | .l .ro t,x,ds,_,h=>by
  obtain⟨_,es,_,rfl|⟨rfl,z,rfl⟩⟩:=h<;>rfl
 | .p a r,x,ds,hk,h=>by
  simp only[rfk,Bool.and_eq_true]at hk
  obtain⟨_,d,q,rfl,h1,h2⟩:=h
  have k1:=rf_row hk.1 h1
  have k2:=rf_row hk.2 h2
  simp only[List.all_cons,List.all_nil,Bool.and_true]at k1 ⊢
  rw[k1,k2];rfl
theorem row_len {P:Caller} {F:List Fx}:∀{r:Ty} {x:r.T} {ds:List D},r.rowk=true->RepL P r F x ds->ds.length=rowLen r
 | .p a r,x,ds,hk,h=>by
  obtain⟨⟨h1,h2⟩,d,q,rfl,_,h3⟩:=h
  simp only[List.length_cons,rowLen,row_len h2 h3]
 | .i k,x,ds,hk,h=>by obtain⟨d,rfl⟩:=one_sing rfl h;rfl
 | .b,x,ds,hk,h=>by obtain⟨d,rfl⟩:=one_sing rfl h;rfl
 | .s,x,ds,hk,h=>by obtain⟨d,rfl⟩:=one_sing rfl h;rfl
 | .l m t,x,ds,hk,h=>by obtain⟨d,rfl⟩:=one_sing rfl h;rfl
 | .fn a r,x,ds,hk,h=>by obtain⟨d,rfl⟩:=one_sing (τ:=.fn a r) rfl h;rfl
 | .cl f r,x,ds,hk,h=>by obtain⟨d,rfl⟩:=one_sing (τ:=.cl f r) rfl h;rfl
 | .g r,x,ds,hk,h=>by cases hk
 | .t a r,x,ds,hk,h=>by cases hk
 | .n,x,ds,hk,h=>by cases hk
 | .o a r,x,ds,hk,h=>by cases hk
theorem out_row {o:Outward} {F:List Fx} {d:D} (h:RepL (EF pg) YOutward F o [d]):∃cs,d= .agg (.v (.int .i64 o.1)::cs)∧inK .i64 o.1=true∧cs.length=24∧cs.all D.rf1=true∧RepL (EF pg) YSending F o.2 [.agg cs]∧cs[0]? =some (.v (.int .i64 o.2.1))∧cs[1]? =some (.v (.int .u32 o.2.2.1))∧cs[3]? =some (.v (.int .i64 o.2.2.2.2.1))∧cs[4]? =some (.v (.int .i64 o.2.2.2.2.2.1))∧cs[5]? =some (.v (.int .i64 o.2.2.2.2.2.2.1)):=by
 obtain⟨_,cs,hcs,hrow⟩:=h
 injection hcs with hcs
 obtain⟨_,d0,q,rfl,r0,hrow⟩:=hrow
 obtain⟨rfl,hk⟩:=i_d r0
 refine⟨q,hcs,hk,row_len rfl hrow,rf_row rfl hrow,⟨rfl,q,rfl,hrow⟩,?_⟩
 obtain⟨_,d1,q,rfl,r1,hrow⟩:=hrow
 obtain⟨_,d2,q,rfl,r2,hrow⟩:=hrow
 obtain⟨_,d3,q,rfl,r3,hrow⟩:=hrow
 obtain⟨_,d4,q,rfl,r4,hrow⟩:=hrow
 obtain⟨_,d5,q,rfl,r5,hrow⟩:=hrow
 obtain⟨_,d6,q,rfl,r6,hrow⟩:=hrow
 obtain⟨rfl,_⟩:=i_d r1
 obtain⟨rfl,_⟩:=i_d r2
 obtain⟨rfl,_⟩:=i_d r4
 obtain⟨rfl,_⟩:=i_d r5
 obtain⟨rfl,_⟩:=i_d r6
 exact⟨rfl,rfl,rfl,rfl,rfl⟩
theorem yl_row {x:Ltp} {cells:List D} (h:RepL (EF pg) YL [] x cells):cells[0]? =some (.v (.int .i64 x.1))∧cells[1]? =some (.v (.int .i64 x.2.1))∧cells[2]? =some (.v (.int .i64 x.2.2.1)):=by
 obtain⟨_,d1,q,rfl,r1,h⟩:=h
 obtain⟨_,d2,q,rfl,r2,h⟩:=h
 obtain⟨_,d3,q,rfl,r3,h⟩:=h
 obtain⟨rfl,_⟩:=i_d r1
 obtain⟨rfl,_⟩:=i_d r2
 obtain⟨rfl,_⟩:=i_d r3
 exact⟨rfl,rfl,rfl⟩
theorem take_get {α:Type} {cs ds:List α} {i:Nat} {x:α} (h:cs.take ds.length=ds) (hi:ds[i]? =some x):cs[i]? =some x:=by
 have hlt:=getq_lt hi
 rw[<-h,List.getElem?_take,if_pos hlt]at hi
 exact hi
noncomputable def g34 (a0:Outward) (a1:Ltp) (a2:Int->Bool):Option Bool:=
 (g35 a0.2).bind fun y4=>some (K34 (y4 !=0) (a0.2.2.2.2.2.2.1==1||a0.2.2.2.2.2.2.1==3) (a0.2.1 !=a1.1) (a0.2.2.2.2.1 !=a1.2.1) (a0.2.2.2.2.2.1 !=a1.2.2.1) (a2 a0.1))
theorem fn34 {fr:Nat} {cells:List D} {x:Ltp} (hz:RepL (EF pg) YL [] x cells):RepL (EF pg) (.fn YOutward .b) (F2 fr cells) (fun o=>g34 o x (fun n=>h33 n x)) [.clo 34 [.ptr fr 1 0,.ptr fr 3 0]]:=by
 refine⟨34,_,rfl,fun d hd=>?_,fun v ak hak yy hyy n hn=>?_⟩
 ·simp only[List.mem_cons,List.not_mem_nil,or_false]at hd
  rcases hd with rfl|rfl
  ·exact⟨_,List.mem_cons_self,rfl⟩
  ·exact⟨_,List.mem_cons_self,rfl⟩
 ·obtain⟨d,rfl⟩:∃d,ak=[d]:=by obtain⟨_,cs,q,_⟩:=hak;exact⟨_,q⟩
  obtain⟨cs,rfl,hk,hl,hrf,hs,g0,_,g3,g4,g5⟩:=out_row hak
  obtain⟨y4,h4,hyy⟩:=Option.bind_eq_some_iff.1 hyy
  have hyy:=Option.some.inj hyy
  subst hyy
  refine⟨_,[_],rfl,rfl,fun B' hB' hsat=>?_⟩
  have hn1:=hn _ (List.mem_cons_self)
  obtain⟨L1,cs1,a1,a2,a3,a4⟩:=sat1 (fr:=fr) hz (F:=F2 fr cells) (by simp[F2]) hsat
  obtain⟨L2,cs2,b1,b2,b3,b4⟩:=hsat ⟨fr,3,0,[.clo 33 [.ptr fr 1 0]]⟩ (by simp[F2])
  have:=a1.symm.trans b1
  injection this with this
  subst this
  obtain⟨z0,z1,z2⟩:=yl_row hz
  have hfr:fr<B'.length:=getq_lt a1
  have q3:cs2[0]? =some (.clo 33 [.ptr fr 1 0]):=take_get (ds:=[.clo 33 [.ptr fr 1 0]]) (by simpa using b4) rfl
  refine x34 hl hrf g0 g3 g4 g5 hfr a1 a2 b2 (take_get a4 z0) (take_get a4 z1) (take_get a4 z2) q3 (fun B=>x35 hs h4 B) fun l=>?_
  exact call_o (F:=[]) (tot_par o33) (B'.length+1) fr 1 (by omega) (fun x h=>by cases h) (x:=v.1) (z:=x) rfl rfl ⟨rfl,hk⟩ hz (yl_len hz) rfl _ (by simp) (Sat.nil _) ⟨L1,cs1,by rw[List.getElem?_append_left hfr];exact a1,a2,a3,a4⟩
theorem x38 {fr:Nat} {B:List Bx} {L:Bx} {Q3:List D} {src ses tot ser:Int} {dn q:Bool} (ht:inK .i64 tot=true) (hfr:fr<B.length) (hL:B[fr]? =some L) (h3:lk 3 L=some Q3) (q3:Q3[0]? =some (.clo 33 [.ptr fr 1 0]))
  (h33:∀l,EF pg 33 [.v (.int .i64 src),.ptr fr 1 0] (B++[l])=some (.v (.bool q),B++[l])):
  EF pg 38 [.agg [.v (.int .i64 src),.v (.int .u32 ses),.v (.int .i64 tot),.v (.bool dn),.v (.int .u32 ser)],.ptr fr 3 0] B=some (.v (.bool (if(if(!q)then true else(ses==0))then true else(!(h24 tot 1 512)))),B):=by
 have hne:¬ fr=B.length:=by omega
 have hb3:(B[fr]?).bind (lk 3)=some Q3:=by rw[hL];exact h3
 have h24:=fun B=>x24 tot 1 512 ht rfl rfl B
 generalize hS:(ses==0)=s0
 rw[EF_eq]
 cases q<;>cases s0<;>simp[-List.all_eq_true,-getElem?_pos,-bne_iff_ne,-bne_eq_false_iff_eq,runF,evC,evOps,evStp,evOp,rd,rdL,rds,get,put,putO,argE,res1,resL,mkRes,doCall,unsnoc_append,S.wl,S.wo,lk,ins,sb,bx,sbx,pick,over,D.tupB,D.bnd2,D.bnd1,D.frz2,D.frz1,D.frzP,D.sto1,Value.oneCell',zc,bz,Tc.er,TStp.er,u_,ug_,s_,g_,n_,List.map_cons,List.map_nil,List.all_cons,List.all_nil,List.length_cons,List.length_nil,List.drop_succ_cons,List.drop_zero,List.take_succ_cons,List.take_zero,List.nil_append,List.cons_append,List.append_nil,List.getElem?_cons_succ,List.getElem?_cons_zero,Option.bind_some,Option.map_some,D.capB,dwnA,Nat.reduceEqDiff,Nat.reduceAdd,Nat.reduceLeDiff,Nat.reduceSub,Nat.reduceLT,Nat.reduceMul,Nat.zero_add,Nat.add_zero,reduceCtorEq,↓reduceIte,Bool.and_true,Bool.true_and,Bool.and_self,Bool.not_false,Bool.not_true,decide_true,decide_false,and_self,and_true,true_and,Bool.false_eq_true,ge_iff_le,gt_iff_lt,p38,F38,c38,st_v,st_v1,st_v2,st_p,st_p2,st_c,st_c2,st_u,st_a,st_a2,ce_v,ce_a,hne,hb3,q3,h33,h24,hS]
noncomputable def g38 (a0:Closed) (a1:Int->Bool):Bool:=if(if(!(a1 a0.1))then true else(a0.2.1==0))then true else(!(h24 a0.2.2.1 1 512))
theorem fn38 {fr:Nat} {cells:List D} {x:Ltp} (hz:RepL (EF pg) YL [] x cells):RepL (EF pg) (.fn YClosed .b) (F2 fr cells) (fun o=>some (g38 o (fun n=>h33 n x))) [.clo 38 [.ptr fr 3 0]]:=by
 refine⟨38,_,rfl,fun d hd=>?_,fun v ak hak yy hyy n hn=>?_⟩
 ·simp only[List.mem_cons,List.not_mem_nil,or_false]at hd
  subst hd
  exact⟨_,List.mem_cons_self,rfl⟩
 ·obtain⟨d,rfl⟩:∃d,ak=[d]:=by obtain⟨_,cs,q,_⟩:=hak;exact⟨_,q⟩
  have hyy:=Option.some.inj hyy
  subst hyy
  refine⟨_,[_],rfl,rfl,fun B' hB' hsat=>?_⟩
  obtain⟨L1,cs1,a1,a2,a3,a4⟩:=sat1 (fr:=fr) hz (F:=F2 fr cells) (by simp[F2]) hsat
  obtain⟨L2,cs2,b1,b2,b3,b4⟩:=hsat ⟨fr,3,0,[.clo 33 [.ptr fr 1 0]]⟩ (by simp[F2])
  have:=a1.symm.trans b1
  injection this with this
  subst this
  have hfr:fr<B'.length:=getq_lt a1
  have q3:cs2[0]? =some (.clo 33 [.ptr fr 1 0]):=take_get (ds:=[.clo 33 [.ptr fr 1 0]]) (by simpa using b4) rfl
  obtain⟨s0,s1,s2,s3,s4⟩:=v
  obtain⟨_,cs,hcs,hrow⟩:=hak
  injection hcs with hcs
  subst hcs
  obtain⟨_,d0,q,rfl,r0,hrow⟩:=hrow
  obtain⟨_,d1,q,rfl,r1,hrow⟩:=hrow
  obtain⟨_,d2,q,rfl,r2,hrow⟩:=hrow
  obtain⟨_,d3,q,rfl,r3,hrow⟩:=hrow
  obtain⟨rfl,hk⟩:=i_d r0
  obtain⟨rfl,_⟩:=i_d r1
  obtain⟨rfl,ht⟩:=i_d r2
  obtain rfl:=b_d r3
  obtain⟨rfl,_⟩:=hrow
  refine x38 ht hfr a1 b2 q3 fun l=>?_
  exact call_o (F:=[]) (tot_par o33) (B'.length+1) fr 1 (by omega) (fun x h=>by cases h) (x:=s0) (z:=x) rfl rfl ⟨rfl,hk⟩ hz (yl_len hz) rfl _ (by simp) (Sat.nil _) ⟨L1,cs1,by rw[List.getElem?_append_left hfr];exact a1,a2,a3,a4⟩
section
variable {x:Ltp} {cells:List D} {B:List Bx} {L:Bx} {y:Bool} {dl:D}
theorem sat2 (h1:lk 1 L=some cells) (h3:lk 3 L=some [.clo 33 [.ptr B.length 1 0]]):Sat (F2 B.length cells) (B++[L]):=by
 intro x hx
 simp only[F2,List.mem_cons,List.not_mem_nil,or_false]at hx
 rcases hx with rfl|rfl
 ·exact⟨L,_,get_last,h1,by simp,by simp⟩
 ·exact⟨L,_,get_last,h3,by simp,rfl⟩
theorem lt2:∀x∈F2 B.length cells,x.f<(B++[L]).length:=by
 intro x hx
 simp only[F2,List.mem_cons,List.not_mem_nil,or_false]at hx
 rcases hx with rfl|rfl<;>simp
theorem x40 {ys:List Outward} (hd:RepL (EF pg) (.l .ro YOutward) [] ys [dl]) (hz:RepL (EF pg) YL [] x cells) (h1:lk 1 L=some cells) (h3:lk 3 L=some [.clo 33 [.ptr B.length 1 0]]) (hy:g40 ys (fun o=>g34 o x (fun n=>h33 n x))=some y):
  EF pg 40 [dl,.clo 34 [.ptr B.length 1 0,.ptr B.length 3 0]] (B++[L])=some (.v (.bool y),B++[L]):=by
 obtain⟨d',k1,k2⟩:=call_v (F:=F2 B.length cells) (r:=.b) o40 (by simp) rfl (B++[L]).length lt2 (x:=(ys,fun o=>g34 o x (fun n=>h33 n x))) (ds:=[dl,.clo 34 [.ptr B.length 1 0,.ptr B.length 3 0]]) rfl ⟨⟨rfl,rfl⟩,dl,_,rfl,RepL.up (fun x h=>by cases h) hd,fn34 hz⟩ hy
 obtain rfl:=b_d k1.2
 exact k2 _ rfl (sat2 h1 h3)
theorem x41 {ys:List Taking} (hd:RepL (EF pg) (.l .ro YTaking) [] ys [dl]) (hz:RepL (EF pg) YL [] x cells) (h1:lk 1 L=some cells) (h3:lk 3 L=some [.clo 33 [.ptr B.length 1 0]]) (hy:g41 ys (fun o=>g36 o x)=some y):
  EF pg 41 [dl,.clo 36 [.ptr B.length 1 0]] (B++[L])=some (.v (.bool y),B++[L]):=by
 obtain⟨d',k1,k2⟩:=call_v (F:=F2 B.length cells) (r:=.b) o41 (by simp) rfl (B++[L]).length lt2 (x:=(ys,fun o=>g36 o x)) (ds:=[dl,.clo 36 [.ptr B.length 1 0]]) rfl ⟨⟨rfl,rfl⟩,dl,_,rfl,RepL.up (fun x h=>by cases h) hd,fn36 hz (by simp[F2])⟩ hy
 obtain rfl:=b_d k1.2
 exact k2 _ rfl (sat2 h1 h3)
theorem x42 {ys:List Closed} (hd:RepL (EF pg) (.l .ro YClosed) [] ys [dl]) (hz:RepL (EF pg) YL [] x cells) (h1:lk 1 L=some cells) (h3:lk 3 L=some [.clo 33 [.ptr B.length 1 0]]) (hy:g42 ys (fun o=>some (g38 o (fun n=>h33 n x)))=some y):
  EF pg 42 [dl,.clo 38 [.ptr B.length 3 0]] (B++[L])=some (.v (.bool y),B++[L]):=by
 obtain⟨d',k1,k2⟩:=call_v (F:=F2 B.length cells) (r:=.b) o42 (by simp) rfl (B++[L]).length lt2 (x:=(ys,fun o=>some (g38 o (fun n=>h33 n x)))) (ds:=[dl,.clo 38 [.ptr B.length 3 0]]) rfl ⟨⟨rfl,rfl⟩,dl,_,rfl,RepL.up (fun x h=>by cases h) hd,fn38 hz⟩ hy
 obtain rfl:=b_d k1.2
 exact k2 _ rfl (sat2 h1 h3)
end
end Go.Proofs.Ytfopbiiffiickaa.Ev.U
