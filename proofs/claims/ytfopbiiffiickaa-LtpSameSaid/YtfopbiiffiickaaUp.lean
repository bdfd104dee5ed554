/- The gaps that a function hands out one by one: a loop over claims, and what is behind the last. Conditions: none. -/
import Derived.Test.YtfopbiiffiickaaEv8
import Derived.Test.YtfopbiiffiickaaEvS
import Derived.Test.YtfopbiiffiickaaEv6
set_option linter.all false
namespace Go.Proofs.Ytfopbiiffiickaa.Ev.U
open Go
def bT:Ty->Nat
 | .i k=>k.bits/8
 | .b=>1
 | .s=>16
 | .l _ _=>24
 | .p a r=>bT a+bT r
 | .g r=>bT r
 |_=>0
def Zf:(τ:Ty)->τ.T->Prop
 | .l _ t,x=>List.length (α:=t.T) x*bT t<=reachBytes∧∀y:t.T,List.Mem (α:=t.T) y x->Zf t y
 | .p a r,x=>Zf a x.1∧Zf r x.2
 | .g r,x=>Zf r x
 |_,_=>True
def CellOk (P:Caller) (zb:Bool) (τ:Ty) (d:D):Prop:=τ.one=true∧∃x:τ.T,RepL P τ [] x [d]∧(zb=true->Zf τ x)
def rowL:Ty->List Ty
 | .p a r=>a::rowL r
 |τ=>[τ]
def rowKk:Ty->Bool
 | .p a r=>a.one&&(r.rowk&&rowKk r)
 |τ=>τ.one
theorem row_of {P:Caller} {zb:Bool}:∀(r:Ty) (ds:List D),rowKk r=true->All2 (CellOk P zb) (rowL r) ds->∃x:r.T,RepL P r [] x ds∧(zb=true->Zf r x):=by
 have base:∀(r:Ty) (ds:List D),All2 (CellOk P zb) [r] ds->∃x:r.T,RepL P r [] x ds∧(zb=true->Zf r x):=fun r ds h=>by
  obtain⟨d,q,rfl,⟨_,x,hx⟩,h2⟩:=h.cons_l
  obtain rfl:=h2.nil_l
  exact⟨x,hx⟩
 intro r
 induction r with
 |p a r _ ih=>
  intro ds hk h
  simp only[rowKk,Bool.and_eq_true]at hk
  obtain⟨d,q,rfl,⟨_,x,hx⟩,h2⟩:=h.cons_l
  obtain⟨y,hy⟩:=ih q hk.2.2 h2
  exact⟨(x,y),⟨⟨hk.1,hk.2.1⟩,d,q,rfl,hx.1,hy.1⟩,fun hb=>⟨hx.2 hb,hy.2 hb⟩⟩
 |_=>intro ds _ h;exact base _ ds h
def manyM (cM:TypeId->List Ty->Option (List Ty)):List TypeId->List Ty->Option (List Ty)
 |[],ts=>some ts
 |t::l,ts=>(cM t ts).bind (manyM cM l)
def endM:Option (List Ty)->Bool
 |some []=>true
 |_=>false
def valM (P:Program) (cM:TypeId->List Ty->Option (List Ty)) (e:TypeId) (τ:Ty):Bool:=bif aggE P e then(match τ with
 | .g r=>r.rowk&&rowKk r&&endM (cM e (rowL r))
 |_=>false)else τ.one&&endM (cM e [τ])
def cellM (P:Program):Nat->TypeId->List Ty->Option (List Ty)
 |0,_,_=>none
 |k+1,t,ts=>match P.underlying t with
  |some .bool=>match ts with
   | .b::q=>some q
   |_=>none
  |some (.int k1)=>match ts with
   | .i k2::q=>bif decide (k1=k2)then some q else none
   |_=>none
  |some .string=>match ts with
   | .s::q=>some q
   |_=>none
  |some (.slice e)=>match ts with
   | .l .ro τ::q=>bif valM P (cellM P k) e τ&&(csz τ==P.cellsOf e)&&Nat.ble (bT τ) (P.bytesOf e)then some q else none
   |_=>none
  |some (.struct fs)=>manyM (cellM P k) (fs.toList.map (·.type)) ts
  |some (.array n e)=>manyM (cellM P k) (List.replicate n e) ts
  |_=>none
section
variable {P:Caller} {zb:Bool}
def CM (P:Caller) (zb:Bool) (cM:TypeId->List Ty->Option (List Ty)):Prop:=∀t ts q,cM t ts=some q->∀ds,RDB PP zb t ds->∃us,ts=us++q∧All2 (CellOk P zb) us ds
theorem many_ok {cM:TypeId->List Ty->Option (List Ty)} (h:CM P zb cM):∀(l:List TypeId) (ts q:List Ty),manyM cM l ts=some q->∀xs:List (List D),xs.length=l.length->(∀(i:Nat) t x,l[i]? =some t->xs[i]? =some x->RDB PP zb t x)->∃us,ts=us++q∧All2 (CellOk P zb) us xs.flatten
 |[],ts,q,hm,xs,hl,hx=>by
  obtain rfl:ts=q:=by injection hm
  obtain rfl:xs=[]:=List.eq_nil_of_length_eq_zero hl
  exact⟨[],rfl,trivial⟩
 |t::l,ts,q,hm,[],hl,hx=>by simp at hl
 |t::l,ts,q,hm,x::xs,hl,hx=>by
  obtain⟨r,h1,h2⟩:=Option.bind_eq_some_iff.1 hm
  obtain⟨us,rfl,h3⟩:=h t ts r h1 x (hx 0 t x rfl rfl)
  obtain⟨vs,rfl,h4⟩:=many_ok h l r q h2 xs (by simpa using hl) fun i t x ht hq=>hx (i+1) t x (by simpa using ht) (by simpa using hq)
  exact⟨us++vs,by simp,by rw[List.flatten_cons];exact h3.app h4⟩
theorem end_ok {o:Option (List Ty)} (h:endM o=true):o=some []:=by
 cases o with
 |none=>cases h
 |some l=>cases l with
  |nil=>rfl
  |cons=>cases h
theorem val_ok {cM:TypeId->List Ty->Option (List Ty)} (h:CM P zb cM) {e:TypeId} {τ:Ty} (hm:valM PP cM e τ=true) {ds:List D} (hr:RDB PP zb e ds):τ.val=true∧∃x:τ.T,RepL P τ [] x [mkV PP e ds]∧(zb=true->Zf τ x):=by
 unfold valM at hm
 cases ha:aggE PP e with
 |true=>
  rw[ha,cond_true]at hm
  have hv:mkV PP e ds= .agg ds:=by unfold mkV;rw[if_pos ha]
  rw[hv]
  cases τ with
  |g r=>
   simp only[Bool.and_eq_true]at hm
   obtain⟨us,h1,h2⟩:=h e (rowL r) [] (end_ok hm.2) ds hr
   rw[List.append_nil]at h1
   subst h1
   obtain⟨x,hx⟩:=row_of r ds hm.1.2 h2
   exact⟨rfl,x,⟨hm.1.1,ds,rfl,hx.1⟩,hx.2⟩
  |_=>cases hm
 |false=>
  rw[ha,cond_false,Bool.and_eq_true]at hm
  have hv:mkV PP e ds=ds.headD .u:=by unfold mkV;rw[if_neg (by rw[ha];simp)]
  obtain⟨us,h1,h2⟩:=h e [τ] [] (end_ok hm.2) ds hr
  rw[List.append_nil]at h1
  subst h1
  obtain⟨d,q,rfl,⟨h3,x,hx⟩,h4⟩:=h2.cons_l
  obtain rfl:=h4.nil_l
  rw[hv]
  refine⟨?_,x,hx⟩
  cases τ<;>first|exact h3|rfl
theorem list_ok {cM:TypeId->List Ty->Option (List Ty)} (h:CM P zb cM) {e:TypeId} {τ:Ty} (hm:valM PP cM e τ=true):∀{xs:List (List D)},(∀x,x∈xs->RDB PP zb e x)->∃l:List τ.T,l.length=xs.length∧All2 (fun y d=>RepL P τ [] y [d]) l (xs.map (mkV PP e))∧(zb=true->∀y:τ.T,List.Mem (α:=τ.T) y l->Zf τ y)
 |[],_=>⟨[],rfl,trivial,fun _ y h=>(by cases h)⟩
 |x::xs,hx=>by
  obtain⟨l,h1,h2,h3⟩:=list_ok h hm (xs:=xs) fun y hy=>hx y (List.mem_cons_of_mem _ hy)
  obtain⟨_,y,hy⟩:=val_ok h hm (hx x (List.mem_cons_self ..))
  refine⟨y::l,by simp[h1],⟨hy.1,h2⟩,fun hb z hz=>?_⟩
  rcases List.mem_cons.1 hz with rfl|hz
  ·exact hy.2 hb
  ·exact h3 hb z hz
theorem str_ok (s:ByteArray):strV (s.data.toList.map fun u=>((u.toNat:Nat):Int))=s:=by
 have:∀l:List UInt8,(l.map fun u=>((u.toNat:Nat):Int)).map (fun c=>UInt8.ofNat c.toNat)=l:=by
  intro l
  induction l with
  |nil=>rfl
  |cons u l ih=>simp only[List.map_cons,ih,Int.toNat_natCast,UInt8.ofNat_toNat]
 unfold strV
 rw[this]
theorem wf_in {k:IntKind} {n:Int} (h:(Lit.int k n).wf=true):inK k n=true:=by
 simp only[Lit.wf,Bool.and_eq_true,decide_eq_true_eq]at h
 cases k<;>exact decide_eq_true h
theorem cell_ok:∀k,CM P zb (cellM PP k)
 |0=>fun t ts q h=>by cases h
 |k+1=>fun t ts q h ds hr=>by
  have ih:=cell_ok k
  unfold cellM at h
  split at h
  ·rename_i hu
   obtain⟨b,rfl⟩:=hr.bool' hu
   split at h
   ·injection h with h;subst h
    exact⟨[.b],rfl,⟨rfl,b,rfl,fun _=>trivial⟩,trivial⟩
   ·cases h
  ·rename_i k1 hu
   obtain⟨n,hw,rfl⟩:=hr.int' hu
   split at h
   ·rename_i k2 q'
    by_cases e:k1=k2
    ·rw[decide_eq_true e,cond_true]at h
     injection h with h;subst h;subst e
     exact⟨[.i k1],rfl,⟨rfl,n,⟨rfl,wf_in hw⟩,fun _=>trivial⟩,trivial⟩
    ·rw[decide_eq_false e,cond_false]at h;cases h
   ·cases h
  ·rename_i hu
   obtain⟨s,hs,rfl⟩:=hr.str' hu
   split at h
   ·injection h with h;subst h
    refine⟨[.s],rfl,⟨rfl,s.data.toList.map fun u=>((u.toNat:Nat):Int),⟨by rw[str_ok],?_,fun c hc=>?_⟩,fun _=>trivial⟩,trivial⟩
    ·rw[List.length_map];exact hs
    ·obtain⟨u,_,rfl⟩:=List.mem_map.1 hc
     have:=u.toNat_lt
     omega
   ·cases h
  ·rename_i e hu
   obtain⟨b,xs,⟨hn,hz,hx⟩,rfl⟩:=hr.sl' hu
   split at h
   ·rename_i τ q'
    cases hc:(valM PP (cellM PP k) e τ&&(csz τ==PP.cellsOf e)&&Nat.ble (bT τ) (PP.bytesOf e))with
    |false=>rw[hc,cond_false]at h;cases h
    |true=>
     rw[hc,cond_true]at h
     injection h with h;subst h
     rw[Bool.and_eq_true,Bool.and_eq_true,beq_iff_eq,Nat.ble_eq]at hc
     obtain⟨⟨hc,hc2⟩,hc3⟩:=hc
     obtain⟨l,h1,h2,h3⟩:=list_ok ih hc hx
     refine⟨[.l .ro τ],rfl,⟨rfl,l,⟨by rw[h1];exact hn,_,h2,?_⟩,fun hb=>⟨?_,h3 hb⟩⟩,trivial⟩
     rotate_left
     ·rw[h1];exact Nat.le_trans (Nat.mul_le_mul_left _ hc3) (hz hb)
     unfold lst
     rw[hc2]
     split
     ·rename_i hq
      simp only[Bool.and_eq_true,List.isEmpty_iff]at hq
      exact .inr ⟨hq.2,0,rfl⟩
     ·exact .inl rfl
   ·cases h
  ·rename_i fs hu
   obtain⟨xs,hl,hx,rfl⟩:=hr.st' hu
   refine many_ok ih _ ts q h xs (by simpa using hl) fun i t x ht hq=>?_
   rw[List.getElem?_map]at ht
   cases hf:fs.toList[i]? with
   |none=>rw[hf]at ht;cases ht
   |some f=>
    rw[hf]at ht
    injection ht with ht;subst ht
    exact hx i f x (by rw[<-Array.getElem?_toList];exact hf) hq
  ·rename_i n e hu
   obtain⟨xs,hl,hx,rfl⟩:=hr.arr' hu
   refine many_ok ih _ ts q h xs (by simpa using hl) fun i t x ht hq=>?_
   have:=List.mem_of_getElem? ht
   obtain⟨_,rfl⟩:=List.mem_replicate.1 this
   exact hx i x hq
  ·cases h
end
theorem arg_z {P:Caller} (k:Nat) {t:TypeId} (τ:Ty) (hm:valM PP (cellM PP k) t τ=true) {ds:List D} {zb:Bool} (hr:RDB PP zb t ds):∃x:τ.T,RepL P τ [] x [mkV PP t ds]∧(zb=true->Zf τ x):=(val_ok (cell_ok k) hm hr).2
def Wf:(τ:Ty)->τ.T->Prop
 | .i k,x=>inK k x=true
 | .b,_=>True
 | .s,x=>∀c:Int,List.Mem (α:=Int) c x->0<=c∧c<256
 | .l _ t,x=>∀y:t.T,List.Mem (α:=t.T) y x->Wf t y
 | .p a r,x=>Wf a x.1∧Wf r x.2
 | .g r,x=>Wf r x
 | .t a r,x=>Wf a x.1∧Wf r x.2
 | .n,_=>True
 | .o _ _,_=>True
 | .fn _ _,_=>True
 | .cl _ r,x=>Wf r x
theorem All2.mem_l {α β:Type} {R:α->β->Prop}:∀{xs:List α} {ys:List β},All2 R xs ys->∀x∈xs,∃y,R x y
 |[],_,_,x,h=>by cases h
 |a::xs,[],h,_,_=>h.elim
 |a::xs,b::ys,h,x,hx=>by
  rcases List.mem_cons.1 hx with rfl|hx
  ·exact⟨b,h.1⟩
  ·exact All2.mem_l h.2 x hx
theorem wf_rep {P:Caller} {F:List Fx}:∀{τ:Ty} {x:τ.T} {ds:List D},RepL P τ F x ds->Wf τ x
 | .i k,x,ds,h=>h.2
 | .b,x,ds,h=>trivial
 | .s,x,ds,h=>h.2.2
 | .l m t,x,ds,h=>by
  obtain⟨_,es,h1,_⟩:=h
  intro y hy
  obtain⟨e,he⟩:=h1.mem_l y hy
  exact wf_rep (τ:=t) he
 | .p a r,x,ds,h=>by
  obtain⟨_,d,q,_,h1,h2⟩:=h
  exact⟨wf_rep h1,wf_rep h2⟩
 | .g r,x,ds,h=>by
  obtain⟨_,cs,_,h1⟩:=h
  exact wf_rep (τ:=r) h1
 | .t a r,x,ds,h=>by
  obtain⟨_,d,q,_,h1,h2⟩:=h
  exact⟨wf_rep h1,wf_rep h2⟩
 | .n,x,ds,h=>trivial
 | .o _ _,x,ds,h=>trivial
 | .fn _ _,x,ds,h=>trivial
 | .cl _ r,x,ds,h=>by
  obtain⟨_,cs,_,h1⟩:=h
  exact wf_rep (τ:=r) h1
theorem ef_b1 {P:Caller} {R:List D->List Bx->Option (D×List Bx)} {a:AK} {ak:List AK} {F:(Sg.mk (a::ak) .b).aT.T->Option (Sg.mk (a::ak) .b).oT.T} (ho:TOK1 P R (.par ⟨a::ak,.b⟩ F)) (hv:∀b∈a::ak,∃τ,b= .v τ) (ht:(Sg.mk (a::ak) .b).aT.tupk=true)
  {x:(Sg.mk (a::ak) .b).aT.T} {ds:List D} (hl:ds.length=(a::ak).length) (hr:RepL P (Sg.mk (a::ak) .b).aT [] x ds) {y:(Sg.mk (a::ak) .b).oT.T} (hy:F x=some y):∃b:Bool,R ds []=some (D.v (.bool b),[])∧HEq y b:=by
 have hw:=tupW_ok (c:=cz P) ht hr
 have harg:=argl_v (c':=cz P) hv (by rw[<-hl,hw.length]) hw
 obtain⟨d,Y',r1,r2,r3⟩:=ho [] 0 [] (fun _=>[]) [] (cz_ok P) (fun i r ys h=>by simp at h) x ds harg y hy
 have hrun:R ds []=some (d,[]):=by
  have:=r3 [] ⟨rfl,Sat.nil [],(fun r h=>by cases h),(fun i r h=>by simp at h)⟩ (fun i r ys h=>by simp at h)
  rw[this]
  cases Y'<;>rfl
 have key:∀{xk:List Ty} {z:(oTy .b xk).T},xk=[]->Rep4 (c0 P) (outW .b xk z).1 d->∃b:Bool,d=D.v (.bool b)∧HEq z b:=by
  intro xk z hx hrep
  subst hx
  obtain rfl:=b_d hrep.2
  exact⟨z,rfl,HEq.rfl⟩
 obtain⟨b,rfl,hb⟩:=key (xs_v hv) r1
 exact⟨b,hrun,hb⟩
end Go.Proofs.Ytfopbiiffiickaa.Ev.U
namespace Go.Proofs.Ytfopbiiffiickaa.Ev.U
open Go
end Go.Proofs.Ytfopbiiffiickaa.Ev.U
namespace Go.Proofs.Ytfopbiiffiickaa.Ev
open Go
def mg:List Bx->List Bx->List Bx
 |[],_=>[]
 |b::B,Q=>(if b.isEmpty then Q.headD []else b)::mg B Q.tail
theorem mg_len (B:List Bx):∀Q,(mg B Q).length=B.length:=by
 induction B with
 |nil=>intro Q;rfl
 |cons b B ih=>intro Q;simp[mg,ih]
theorem mg_get {B:List Bx}:∀{Q:List Bx} {i:Nat} {b:Bx},B[i]? =some b->b≠[]->(mg B Q)[i]? =some b:=by
 induction B with
 |nil=>intro Q i b h;simp at h
 |cons a B ih=>
  intro Q i b h hb
  cases i with
  |zero=>
   simp at h
   subst h
   cases a with
   |nil=>exact absurd rfl hb
   |cons x a=>simp[mg]
  |succ i=>simpa[mg]using ih (Q:=Q.tail) (by simpa using h) hb
theorem mg_app {B:List Bx} (b:Bx):∀{Q:List Bx},Q.length=B.length->mg (B++[b]) (Q++[[]])=mg B Q++[b]:=by
 induction B with
 |nil=>
  intro Q h
  obtain rfl:Q=[]:=List.length_eq_zero_iff.1 (by simpa using h)
  cases b<;>simp[mg]
 |cons a B ih=>
  intro Q h
  cases Q with
  |nil=>simp at h
  |cons q Q=>simp[mg,ih (Q:=Q) (by simpa using h)]
theorem mg_app2 {B:List Bx} {b q:Bx} (hb:b.isEmpty=false):∀{Q:List Bx},Q.length=B.length->mg (B++[b]) (Q++[q])=mg B Q++[b]:=by
 induction B with
 |nil=>
  intro Q h
  obtain rfl:Q=[]:=List.length_eq_zero_iff.1 (by simpa using h)
  simp[mg,hb]
 |cons a B ih=>
  intro Q h
  cases Q with
  |nil=>simp at h
  |cons p Q=>simp[mg,ih (Q:=Q) (by simpa using h)]
theorem mg_rep {B:List Bx} (h:B.all List.isEmpty=true):∀{Q:List Bx},Q.length=B.length->mg B Q=Q:=by
 induction B with
 |nil=>intro Q h;exact(List.length_eq_zero_iff.1 (by simpa using h)).symm
 |cons a B ih=>
  intro Q hq
  cases Q with
  |nil=>simp at hq
  |cons q Q=>
   simp only[List.all_cons,Bool.and_eq_true]at h
   simp[mg,h.1,ih h.2 (Q:=Q) (by simpa using hq)]
theorem mg_mod {B:List Bx} {g:Bx->Bx} (hg:∀l,l≠[]->g l≠[]):∀{Q:List Bx} {f:Nat} {b:Bx},B[f]? =some b->b≠[]->mg (B.modify f g) Q=(mg B Q).modify f g:=by
 induction B with
 |nil=>intro Q f b h;simp at h
 |cons a B ih=>
  intro Q f b h hb
  cases f with
  |zero=>
   simp at h
   subst h
   have h1:a.isEmpty=false:=by cases a with
    |nil=>exact absurd rfl hb
    |cons=>rfl
   have h2:(g a).isEmpty=false:=by
    cases hga:g a with
    |nil=>exact absurd hga (hg a hb)
    |cons=>rfl
   simp[mg,h1,h2]
  |succ f=>simp[mg,ih (Q:=Q.tail) (by simpa using h) hb]
def S.fl (s:S) (Q:List Bx):S:=⟨s.e,s.l,mg s.o Q⟩
section
variable {s s':S} {Q:List Bx}
theorem fl_len:(s.fl Q).o.length=s.o.length:=mg_len _ _
theorem rd_fl {x:Opd}:rd x (s.fl Q)=((rd x s).1,(rd x s).2.fl Q):=by cases x<;>rfl
theorem rd_oo {x:Opd}:(rd x s).2.o=s.o:=by cases x<;>rfl
theorem rd_fl1 {x:Opd}:(rd x (s.fl Q)).1=(rd x s).1:=by cases x<;>rfl
theorem rd_fl2 {x:Opd}:(rd x (s.fl Q)).2=(rd x s).2.fl Q:=by cases x<;>rfl
theorem rdL_fl {xs:List Opd}:∀{s:S},rdL xs (s.fl Q)=((rdL xs s).1,(rdL xs s).2.fl Q)∧(rdL xs s).2.o=s.o:=by
 induction xs with
 |nil=>intro s;exact⟨rfl,rfl⟩
 |cons x xs ih=>
  intro s
  obtain⟨h1,h2⟩:=ih (s:=(rd x s).2)
  refine⟨?_,h2.trans rd_oo⟩
  simp only[rdL,rd_fl1,rd_fl2,h1]
theorem rds_fl {xs:List Opd}:rds (s.fl Q) xs=rds s xs:=by
 induction xs with
 |nil=>rfl
 |cons x xs ih=>simp only[rds,rd_fl1,ih]
theorem lk_ne {b:Nat} {l:Bx} {ds:List D} (h:lk b l=some ds):l≠[]:=by intro e;subst e;cases h
theorem bx_fl {f b:Nat} {ds:List D} (h:bx f b s=some ds):bx f b (s.fl Q)=some ds:=by
 unfold bx at h ⊢
 rw[fl_len]
 split at h
 ·rename_i e;rw[if_pos e];exact h
 ·rename_i e
  rw[if_neg e]
  obtain⟨l,h1,h2⟩:=Option.bind_eq_some_iff.1 h
  show(mg s.o Q)[f]?.bind _=_
  rw[mg_get h1 (lk_ne h2)]
  exact h2
theorem sb_ne {b:Nat} {ds:List D} {l:Bx} (h:l≠[]):sb b ds l≠[]:=by
 cases l with
 |nil=>exact absurd rfl h
 |cons p l=>obtain⟨b',ds'⟩:=p;simp only[sb];split<;>simp
theorem sbx_fl {f b:Nat} {ds ds':List D} (h:bx f b s=some ds):sbx f b ds' (s.fl Q)=(sbx f b ds' s).fl Q:=by
 unfold bx at h
 unfold sbx
 rw[fl_len]
 split at h
 ·rename_i e;rw[if_pos e,if_pos e];rfl
 ·rename_i e
  rw[if_neg e,if_neg e]
  obtain⟨l,h1,h2⟩:=Option.bind_eq_some_iff.1 h
  show S.mk _ _ _=S.mk _ _ _
  rw[show(S.wo s (s.o.modify f (sb b ds'))).o=s.o.modify f (sb b ds')from rfl,mg_mod (fun l hl=>sb_ne hl) h1 (lk_ne h2)]
  rfl
theorem sbx_len {f b:Nat} {ds:List D}:(sbx f b ds s).o.length=s.o.length:=by
 unfold sbx
 split
 ·rfl
 ·show(s.o.modify f _).length=_
  simp
def CUp (ck c:Caller):Prop:=∀f ds B r B',ck f ds B=some (r,B')->B'.length=B.length∧∀Q,Q.length=B.length->c f ds (mg B Q)=some (r,mg B' Q)
variable {ck c:Caller}
theorem doCall_fl (h:CUp ck c) {f:Nat} {ds:List D} {d:D} (he:doCall ck f ds s=some (d,s')):s'.o.length=s.o.length∧∀Q,Q.length=s.o.length->doCall c f ds (s.fl Q)=some (d,s'.fl Q):=by
 unfold doCall at he
 cases hq:ck f ds (s.o++[s.l])with
 |none=>rw[hq]at he;cases he
 |some p=>
  obtain⟨d1,o'⟩:=p
  rw[hq]at he
  simp only at he
  split at he
  ·rename_i o l hu
   injection he with he
   injection he with e1 e2
   subst e1 e2
   obtain⟨h1,h2⟩:=h _ _ _ _ _ hq
   have hu:=unsnoc_eq hu
   subst hu
   have hl:o.length=s.o.length:=by simpa using h1
   refine⟨hl,fun Q hQ=>?_⟩
   have h3:=h2 (Q++[[]]) (by simp[hQ])
   rw[mg_app _ hQ,mg_app _ (by rw[hQ,hl])]at h3
   unfold doCall
   rw[show(s.fl Q).o++[(s.fl Q).l]=mg s.o Q++[s.l]from rfl,h3]
   simp only[unsnoc_append]
   rfl
  ·cases he
theorem snpP_fl {d d':D} (h:d.snpP s=some d'):d.snpP (s.fl Q)=some d':=by
 cases d with
 |ptr f b off=>
  simp only[D.snpP]at h ⊢
  obtain⟨cs,h1,h2⟩:=Option.bind_eq_some_iff.1 h
  rw[bx_fl h1]
  exact h2
 |_=>exact h
theorem snpC_fl {ds:List D}:∀{ds':List D},snpC s ds=some ds'->snpC (s.fl Q) ds=some ds':=by
 induction ds with
 |nil=>intro ds' h;exact h
 |cons d ds ih=>
  intro ds' h
  simp only[snpC]at h ⊢
  split at h
  ·rename_i h1 h2
   rw[snpP_fl h1,ih h2];exact h
  ·cases h
theorem snp1_fl {d d':D} (h:d.snp1 s=some d'):d.snp1 (s.fl Q)=some d':=by
 cases d with
 |ref f b off n z=>
  simp only[D.snp1]at h ⊢
  split at h
  ·rename_i e;rw[if_pos e];exact h
  ·rename_i e
   rw[if_neg e]
   obtain⟨cs,h1,h2⟩:=Option.bind_eq_some_iff.1 h
   rw[bx_fl h1]
   exact h2
 |sl m z xs=>cases m<;>exact h
 |clo fn caps=>
  simp only[D.snp1]at h ⊢
  obtain⟨cs,h1,h2⟩:=Option.map_eq_some_iff.1 h
  rw[snpC_fl h1];exact congrArg some h2
 |_=>exact h
theorem snpL_fl {ds:List D}:∀{ds':List D},snpL s ds=some ds'->snpL (s.fl Q) ds=some ds':=by
 induction ds with
 |nil=>intro ds' h;exact h
 |cons d ds ih=>
  intro ds' h
  simp only[snpL]at h ⊢
  split at h
  ·rename_i h1 h2
   rw[snp1_fl h1,ih h2];exact h
  ·cases h
theorem snp_fl {d d':D} (h:d.snp s=some d'):d.snp (s.fl Q)=some d':=by
 cases d with
 |agg cs=>
  simp only[D.snp]at h ⊢
  obtain⟨q,h1,h2⟩:=Option.map_eq_some_iff.1 h
  rw[snpL_fl h1];exact congrArg some h2
 |_=>simp only[D.snp]at h ⊢;exact snp1_fl h
theorem rdR_fl {x:Opd}:rdR x (s.fl Q)=rdR x s:=by cases x<;>rfl
theorem snpA_fl {xs:List Opd}:∀{ds':List D},snpA s xs=some ds'->snpA (s.fl Q) xs=some ds':=by
 induction xs with
 |nil=>intro ds' h;exact h
 |cons x xs ih=>
  intro ds' h
  simp only[snpA]at h ⊢
  rw[rdR_fl]
  split at h
  ·rename_i h1 h2
   rw[snp_fl h1,ih h2];exact h
  ·cases h
theorem neut_c {t:Option Nat} {p:Op} (hp:p.neut=true) (s:S):evOp ck t p s=evOp c t p s:=by
 cases p<;>first|rfl|cases hp
theorem moved_fl {m:Option Nat}:moved m (s.fl Q)=(moved m s).fl Q:=by cases m<;>rfl
theorem moved_o {m:Option Nat}:(moved m s).o=s.o:=by cases m<;>rfl
theorem putO_fl {m:Option Nat} {d:D}:putO m d (s.fl Q)=(putO m d s).fl Q:=by cases m<;>rfl
theorem putO_o {m:Option Nat} {d:D}:(putO m d s).o=s.o:=by cases m<;>rfl
theorem evOp_fl (h:CUp ck c) {t:Option Nat} {p:Op} {d:D} (he:evOp ck t p s=some (d,s')):s'.o.length=s.o.length∧∀Q,Q.length=s.o.length->evOp c t p (s.fl Q)=some (d,s'.fl Q):=by
 by_cases hn:p.neut=true
 ·have h1:=neut_loc (s':=s) hn he fun _ _=>rfl
  have h1':s'=moved p.ms s:=h1.1
  refine⟨by rw[h1',moved_o],fun Q hQ=>?_⟩
  have h2:=neut_loc (s':=s.fl Q) hn he fun _ _=>rfl
  rw[<-neut_c (ck:=ck) hn,h2.2,moved_fl,<-h1']
 cases p with
 |pk q a b=>
  simp only[evOp]at he ⊢
  split at he
  ·rename_i v hv
   injection he with he
   cases v with
   |true=>
    have he:rd a s=(d,s'):=he
    refine⟨by rw[show s'=(rd a s).2 by rw[he],rd_oo],fun Q hQ=>?_⟩
    simp only[rd_fl1,hv]
    show some (rd a (s.fl Q))=_
    rw[rd_fl,he]
   |false=>
    have he:rd b s=(d,s'):=he
    refine⟨by rw[show s'=(rd b s).2 by rw[he],rd_oo],fun Q hQ=>?_⟩
    simp only[rd_fl1,hv]
    show some (rd b (s.fl Q))=_
    rw[rd_fl,he]
  ·cases he
 |al z=>
  simp only[evOp]at he ⊢
  cases t with
  |none=>cases he
  |some t=>
   simp only at he ⊢
   split at he
   ·rename_i hl
    injection he with he
    injection he with e1 e2
    subst e1 e2
    refine⟨rfl,fun Q hQ=>?_⟩
    simp only[show(s.fl Q).l=s.l from rfl,hl,fl_len]
    rfl
   ·cases he
 |bx x=>
  simp only[evOp]at he ⊢
  cases t with
  |none=>cases he
  |some t=>
   simp only at he ⊢
   split at he
   ·rename_i hl
    split at he
    ·rename_i hc
     injection he with he
     injection he with e1 e2
     subst e1 e2
     refine⟨by show(rd x s).2.o.length=_;rw[rd_oo],fun Q hQ=>?_⟩
     simp only[show(s.fl Q).l=s.l from rfl,hl,fl_len,rd_fl1,rd_fl2]
     rw[if_pos hc]
     rfl
    ·cases he
   ·cases he
 |ld n x=>
  simp only[evOp]at he ⊢
  split at he
  ·rename_i f b off hx
   split at he
   ·rename_i ds hb
    obtain⟨q,h1,h2⟩:=Option.map_eq_some_iff.1 he
    injection h2 with e1 e2
    subst e1 e2
    refine⟨rfl,fun Q hQ=>?_⟩
    simp only[rd_fl1,hx,bx_fl hb,h1]
    rfl
   ·cases he
  ·rename_i cs off hx
   obtain⟨q,h1,h2⟩:=Option.map_eq_some_iff.1 he
   injection h2 with e1 e2
   subst e1 e2
   refine⟨rfl,fun Q hQ=>?_⟩
   simp only[rd_fl1,hx,h1]
   rfl
  ·cases he
 |ldm n x=>
  simp only[evOp]at he ⊢
  split at he
  ·rename_i f b off hx
   split at he
   ·rename_i ds hb
    obtain⟨q,h1,h2⟩:=Option.map_eq_some_iff.1 he
    injection h2 with e1 e2
    subst e1 e2
    refine⟨sbx_len,fun Q hQ=>?_⟩
    simp only[rd_fl1,hx,bx_fl hb,h1,Option.map_some,sbx_fl hb]
   ·cases he
  ·cases he
 |st n x y=>
  simp only[evOp]at he ⊢
  split at he
  ·rename_i f b off hx
   split at he
   ·rename_i ds hb
    split at he
    ·rename_i hc
     injection he with he
     injection he with e1 e2
     subst e1 e2
     have hb':bx f b (rd y s).2=some ds:=by
      have:(rd y s).2.o=s.o:=rd_oo
      have h2:(rd y s).2.l=s.l:=by cases y<;>rfl
      unfold bx at hb ⊢
      rw[this,h2];exact hb
     refine⟨by rw[sbx_len,rd_oo],fun Q hQ=>?_⟩
     simp only[rd_fl1,hx,bx_fl hb,rd_fl2]
     rw[if_pos hc,sbx_fl hb']
    ·cases he
   ·cases he
  ·cases he
 |ext x i=>
  cases x with
  |m n=>
   simp only[evOp]at he ⊢
   split at he
   ·rename_i ds hx
    obtain⟨q,h1,h2⟩:=Option.map_eq_some_iff.1 he
    injection h2 with e1 e2
    subst e1 e2
    refine⟨rfl,fun Q hQ=>?_⟩
    simp only[show get n (s.fl Q).e=get n s.e from rfl,hx,h1]
    rfl
   ·cases he
  |_=>exact absurd rfl hn
 |call f xs=>
  simp only[evOp]at he ⊢
  obtain⟨h1,h2⟩:=doCall_fl h he
  have ho:(rdL xs s).2.o=s.o:=(rdL_fl (Q:=[]) (s:=s)).2
  refine⟨by rw[h1,ho],fun Q hQ=>?_⟩
  rw[rdL_fl.1]
  exact h2 Q (by rw[ho,hQ])
 |calf f xs=>
  simp only[evOp]at he ⊢
  split at he
  ·rename_i d1 s1 hd
   injection he with he
   injection he with e1 e2
   subst e1 e2
   obtain⟨h1,h2⟩:=doCall_fl h hd
   have ho:(rdL xs s).2.o=s.o:=(rdL_fl (Q:=[]) (s:=s)).2
   refine⟨by rw[h1,ho],fun Q hQ=>?_⟩
   rw[rdL_fl.1,h2 Q (by rw[ho,hQ])]
  ·cases he
 |cv x xs=>
  simp only[evOp]at he ⊢
  have ho:(rdL xs s).2.o=s.o:=(rdL_fl (Q:=[]) (s:=s)).2
  split at he
  ·rename_i f caps hx
   obtain⟨h1,h2⟩:=doCall_fl h he
   refine⟨by rw[h1,ho],fun Q hQ=>?_⟩
   rw[rdL_fl.1,rd_fl1,hx]
   exact h2 Q (by rw[ho,hQ])
  ·rename_i f b hx
   split at he
   ·rename_i st jm rid ks caps hb
    obtain⟨h1,h2⟩:=doCall_fl h he
    refine⟨by rw[h1,ho],fun Q hQ=>?_⟩
    rw[rdL_fl.1,rd_fl1,hx]
    simp only[bx_fl hb]
    exact h2 Q (by rw[ho,hQ])
   ·cases he
  ·cases he
 |cpy x y=>
  simp only[evOp]at he ⊢
  split at he
  ·rename_i z xs m z' ys hx hy
   split at he
   ·rename_i hc
    injection he with he
    injection he with e1 e2
    subst e1 e2
    refine⟨rfl,fun Q hQ=>?_⟩
    simp only[rd_fl1,hx,hy]
    rw[if_pos hc]
   ·cases he
  ·rename_i f b off n z m z' ys hx hy
   split at he
   ·rename_i hc
    split at he
    ·rename_i hz
     injection he with he
     injection he with e1 e2
     subst e1 e2
     refine⟨rfl,fun Q hQ=>?_⟩
     simp only[rd_fl1,hx,hy]
     rw[if_pos hc,if_pos hz]
    ·rename_i hz
     split at he
     ·rename_i ds hb
      split at he
      ·rename_i hk
       injection he with he
       injection he with e1 e2
       subst e1 e2
       refine⟨sbx_len,fun Q hQ=>?_⟩
       simp only[rd_fl1,hx,hy,bx_fl hb]
       rw[if_pos hc,if_neg hz,if_pos hk,sbx_fl hb]
      ·cases he
     ·cases he
   ·cases he
  ·cases he
 |pcal f xs=>
  simp only[evOp]at he ⊢
  split at he
  ·rename_i ds hs
   split at he
   ·rename_i x hq
    injection he with he
    injection he with e1 e2
    subst e1 e2
    have h1:=(h _ _ _ _ _ hq).2 [] rfl
    refine⟨rfl,fun Q hQ=>?_⟩
    rw[snpA_fl hs]
    simp only[show c f ds []=some (.v x,[])from h1]
   ·cases he
  ·cases he
 |bxo u x=>
  simp only[evOp]at he ⊢
  split at he
  ·rename_i o0 l0 hun
   have hso:=unsnoc_eq hun
   simp only at hso
   split at he
   ·rename_i hl
    split at he
    ·rename_i hcc
     obtain⟨hne,hc2⟩:=hcc
     injection he with he
     injection he with e1 e2
     subst e1 e2
     refine⟨by show(o0++[ins u (rd x s).1.cells l0]).length=s.o.length;rw[hso];simp,fun Q hQ=>?_⟩
     have hQ':∃Q0 q,Q=Q0++[q]∧Q0.length=o0.length:=by
      have h1:Q.length=o0.length+1:=by rw[hQ,hso];simp
      obtain⟨q,hq⟩:=List.length_eq_one_iff.1 (show(Q.drop o0.length).length=1 by simp;omega)
      exact⟨Q.take o0.length,q,by rw[<-hq,List.take_append_drop],by simp;omega⟩
     obtain⟨Q0,q,rfl,hQ0⟩:=hQ'
     have hm:∀l1:Bx,l1.isEmpty=false->mg (o0++[l1]) (Q0++[q])=mg o0 Q0++[l1]:=fun l1 h1=>mg_app2 h1 hQ0
     have hins:(ins u ((rd x s).1.cells) l0).isEmpty=false:=by
      cases l0 with
      |nil=>rfl
      |cons p l0=>obtain⟨b',ds'⟩:=p;simp only[ins];split<;>rfl
     have e1:(s.fl (Q0++[q])).o=mg o0 Q0++[l0]:=by show mg s.o _=_;rw[hso,hm _ hne]
     rw[e1,unsnoc_append]
     simp only[hl,rd_fl1,mg_len]
     rw[if_pos ⟨hne,hc2⟩]
     congr 1
     refine Prod.ext ?_ ?_
     ·show D.ptr ((mg o0 Q0++[l0]).length-1) u 0=D.ptr (s.o.length-1) u 0
      rw[hso];simp[mg_len]
     ·show S.mk _ _ _=S.mk _ _ _
      rw[show(S.wo (rd x s).2 (o0++[ins u ((rd x s).1.cells) l0])).o=o0++[ins u ((rd x s).1.cells) l0]from rfl,hm _ hins]
      cases x<;>rfl
    ·cases he
   ·cases he
  ·cases he
 |mkm=>
  simp only[evOp]at he ⊢
  injection he with he
  injection he with e1 e2
  subst e1 e2
  exact⟨rfl,fun Q hQ=>rfl⟩
 |mkn u=>
  simp only[evOp]at he ⊢
  split at he
  ·rename_i hl
   injection he with he
   injection he with e1 e2
   subst e1 e2
   refine⟨rfl,fun Q hQ=>?_⟩
   simp only[show(s.fl Q).l=s.l from rfl,hl,fl_len]
   rfl
  ·cases he
 |mlk x y=>
  simp only[evOp]at he ⊢
  split at he
  ·rename_i f b p q hx hy
   split at he
   ·rename_i ds hb
    obtain⟨r,h1,h2⟩:=Option.map_eq_some_iff.1 he
    injection h2 with e1 e2
    subst e1 e2
    refine⟨rfl,fun Q hQ=>?_⟩
    simp only[rd_fl1,hx,hy,bx_fl hb,h1]
    rfl
   ·cases he
  ·cases he
 |mup x y=>
  simp only[evOp]at he ⊢
  split at he
  ·rename_i f b p q hx hy
   split at he
   ·rename_i ds hb
    obtain⟨r,h1,h2⟩:=Option.map_eq_some_iff.1 he
    injection h2 with e1 e2
    subst e1 e2
    refine⟨sbx_len,fun Q hQ=>?_⟩
    simp only[rd_fl1,hx,hy,bx_fl hb,h1,Option.map_some,sbx_fl hb]
   ·cases he
  ·cases he
 |mv x=>exact absurd rfl hn
 |_=>exact absurd rfl hn
theorem evStp_fl (h:CUp ck c) {p:Stp} (he:evStp ck p s=some s'):s'.o.length=s.o.length∧∀Q,Q.length=s.o.length->evStp c p (s.fl Q)=some (s'.fl Q):=by
 have one:∀{s'},(evOp ck p.t p.op s).map (fun r=>putO p.t r.1 r.2)=some s'->s'.o.length=s.o.length∧∀Q,Q.length=s.o.length->(evOp c p.t p.op (s.fl Q)).map (fun r=>putO p.t r.1 r.2)=some (s'.fl Q):=by
  intro s' hr
  obtain⟨⟨d,s1⟩,h1,h2⟩:=Option.map_eq_some_iff.1 hr
  subst h2
  obtain⟨k1,k2⟩:=evOp_fl h h1
  refine⟨by rw[putO_o,k1],fun Q hQ=>?_⟩
  rw[k2 Q hQ,Option.map_some,putO_fl]
 unfold evStp at he ⊢
 split at he
 ·rename_i hg
  exact one he
 ·rename_i q want hg
  split at he
  ·rename_i v hv
   split at he
   ·rename_i e
    obtain⟨k1,k2⟩:=one he
    refine⟨k1,fun Q hQ=>?_⟩
    simp only[show get q (s.fl Q).e=get q s.e from rfl,hv]
    rw[if_pos e];exact k2 Q hQ
   ·rename_i e
    injection he with he
    subst he
    refine⟨by rw[putO_o],fun Q hQ=>?_⟩
    simp only[show get q (s.fl Q).e=get q s.e from rfl,hv]
    rw[if_neg e,putO_fl]
  ·rename_i x hx hv
   injection he with he
   subst he
   refine⟨by rw[putO_o],fun Q hQ=>?_⟩
   simp only[show get q (s.fl Q).e=get q s.e from rfl,hv]
   rw[putO_fl]
  ·cases he
theorem evOps_fl (h:CUp ck c) {l:List Stp}:∀{s s':S},evOps ck l s=some s'->s'.o.length=s.o.length∧∀Q,Q.length=s.o.length->evOps c l (s.fl Q)=some (s'.fl Q):=by
 induction l with
 |nil=>intro s s' he;simp only[evOps]at he;injection he with he;subst he;exact⟨rfl,fun _ _=>rfl⟩
 |cons p l ih=>
  intro s s' he
  simp only[evOps]at he ⊢
  obtain⟨s1,h1,h2⟩:=Option.bind_eq_some_iff.1 he
  obtain⟨k1,k2⟩:=evStp_fl h h1
  obtain⟨j1,j2⟩:=ih h2
  refine⟨j1.trans k1,fun Q hQ=>?_⟩
  rw[k2 Q hQ,Option.bind_some]
  exact j2 Q (by rw[hQ,k1])
def qvK (c:Caller) (n f:Nat) (ds:List D):Option D:=match c f ds (List.replicate n [])with
 |some (d,o)=>if o.all List.isEmpty=true then some d else none
 |none=>none
theorem qvK_ok (h:CUp ck c) {n f:Nat} {ds:List D} {d:D} (he:qvK ck n f ds=some d):qv c n f ds=some d:=by
 unfold qvK at he
 split at he
 ·rename_i d1 o ho
  split at he
  ·rename_i ha
   injection he with he
   subst he
   refine qv_of fun B hB=>?_
   obtain⟨k1,k2⟩:=h _ _ _ _ _ ho
   have k3:=k2 B (by simp[hB])
   rw[mg_rep (by simp) (by simp[hB]),mg_rep ha (by rw[k1];simp[hB])]at k3
   exact k3
  ·cases he
 ·cases he
noncomputable def instK (c:Caller) (t:Option Nat) (p:Op) (s:S):Option Ins:=
 match p with
 | .call f xs=>if xs.all Opd.ot=true then(qvK c (s.o.length+1) f (rds s xs)).map fun d=>⟨d,none,.no⟩else none
 | .calf f xs=>if xs.all Opd.ot=true then(qvK c (s.o.length+1) f (rds s xs)).map fun d=>⟨dwnA d,none,.no⟩else none
 | .cv x xs=>if xs.all Opd.ot=true then(match(rd x s).1 with
  | .clo f caps=>(qvK c (s.o.length+1) f (rds s xs++caps)).map fun d=>⟨d,none,.no⟩
  |_=>none)else none
 |p=>inst c t p s
def ApOk (i:Ins) (s:S):Prop:=∀f b off cs,i.a= .wr f b off cs->∃ds,bx f b s=some ds
theorem ap_fl {i:Ins} {t:Option Nat} (h:ApOk i s):(∀Q,i.ap t (s.fl Q)=(i.ap t s).fl Q)∧(i.ap t s).o.length=s.o.length:=by
 unfold Ins.ap
 have hb:(∀Q,i.a.ap (s.fl Q)=(i.a.ap s).fl Q)∧(i.a.ap s).o.length=s.o.length:=by
  cases ha:i.a with
  |no=>exact⟨fun _=>rfl,rfl⟩
  |rd f b o n=>exact⟨fun _=>rfl,rfl⟩
  |al t ds=>exact⟨fun _=>rfl,rfl⟩
  |wr f b off cs=>
   obtain⟨ds,hd⟩:=h f b off cs ha
   refine⟨fun Q=>?_,sbx_len⟩
   simp only[Ba.ap,hd,bx_fl hd,sbx_fl hd]
 refine⟨fun Q=>?_,by rw[putO_o,moved_o,hb.2]⟩
 rw[hb.1,moved_fl,putO_fl]
theorem instK_fl (h:CUp ck c) {t:Option Nat} {p:Op} {i:Ins} (he:instK ck t p s=some i):ApOk i s∧∀Q,Q.length=s.o.length->inst c t p (s.fl Q)=some i:=by
 have no:∀{d:D} {m:Option Nat},ApOk ⟨d,m,.no⟩ s:=fun f b off cs e=>by cases e
 have rest:∀p:Op,instK ck t p s=(if p.neut=true then(evOp ck t p s).map fun r=>(⟨r.1,p.ms,.no⟩:Ins)else none)->(∀s,inst c t p s=(if p.neut=true then(evOp c t p s).map fun r=>(⟨r.1,p.ms,.no⟩:Ins)else none))->instK ck t p s=some i->ApOk i s∧∀Q,Q.length=s.o.length->inst c t p (s.fl Q)=some i:=by
  intro p e1 e2 he
  rw[e1]at he
  split at he
  ·rename_i hn
   obtain⟨⟨d,s1⟩,h1,h2⟩:=Option.map_eq_some_iff.1 he
   subst h2
   refine⟨no,fun Q hQ=>?_⟩
   have h2:=(neut_loc (s':=s.fl Q) hn h1 fun _ _=>rfl).2
   rw[neut_c (c:=c) hn]at h2
   rw[e2,if_pos hn,h2]
   rfl
  ·cases he
 cases p with
 |call f xs=>
  simp only[instK]at he
  split at he
  ·rename_i hc
   obtain⟨d,h1,h2⟩:=Option.map_eq_some_iff.1 he
   subst h2
   refine⟨no,fun Q hQ=>?_⟩
   simp only[inst,fl_len,rds_fl,qvK_ok h h1]
   rw[if_pos hc];rfl
  ·cases he
 |calf f xs=>
  simp only[instK]at he
  split at he
  ·rename_i hc
   obtain⟨d,h1,h2⟩:=Option.map_eq_some_iff.1 he
   subst h2
   refine⟨no,fun Q hQ=>?_⟩
   simp only[inst,fl_len,rds_fl,qvK_ok h h1]
   rw[if_pos hc];rfl
  ·cases he
 |cv x xs=>
  simp only[instK]at he
  split at he
  ·rename_i hc
   split at he
   ·rename_i f caps hx
    obtain⟨d,h1,h2⟩:=Option.map_eq_some_iff.1 he
    subst h2
    refine⟨no,fun Q hQ=>?_⟩
    simp only[inst,fl_len,rds_fl,rd_fl1,hx,qvK_ok h h1]
    rw[if_pos hc];rfl
   ·cases he
  ·cases he
 |ld n x=>
  have he:inst ck t (.ld n x) s=some i:=he
  simp only[inst]at he ⊢
  split at he
  ·rename_i f b off hx
   split at he
   ·rename_i ds hb
    obtain⟨d,h1,h2⟩:=Option.map_eq_some_iff.1 he
    subst h2
    refine⟨fun f b off cs e=>(by cases e),fun Q hQ=>?_⟩
    simp only[rd_fl1,hx,bx_fl hb,h1,Option.map_some]
   ·cases he
  ·rename_i cs off hx
   obtain⟨d,h1,h2⟩:=Option.map_eq_some_iff.1 he
   subst h2
   refine⟨no,fun Q hQ=>?_⟩
   simp only[rd_fl1,hx,h1,Option.map_some]
  ·cases he
 |ldm n x=>
  have he:inst ck t (.ldm n x) s=some i:=he
  simp only[inst]at he ⊢
  split at he
  ·rename_i f b off hx
   split at he
   ·rename_i ds hb
    obtain⟨d,h1,h2⟩:=Option.map_eq_some_iff.1 he
    subst h2
    refine⟨fun f' b' off' cs e=>(by cases e;exact⟨_,hb⟩),fun Q hQ=>?_⟩
    simp only[rd_fl1,hx,bx_fl hb,h1,Option.map_some]
   ·cases he
  ·cases he
 |st n x y=>
  have he:inst ck t (.st n x y) s=some i:=he
  simp only[inst]at he ⊢
  split at he
  ·rename_i f b off hx
   split at he
   ·rename_i ds hb
    split at he
    ·rename_i hc
     injection he with he
     subst he
     refine⟨fun f' b' off' cs e=>(by cases e;exact⟨_,hb⟩),fun Q hQ=>?_⟩
     simp only[rd_fl1,hx,bx_fl hb]
     rw[if_pos hc]
    ·cases he
   ·cases he
  ·cases he
 |cpy x y=>
  have he:inst ck t (.cpy x y) s=some i:=he
  simp only[inst]at he ⊢
  split at he
  ·rename_i z xs m z' ys hx hy
   split at he
   ·rename_i hc
    injection he with he
    subst he
    refine⟨no,fun Q hQ=>?_⟩
    simp only[rd_fl1,hx,hy]
    rw[if_pos hc]
   ·cases he
  ·rename_i f b off n z m z' ys hx hy
   split at he
   ·rename_i hc
    split at he
    ·rename_i hz
     injection he with he
     subst he
     refine⟨no,fun Q hQ=>?_⟩
     simp only[rd_fl1,hx,hy]
     rw[if_pos hc,if_pos hz]
    ·rename_i hz
     split at he
     ·rename_i ds hb
      split at he
      ·rename_i hk
       injection he with he
       subst he
       refine⟨fun f' b' off' cs e=>(by cases e;exact⟨_,hb⟩),fun Q hQ=>?_⟩
       simp only[rd_fl1,hx,hy,bx_fl hb]
       rw[if_pos hc,if_neg hz,if_pos hk]
      ·cases he
     ·cases he
   ·cases he
  ·cases he
 |al z=>
  have he:inst ck t (.al z) s=some i:=he
  simp only[inst]at he ⊢
  cases t with
  |none=>cases he
  |some t=>
   simp only at he ⊢
   split at he
   ·rename_i hl
    injection he with he
    subst he
    refine⟨fun f b off cs e=>(by cases e),fun Q hQ=>?_⟩
    simp only[show(s.fl Q).l=s.l from rfl,hl,fl_len]
   ·cases he
 |_=>exact rest _ rfl (fun _=>rfl) he
noncomputable def instSK (c:Caller) (p:Stp) (s:S):Option Ins:=
 match p.g with
 |none=>instK c p.t p.op s
 |some (q,want)=>match get q s.e with
  | .v (.bool b)=>if b=want then instK c p.t p.op s else some ⟨.v undef,none,.no⟩
  | .v _=>some ⟨.v undef,none,.no⟩
  |_=>none
theorem instSK_fl (h:CUp ck c) {p:Stp} {i:Ins} (he:instSK ck p s=some i):ApOk i s∧∀Q,Q.length=s.o.length->instS c p (s.fl Q)=some i:=by
 unfold instSK at he
 unfold instS
 split at he
 ·rename_i hg;rw[hg];exact instK_fl h he
 ·rename_i q want hg
  rw[hg]
  split at he
  ·rename_i v hv
   split at he
   ·rename_i e
    obtain⟨k1,k2⟩:=instK_fl h he
    refine⟨k1,fun Q hQ=>?_⟩
    simp only[show get q (s.fl Q).e=get q s.e from rfl,hv]
    rw[if_pos e];exact k2 Q hQ
   ·rename_i e
    injection he with he
    subst he
    refine⟨fun f b off cs e=>(by cases e),fun Q hQ=>?_⟩
    simp only[show get q (s.fl Q).e=get q s.e from rfl,hv]
    rw[if_neg e]
  ·rename_i x hx hv
   injection he with he
   subst he
   refine⟨fun f b off cs e=>(by cases e),fun Q hQ=>?_⟩
   simp only[show get q (s.fl Q).e=get q s.e from rfl,hv]
  ·cases he
noncomputable def evDrK (c:Caller):List (Stp×List Nat)->List Ba->S->Option S
 |[],_,s=>some s
 |(p,un)::r,acts,s=>match instSK c p s with
  |some i=>if un.all (fun m=>(acts.getD m .no).co s.o.length i.a)=true then evDrK c r (acts++[i.a]) (i.ap p.t s)else none
  |none=>none
theorem evDrK_fl (h:CUp ck c) {l:List (Stp×List Nat)}:∀{acts:List Ba} {s s':S},evDrK ck l acts s=some s'->s'.o.length=s.o.length∧∀Q,Q.length=s.o.length->evDr c l acts (s.fl Q)=some (s'.fl Q):=by
 induction l with
 |nil=>intro acts s s' he;simp only[evDrK]at he;injection he with he;subst he;exact⟨rfl,fun _ _=>rfl⟩
 |cons p l ih=>
  intro acts s s' he
  obtain⟨p,un⟩:=p
  simp only[evDrK]at he
  split at he
  ·rename_i i hi
   split at he
   ·rename_i hu
    obtain⟨k1,k2⟩:=instSK_fl h hi
    obtain⟨a1,a2⟩:=ap_fl (t:=p.t) k1
    obtain⟨j1,j2⟩:=ih he
    refine⟨j1.trans a2,fun Q hQ=>?_⟩
    simp only[evDr,k2 Q hQ,fl_len]
    rw[if_pos hu,a1]
    exact j2 Q (by rw[hQ,a2])
   ·cases he
  ·cases he
theorem evG1_fl {p:Gc} (he:evG1 p s=some s'):s'.o=s.o∧∀Q,evG1 p (s.fl Q)=some (s'.fl Q):=by
 have hl:∀Q,(s.fl Q).l=s.l:=fun _=>rfl
 have hE:∀Q,(s.fl Q).e=s.e:=fun _=>rfl
 cases p<;>simp only[evG1,hl,hE,fl_len]at he ⊢
 all_goals(repeat' split at he)
 all_goals first
  |(cases he;done)
  |(injection he with he;subst he;refine⟨rfl,fun Q=>?_⟩;first|rfl|(simp_all only[S.fl,S.wl,if_true,and_self,and_true,true_and];done)|(simp_all [S.fl,S.wl];done))
  |(obtain⟨q,h1,h2⟩:=Option.map_eq_some_iff.1 he;subst h2;refine⟨rfl,fun Q=>?_⟩;simp_all [S.fl,S.wl])
theorem evG_fl {l:List Gc}:∀{s s':S},evG l s=some s'->s'.o=s.o∧∀Q,evG l (s.fl Q)=some (s'.fl Q):=by
 induction l with
 |nil=>intro s s' he;simp only[evG]at he;injection he with he;subst he;exact⟨rfl,fun _=>rfl⟩
 |cons p l ih=>
  intro s s' he
  simp only[evG]at he
  obtain⟨s1,h1,h2⟩:=Option.bind_eq_some_iff.1 he
  obtain⟨k1,k2⟩:=evG1_fl h1
  obtain⟨j1,j2⟩:=ih h2
  refine⟨j1.trans k1,fun Q=>?_⟩
  simp only[evG,k2,Option.bind_some,j2]
theorem carry_fl {ks bs:List Nat} (he:carry ks bs s=some s'):s'.o=s.o∧∀Q,carry ks bs (s.fl Q)=some (s'.fl Q):=by
 unfold carry at he ⊢
 split at he
 ·rename_i e l h1 h2
  injection he with he
  subst he
  refine⟨rfl,fun Q=>?_⟩
  rw[fl_len,show(s.fl Q).e=s.e from rfl,show(s.fl Q).l=s.l from rfl,h1,h2]
  rfl
 ·cases he
def BUp (bk b:S->Option (Ex×S)):Prop:=∀s x s',bk s=some (x,s')->s'.o.length=s.o.length∧∀Q,Q.length=s.o.length->b (s.fl Q)=some (x,s'.fl Q)
theorem iter_fl {bk b:S->Option (Ex×S)} (h:BUp bk b) {ks bs:List Nat}:∀{n:Nat} {s s':S} {x:Ex},iter bk (carry ks bs) n s=some (x,s')->s'.o.length=s.o.length∧∀Q,Q.length=s.o.length->iter b (carry ks bs) n (s.fl Q)=some (x,s'.fl Q):=by
 intro n
 induction n with
 |zero=>intro s s' x he;cases he
 |succ n ih=>
  intro s s' x he
  simp only[iter]at he
  split at he
  ·cases he
  ·rename_i s1 hc
   obtain⟨c1,c2⟩:=carry_fl hc
   split at he
   ·cases he
   ·rename_i s2 hb
    obtain⟨k1,k2⟩:=h _ _ _ hb
    obtain⟨j1,j2⟩:=ih he
    refine⟨by rw[j1,k1,c1],fun Q hQ=>?_⟩
    simp only[iter,c2,k2 Q (by rw[hQ,c1])]
    exact j2 Q (by rw[hQ,k1,c1])
   ·rename_i y s2 hne hb
    injection he with he
    injection he with e1 e2
    subst e1 e2
    obtain⟨k1,k2⟩:=h _ _ _ hb
    refine⟨by rw[k1,c1],fun Q hQ=>?_⟩
    simp only[iter,c2,k2 Q (by rw[hQ,c1])]
theorem evR_fl (h:CUp ck c) {x:Opd} {b rid:Nat} {ks:List Nat} {y:Ex} (he:evR ck x b rid ks s=some (y,s')):s'.o.length=s.o.length∧∀Q,Q.length=s.o.length->evR c x b rid ks (s.fl Q)=some (y,s'.fl Q):=by
 unfold evR at he ⊢
 split at he
 ·rename_i fn caps0 hx
  split at he
  ·rename_i hc
   split at he
   ·rename_i d s2 hd
    split at he
    ·rename_i st jm rid2 ks2 caps2 hl
     split at he
     ·cases he
     ·rename_i hst
      injection he with he
      injection he with e1 e2
      subst e1 e2
      obtain⟨k1,k2⟩:=doCall_fl h hd
      refine⟨k1,fun Q hQ=>?_⟩
      rw[rd_fl1,hx]
      simp only[fl_len]
      rw[if_pos (show(lk b (s.fl Q).l).isNone=true∧((ks.map fun t=>(get t (s.fl Q).e).strip).all (D.cap (s.o.length+1)))=true from hc)]
      have k3:=k2 Q hQ
      rw[show(S.wl s (ins b (.rcd 0 0 rid ks::ks.map fun t=>(get t s.e).strip) s.l)).fl Q=(s.fl Q).wl (ins b (.rcd 0 0 rid ks::ks.map fun t=>(get t (s.fl Q).e).strip) (s.fl Q).l)from rfl]at k3
      rw[k3]
      simp only[show(s2.fl Q).l=s2.l from rfl,hl]
      rw[if_neg hst]
      rfl
    ·cases he
   ·cases he
  ·cases he
 ·cases he
def beqV:Value->Value->Bool
 | .int k a,.int k' b=>decide (k=k')&&decide (a=b)
 | .bool a,.bool b=>decide (a=b)
 | .string a,.string b=>decide (a.data.toList=b.data.toList)
 | .pointer none,.pointer none=>true
 | .nilFunc,.nilFunc=>true
 | .nilIface,.nilIface=>true
 | .slice none 0 0,.slice none 0 0=>true
 |_,_=>false
theorem beqV_ok {a b:Value} (h:beqV a b=true):a=b:=by
 unfold beqV at h
 split at h
 ·simp only[Bool.and_eq_true,decide_eq_true_eq]at h;rw[h.1,h.2]
 ·simp only[decide_eq_true_eq]at h;rw[h]
 ·simp only[decide_eq_true_eq]at h
  rename_i a b
  cases a with|mk a=>cases b with|mk b=>rw[show a=b from Array.ext' h]
 ·rfl
 ·rfl
 ·rfl
 ·rfl
 ·cases h
def beqL {α:Type} (f:α->α->Bool):List α->List α->Bool
 |[],[]=>true
 |a::r,b::r'=>f a b&&beqL f r r'
 |_,_=>false
theorem beqL_ok {α:Type} {f:α->α->Bool} (hf:∀a b,f a b=true->a=b):∀{l l':List α},beqL f l l'=true->l=l'
 |[],[],_=>rfl
 |a::r,b::r',h=>by
  simp only[beqL,Bool.and_eq_true]at h
  rw[hf _ _ h.1,beqL_ok hf h.2]
 |[],_::_,h=>by cases h
 |_::_,[],h=>by cases h
def beqD:Nat->D->D->Bool
 |0,_,_=>false
 |_+1,.v a,.v b=>beqV a b
 |n+1,.sl m z xs,.sl m' z' ys=>decide (m=m')&&decide (z=z')&&beqL (beqD n) xs ys
 |n+1,.agg xs,.agg ys=>beqL (beqD n) xs ys
 |_+1,.ptr f b o,.ptr f' b' o'=>decide (f=f')&&decide (b=b')&&decide (o=o')
 |_+1,.ref f b o n z,.ref f' b' o' n' z'=>decide (f=f')&&decide (b=b')&&decide (o=o')&&decide (n=n')&&decide (z=z')
 |n+1,.fptr xs o,.fptr ys o'=>beqL (beqD n) xs ys&&decide (o=o')
 |n+1,.clo f xs,.clo f' ys=>decide (f=f')&&beqL (beqD n) xs ys
 |_+1,.yld f b,.yld f' b'=>decide (f=f')&&decide (b=b')
 |n+1,.tup xs,.tup ys=>beqL (beqD n) xs ys
 |_+1,.u,.u=>true
 |_,_,_=>false
theorem beqD_ok:∀{n:Nat} {a b:D},beqD n a b=true->a=b
 |0,_,_,h=>by cases h
 |n+1,a,b,h=>by
  unfold beqD at h
  split at h<;>first
   |cases h;done
   |rfl
   |((try simp only[Bool.and_eq_true,decide_eq_true_eq]at h);rename_i hq;injection hq with hq;subst hq;first|rw[beqV_ok h]|(obtain⟨⟨h1,h2⟩,h3⟩:=h;rw[h1,h2,beqL_ok (fun _ _ q=>beqD_ok q) h3])|(obtain⟨⟨⟨⟨h1,h2⟩,h3⟩,h4⟩,h5⟩:=h;rw[h1,h2,h3,h4,h5])|(obtain⟨⟨h1,h2⟩,h3⟩:=h;rw[h1,h2,h3])|(obtain⟨h1,h2⟩:=h;rw[h2,beqL_ok (fun _ _ q=>beqD_ok q) h1])|(obtain⟨h1,h2⟩:=h;rw[h1,beqL_ok (fun _ _ q=>beqD_ok q) h2])|(obtain⟨h1,h2⟩:=h;rw[h1,h2])|rw[beqL_ok (fun _ _ q=>beqD_ok q) h])
def beqB (n:Nat):Bx->Bx->Bool:=beqL fun p q=>decide (p.1=q.1)&&beqL (beqD n) p.2 q.2
theorem beqB_ok {n:Nat} {a b:Bx} (h:beqB n a b=true):a=b:=beqL_ok (fun p q h=>by
 simp only[Bool.and_eq_true,decide_eq_true_eq]at h
 exact Prod.ext h.1 (beqL_ok (fun _ _ q=>beqD_ok q) h.2)) h
def seqB (n:Nat) (s t:S):Bool:=beqB n s.l t.l&&beqL (beqB n) s.o t.o&&(s.e++t.e).all fun p=>beqD n (get p.1 s.e) (get p.1 t.e)
theorem get_not {n:Nat}:∀{e:Env},(∀p∈e,p.1≠n)->get n e= .u
 |[],_=>rfl
 |(k,d)::e,h=>by
  simp only[get]
  rw[if_neg (fun q=>h (k,d) (by simp) q.symm)]
  exact get_not fun p hp=>h p (by simp[hp])
theorem seqB_ok {n:Nat} {s t:S} (h:seqB n s t=true):SEq s t:=by
 simp only[seqB,Bool.and_eq_true]at h
 obtain⟨⟨h1,h2⟩,h3⟩:=h
 refine⟨beqB_ok h1,beqL_ok (fun _ _ q=>beqB_ok q) h2,fun k=>?_⟩
 by_cases hk:∃p∈s.e++t.e,p.1=k
 ·obtain⟨p,hp,rfl⟩:=hk
  exact beqD_ok (List.all_eq_true.1 h3 p hp)
 ·rw[get_not fun p hp e=>hk ⟨p,by simp[hp],e⟩,get_not fun p hp e=>hk ⟨p,by simp[hp],e⟩]
def allB (call:Caller) (l:List (Stp×List Nat)):Nat->List Nat->S->S->Bool
 |0,_,s,s'=>seqB 9 s s'
 |n+1,done,s,s'=>(List.range l.length).all fun i=>match l[i]? with
  |some (p,_)=> !rdy l done i||(match evStp call p s with
   |some s1=>allB call l n (i::done) s1 s'
   |none=>false)
  |none=>true
theorem allB_fl (h:CUp ck c) {l:List (Stp×List Nat)}:∀{n:Nat} {done:List Nat} {s s':S},allB ck l n done s s'=true->∀Q,Q.length=s.o.length->AllR c l n done (s.fl Q) (s'.fl Q)
 |0,done,s,s',he,Q,hQ=>by
  obtain⟨h1,h2,h3⟩:=seqB_ok he
  exact⟨h1,by show mg s.o Q=mg s'.o Q;rw[h2],h3⟩
 |n+1,done,s,s',he,Q,hQ=>by
  intro i p ds hp hr
  have hi:i<l.length:=(List.getElem?_eq_some_iff.1 hp).1
  have h1:=List.all_eq_true.1 he i (List.mem_range.2 hi)
  simp only[hp,hr,Bool.not_true,Bool.false_or]at h1
  split at h1
  ·rename_i s1 hs1
   obtain⟨k1,k2⟩:=evStp_fl h hs1
   exact⟨_,k2 Q hQ,allB_fl h h1 Q (by rw[hQ,k1])⟩
  ·cases h1
noncomputable def evCK (fu:Nat) (call:Caller):Cd->S->Option (Ex×S)
 | .sk,s=>some (.nm,s)
 | .rg l,s=>(evOps call l s).map fun s=>(.nm,s)
 | .sq a b,s=>match evCK fu call a s with
  |some (.nm,s)=>evCK fu call b s
  |r=>r
 | .ff c a b,s=>match(rd c s).1 with
  | .v (.bool q)=>if q then evCK fu call a s else evCK fu call b s
  |_=>none
 | .bl id c,s=>match evCK fu call c s with
  |some (.ex i,s)=>if i=id then some (.nm,s)else some (.ex i,s)
  |r=>r
 | .lp ks bs c,s=>iter (evCK fu call c) (carry ks bs) fu s
 | .rf x b rid ks,s=>evR call x b rid ks s
 | .dr l,s=>(evDrK call l [] s).map fun s=>(.nm,s)
 | .dra l,s=>match evOps call (l.map (·.1)) s with
  |some s'=>if allB call l l.length [] s s'=true then some (.nm,s')else none
  |none=>none
 | .gs l c,s=>match evG l s with
  |some s=>evCK fu call c s
  |none=>none
 | .ex id,s=>some (.ex id,s)
 | .rt,s=>some (.rt,s)
 | .dead,_=>none
 | .del z,s=>match s.e with
  |[(0,.sl .mu z' xs),(1,.v (.int .i64 i)),(2,.v (.int .i64 j))]=>if z=z'∧0<=i∧i<=j∧j<=xs.length then some (.rt,⟨[(6,.sl .mu z (xs.take i.toNat++xs.drop j.toNat))],s.l,s.o⟩)else none
  |_=>none
theorem evCK_fl (h:CUp ck c) {fu:Nat} {p:Cd}:BUp (evCK fu ck p) (evC c p):=by
 induction p with
 |sk=>intro s x s' he;simp only[evCK]at he;injection he with he;injection he with e1 e2;subst e1 e2;exact⟨rfl,fun _ _=>rfl⟩
 |ex=>intro s x s' he;simp only[evCK]at he;injection he with he;injection he with e1 e2;subst e1 e2;exact⟨rfl,fun _ _=>rfl⟩
 |rt=>intro s x s' he;simp only[evCK]at he;injection he with he;injection he with e1 e2;subst e1 e2;exact⟨rfl,fun _ _=>rfl⟩
 |rg l=>
  intro s x s' he
  simp only[evCK]at he
  obtain⟨s1,h1,h2⟩:=Option.map_eq_some_iff.1 he
  injection h2 with e1 e2
  subst e1 e2
  obtain⟨k1,k2⟩:=evOps_fl h h1
  exact⟨k1,fun Q hQ=>by simp only[evC,k2 Q hQ];rfl⟩
 |sq a b iha ihb=>
  intro s x s' he
  simp only[evCK]at he
  split at he
  ·rename_i s1 h1
   obtain⟨k1,k2⟩:=iha _ _ _ h1
   obtain⟨j1,j2⟩:=ihb _ _ _ he
   refine⟨j1.trans k1,fun Q hQ=>?_⟩
   simp only[evC,k2 Q hQ]
   exact j2 Q (by rw[hQ,k1])
  ·rename_i hne
   obtain⟨k1,k2⟩:=iha _ _ _ he
   refine⟨k1,fun Q hQ=>?_⟩
   simp only[evC,k2 Q hQ]
   cases x with
   |nm=>exact absurd he (hne s')
   |ex id=>rfl
   |rt=>rfl
 |ff q a b iha ihb=>
  intro s x s' he
  simp only[evCK]at he
  split at he
  ·rename_i v hv
   cases v with
   |true=>
    obtain⟨k1,k2⟩:=iha _ _ _ he
    exact⟨k1,fun Q hQ=>by simp only[evC,rd_fl1,hv];exact k2 Q hQ⟩
   |false=>
    obtain⟨k1,k2⟩:=ihb _ _ _ he
    exact⟨k1,fun Q hQ=>by simp only[evC,rd_fl1,hv];exact k2 Q hQ⟩
  ·cases he
 |bl id a iha=>
  intro s x s' he
  simp only[evCK]at he
  split at he
  ·rename_i i s1 h1
   obtain⟨k1,k2⟩:=iha _ _ _ h1
   split at he
   ·rename_i e
    injection he with he
    injection he with e1 e2
    subst e1 e2
    exact⟨k1,fun Q hQ=>by simp only[evC,k2 Q hQ];rw[if_pos e]⟩
   ·rename_i e
    injection he with he
    injection he with e1 e2
    subst e1 e2
    exact⟨k1,fun Q hQ=>by simp only[evC,k2 Q hQ];rw[if_neg e]⟩
  ·rename_i hne
   obtain⟨k1,k2⟩:=iha _ _ _ he
   refine⟨k1,fun Q hQ=>?_⟩
   simp only[evC,k2 Q hQ]
   cases x with
   |nm=>rfl
   |ex i=>exact absurd he (hne i s')
   |rt=>rfl
 |lp ks bs a iha=>
  intro s x s' he
  simp only[evCK]at he
  obtain⟨k1,k2⟩:=iter_fl iha he
  refine⟨k1,fun Q hQ=>?_⟩
  simp only[evC]
  exact lim_eq (fun n r=>iter_step n r) (k2 Q hQ)
 |rf x b rid ks=>intro s y s' he;exact evR_fl h he
 |dead=>intro s x s' he;cases he
 |del z=>
  intro s x s' he
  simp only[evCK]at he
  split at he
  ·rename_i z' xs i j henv
   split at he
   ·rename_i hq
    injection he with he
    injection he with e1 e2
    subst e1 e2
    refine⟨rfl,fun Q hQ=>?_⟩
    simp only[evC,show(s.fl Q).e=s.e from rfl,henv]
    rw[if_pos hq]
    rfl
   ·cases he
  ·cases he
 |dr l=>
  intro s x s' he
  simp only[evCK]at he
  obtain⟨s1,h1,h2⟩:=Option.map_eq_some_iff.1 he
  injection h2 with e1 e2
  subst e1 e2
  obtain⟨k1,k2⟩:=evDrK_fl h h1
  exact⟨k1,fun Q hQ=>by simp only[evC,k2 Q hQ];rfl⟩
 |dra l=>
  intro s x s' he
  simp only[evCK]at he
  split at he
  ·rename_i s1 h1
   split at he
   ·rename_i ha
    injection he with he
    injection he with e1 e2
    subst e1 e2
    obtain⟨k1,k2⟩:=evOps_fl h h1
    refine⟨k1,fun Q hQ=>?_⟩
    simp only[evC,k2 Q hQ]
    rw[if_pos (allB_fl h ha Q hQ)]
   ·cases he
  ·cases he
 |gs l a iha=>
  intro s x s' he
  simp only[evCK]at he
  split at he
  ·rename_i s1 h1
   obtain⟨k1,k2⟩:=evG_fl h1
   obtain⟨j1,j2⟩:=iha _ _ _ he
   refine⟨by rw[j1,k1],fun Q hQ=>?_⟩
   simp only[evC,k2]
   exact j2 Q (by rw[hQ,k1])
  ·cases he
end
section
variable {s s':S} {Q:List Bx} {ck c:Caller}
theorem res1_fl {r:Res} {d:D} (he:res1 ck r s=some (d,s')):s'.o.length=s.o.length∧∀Q,Q.length=s.o.length->res1 c r (s.fl Q)=some (d,s'.fl Q):=by
 cases r with
 |t n=>
  simp only[res1]at he ⊢
  injection he with he
  refine⟨by rw[show s'=(rd (.m n) s).2 by rw[he],rd_oo],fun Q hQ=>?_⟩
  rw[rd_fl,he]
 |c n q=>
  have he:evOp (fun _ _ _=>none) none (.ldm q (.t n)) s=some (d,s'):=he
  obtain⟨k1,k2⟩:=evOp_fl (ck:=fun _ _ _=>none) (c:=c) (fun _ _ _ _ _ h=>by cases h) he
  exact⟨k1,fun Q hQ=>k2 Q hQ⟩
theorem resL_fl {l:List Res}:∀{s s':S} {ds:List D},resL ck l s=some (ds,s')->s'.o.length=s.o.length∧∀Q,Q.length=s.o.length->resL c l (s.fl Q)=some (ds,s'.fl Q):=by
 induction l with
 |nil=>intro s s' ds he;simp only[resL]at he;injection he with he;injection he with e1 e2;subst e1 e2;exact⟨rfl,fun _ _=>rfl⟩
 |cons r l ih=>
  intro s s' ds he
  simp only[resL]at he
  obtain⟨⟨d,s1⟩,h1,h2⟩:=Option.bind_eq_some_iff.1 he
  obtain⟨⟨ds1,s2⟩,h3,h4⟩:=Option.map_eq_some_iff.1 h2
  injection h4 with e1 e2
  subst e1 e2
  obtain⟨k1,k2⟩:=res1_fl (c:=c) h1
  obtain⟨j1,j2⟩:=ih h3
  refine⟨j1.trans k1,fun Q hQ=>?_⟩
  simp only[resL,k2 Q hQ,Option.bind_some,j2 Q (by rw[hQ,k1])]
  rfl
noncomputable def runRK (fu:Nat) (call:Caller) (F:Fn) (ps:List Nat) (asg:Cd) (rid:Nat) (f b:Nat) (args:List D) (B:List Bx):Option (D×List Bx):=
 match bx f b ⟨[],[],B⟩with
 |some (.rcd 0 0 rid0 ks::caps)=>
  if rid0=rid∧f<B.length∧args.length=ps.length∧args.all (fun d=> !d.tupB)=true then
   match evCK fu call asg ⟨envR ps args (envC ks caps),[],B⟩with
   |some (.nm,s1)=>match bx f b s1 with
    |some (.rcd 0 j1 rid1 ks1::caps1)=>match evCK fu call F.body (sbx f b (.rcd 1 j1 rid1 ks1::caps1) s1)with
     |some (x,s2)=>match bx f b s2 with
      |some (.rcd _ _ rid2 ks2::caps2)=>some (.v (.bool (x.code==0)),(sbx f b (.rcd (if x.code=0 then 0 else 2) x.code rid2 ks2::caps2) s2).o)
      |_=>none
     |none=>none
    |_=>none
   |_=>none
  else none
 |_=>none
theorem runRK_fl (h:CUp ck c) {fu:Nat} {F:Fn} {ps:List Nat} {asg:Cd} {rid f b:Nat} {args:List D} {B B':List Bx} {r:D} (he:runRK fu ck F ps asg rid f b args B=some (r,B')):B'.length=B.length∧∀Q,Q.length=B.length->runR c F ps asg rid f b args (mg B Q)=some (r,mg B' Q):=by
 unfold runRK at he
 split at he
 ·rename_i rid0 ks caps hb0
  split at he
  ·rename_i hc
   split at he
   ·rename_i s1 h1
    split at he
    ·rename_i j1 rid1 ks1 caps1 hb1
     split at he
     ·rename_i x s2 h2
      split at he
      ·rename_i _ _ rid2 ks2 caps2 hb2
       injection he with he
       injection he with e1 e2
       subst e1 e2
       obtain⟨k1,k2⟩:=evCK_fl h _ _ _ h1
       obtain⟨j1',j2⟩:=evCK_fl h _ _ _ h2
       have hl:s2.o.length=B.length:=by rw[j1',sbx_len,k1]
       refine⟨by rw[sbx_len,hl],fun Q hQ=>?_⟩
       unfold runR
       rw[show(⟨[],[],mg B Q⟩:S)=(⟨[],[],B⟩:S).fl Q from rfl,bx_fl hb0]
       simp only[mg_len]
       rw[if_pos hc]
       have k3:=k2 Q hQ
       rw[show(⟨envR ps args (envC ks caps),[],B⟩:S).fl Q=⟨envR ps args (envC ks caps),[],mg B Q⟩from rfl]at k3
       rw[k3]
       simp only[bx_fl hb1]
       have j3:=j2 Q (by rw[sbx_len,k1];exact hQ)
       rw[<-sbx_fl hb1]at j3
       rw[j3]
       simp only[bx_fl hb2,sbx_fl hb2]
       rfl
      ·cases he
     ·cases he
    ·cases he
   ·cases he
  ·cases he
 ·cases he
noncomputable def runFK (prog:Nat->Option Fn) (fu:Nat) (call:Caller):Caller:=fun f ds B=>
 match prog f with
 |none=>none
 |some F=>match F.rnd with
  |none=>if ds.length<=F.nt∧ds.all (fun d=> !d.tupB)=true then match evCK fu call F.body ⟨argE 0 ds,[],B⟩with
   |some (.ex _,_)=>none
   |some (_,s)=>(resL call F.res s).bind fun a=>
    let ds:=a.1.map (D.frz2 B.length a.2.l)
    if ds.all (D.bnd2 B.length)then some (if F.keep then mkRes ds else(mkRes ds).strip,a.2.o)else none
   |none=>none
   else none
  |some (ps,asg)=>match ds with
   | .yld f' b::args=>runRK fu call F ps asg f f' b args B
   |_=>none
theorem runFK_fl (h:CUp ck c) {prog:Nat->Option Fn} {fu:Nat}:CUp (runFK prog fu ck) (runF prog c):=by
 intro f ds B r B' he
 unfold runFK at he
 unfold runF
 cases hp:prog f with
 |none=>rw[hp]at he;cases he
 |some F=>
  rw[hp]at he
  simp only at he ⊢
  split at he
  ·rename_i hrn
   rw[hrn]
   split at he
   ·rename_i hc
    have fin:∀{x:Ex} {s:S},evCK fu ck F.body ⟨argE 0 ds,[],B⟩=some (x,s)->((resL ck F.res s).bind fun a=>if(a.1.map (D.frz2 B.length a.2.l)).all (D.bnd2 B.length)then some (if F.keep then mkRes (a.1.map (D.frz2 B.length a.2.l))else(mkRes (a.1.map (D.frz2 B.length a.2.l))).strip,a.2.o)else none)=some (r,B')->
      B'.length=B.length∧∀Q,Q.length=B.length->evC c F.body ⟨argE 0 ds,[],mg B Q⟩=some (x,s.fl Q)∧((resL c F.res (s.fl Q)).bind fun a=>if(a.1.map (D.frz2 (mg B Q).length a.2.l)).all (D.bnd2 (mg B Q).length)then some (if F.keep then mkRes (a.1.map (D.frz2 (mg B Q).length a.2.l))else(mkRes (a.1.map (D.frz2 (mg B Q).length a.2.l))).strip,a.2.o)else none)=some (r,mg B' Q):=by
     intro x s h1 h2
     obtain⟨k1,k2⟩:=evCK_fl h _ _ _ h1
     obtain⟨⟨dr,s3⟩,h3,h4⟩:=Option.bind_eq_some_iff.1 h2
     obtain⟨j1,j2⟩:=resL_fl (c:=c) h3
     simp only at h4
     split at h4
     ·rename_i ha
      injection h4 with h4
      injection h4 with e1 e2
      subst e1 e2
      refine⟨by rw[j1,k1],fun Q hQ=>⟨k2 Q hQ,?_⟩⟩
      rw[j2 Q (by rw[k1];exact hQ),Option.bind_some,mg_len]
      simp only[show(s3.fl Q).l=s3.l from rfl]
      rw[if_pos ha]
      rfl
     ·cases h4
    split at he
    ·cases he
    ·rename_i x s hne h1
     obtain⟨k1,k2⟩:=fin h1 he
     refine⟨k1,fun Q hQ=>?_⟩
     obtain⟨q1,q2⟩:=k2 Q hQ
     rw[if_pos hc,q1]
     cases x with
     |ex id=>exact absurd rfl (hne id)
     |nm=>exact q2
     |rt=>exact q2
    ·cases he
   ·cases he
  ·rename_i ps asg hrn
   rw[hrn]
   split at he
   ·rename_i f' b args
    exact runRK_fl h he
   ·cases he
noncomputable def EFK (prog:Nat->Option Fn) (fu:Nat):Nat->Caller
 |0=>fun _ _ _=>none
 |n+1=>runFK prog fu (EFK prog fu n)
theorem EFK_up (prog:Nat->Option Fn) (fu n:Nat):CUp (EFK prog fu n) (EF prog):=by
 induction n with
 |zero=>intro f ds B r B' h;cases h
 |succ n ih=>
  intro f ds B r B' h
  obtain⟨k1,k2⟩:=runFK_fl ih f ds B r B' h
  exact⟨k1,fun Q hQ=>by rw[EF_eq];exact k2 Q hQ⟩
theorem EFK_one {prog:Nat->Option Fn} (fu n:Nat) {f:Nat} {ds:List D} {d:D} (h:EFK prog fu n f ds [[]]=some (d,[[]])) (l:Bx):EF prog f ds [l]=some (d,[l]):=by
 have:=(EFK_up prog fu n f ds [[]] d [[]] h).2 [l] rfl
 exact this
end
end Go.Proofs.Ytfopbiiffiickaa.Ev
namespace Go.Proofs.Ytfopbiiffiickaa.Ev.U
open Go
def calmOp:Stp->Bool
 |⟨_,none,.bx _⟩=>true
 |⟨_,none,.mv _⟩=>true
 |⟨_,none,.al _⟩=>true
 |_=>false
theorem calm_op {P:Caller} {t:Option Nat} {g:Option (Nat×Bool)} {op:Op} (hp:calmOp ⟨t,g,op⟩=true) {s s1:S} {d:D} (h:evOp P t op s=some (d,s1)):s1.o=s.o:=by
 cases g with
 |some q=>cases hp
 |none=>
  cases op with
  |mv x=>simp only[evOp]at h;injection h with h;rw[show s1=(rd x s).2 by rw[h],rd_oo]
  |bx x=>
   simp only[evOp]at h
   cases t with
   |none=>cases h
   |some t=>
    simp only at h
    split at h
    ·split at h
     ·injection h with h
      injection h with h1 h2
      subst h2
      exact rd_oo
     ·cases h
    ·cases h
  |al z=>
   simp only[evOp]at h
   cases t with
   |none=>cases h
   |some t=>
    simp only at h
    split at h
    ·injection h with h
     injection h with h1 h2
     subst h2
     rfl
    ·cases h
  |_=>cases hp
theorem calm_o {P:Caller} {p:Stp} (hp:calmOp p=true) {s s':S} (h:evStp P p s=some s'):s'.o=s.o:=by
 obtain⟨t,g,op⟩:=p
 cases g with
 |some q=>cases hp
 |none=>
  simp only[evStp]at h
  obtain⟨⟨d,s1⟩,h1,h2⟩:=Option.map_eq_some_iff.1 h
  subst h2
  rw[putO_o]
  exact calm_op hp h1
theorem calms_o {P:Caller} {l:List Stp} (hl:l.all calmOp=true):∀{s s':S},evOps P l s=some s'->s'.o=s.o:=by
 induction l with
 |nil=>intro s s' h;simp only[evOps]at h;injection h with h;subst h;rfl
 |cons p l ih=>
  intro s s' h
  simp only[List.all_cons,Bool.and_eq_true]at hl
  simp only[evOps]at h
  obtain⟨s1,h1,h2⟩:=Option.bind_eq_some_iff.1 h
  rw[ih hl.2 h2,calm_o hl.1 h1]
def wkC (w:Nat):Cd->Cd
 | .sq (.rg A) (.sq (.sq (.rg (⟨some v,none,.mv (.c (.bool true))⟩::r)) x) R)=>.sq (.rg A) (.sq (.sq (.rg (⟨some v,none,.call w []⟩::r)) x) R)
 |c=>c
def calmC:Cd->Bool
 | .sq (.rg A) _=>A.all calmOp
 |_=>false
theorem wk_ev {P:Caller} {w:Nat} (hw:∀l:Bx,P w [] [l]=some (.v (.bool true),[l])) (c:Cd) (hc:calmC c=true) (e:Env) (l:Bx):evC P (wkC w c) ⟨e,l,[]⟩=evC P c ⟨e,l,[]⟩:=by
 unfold wkC
 split
 ·rename_i A v r x R
  have step:∀s:S,s.o=[]->evOps P (⟨some v,none,.call w []⟩::r) s=evOps P (⟨some v,none,.mv (.c (.bool true))⟩::r) s:=by
   intro s hs
   obtain⟨e1,l1,o1⟩:=s
   obtain rfl:o1=[]:=hs
   simp only[evOps,evStp,evOp,rdL,doCall,List.nil_append,hw]
   rfl
  simp only[evC]
  cases hA:evOps P A ⟨e,l,[]⟩with
  |none=>rfl
  |some s1=>
   have:=calms_o (show A.all calmOp=true from hc) hA
   simp only[Option.map_some,step s1 this]
 ·rfl
theorem wk_run1 {P:Caller} {w:Nat} (hw:∀l:Bx,P w [] [l]=some (.v (.bool true),[l])) {F F':Fn} (hF:F=⟨F'.nt,F'.keep,F'.res,F'.rnd,wkC w F'.body⟩) (hc:calmC F'.body=true) (ds:List D):run1 F P ds []=run1 F' P ds []:=by
 subst hF
 unfold run1
 simp only[wk_ev hw F'.body hc]
end Go.Proofs.Ytfopbiiffiickaa.Ev.U
namespace Go.Proofs.Ytfopbiiffiickaa.Ev.U
open Go
theorem wi64 {n:Int} (h: -9223372036854775808<=n∧n<=9223372036854775807):IntKind.i64.wrap n=n:=by
 simp[IntKind.wrap,IntKind.bits,IntKind.signed];omega
theorem wnext {i:Nat} (h:i<1000000000000):IntKind.i64.wrap ((i:Int)+1)=((i+1:Nat):Int):=by rw[wi64 (by omega)];omega
theorem idx_nat {α:Type} (xs:List α) (i:Nat):idx xs (i:Int)=xs[i]? :=by
 unfold idx
 rw[if_pos (by omega),Int.toNat_natCast]
theorem idx_some' {α:Type} {xs:List α} {i:Nat} (h:i<xs.length):idx xs (i:Int)=some xs[i]:=by rw[idx_nat,List.getElem?_eq_getElem h]
theorem apd_ok {α:Type} {b:Nat} {xs ys:List α} (h:(xs.length+ys.length)*b<=140737488355328):apd b xs ys=some (xs++ys):=if_pos h
theorem eqI_self (n:Int):eqI n n=some ():=if_pos rfl
theorem chkI_some {m n:Int} (h:0<=m∧m<n):chkI m n=some ():=if_pos h
theorem lp_next {σ ξ:Type} {body:σ->Option (σ⊕ξ)} {s s':σ} (h:body s=some (.inl s')):lpU body s=lpU body s':=by rw[lpU_eq,h]
theorem lp_end {σ ξ:Type} {body:σ->Option (σ⊕ξ)} {s:σ} {x:ξ} (h:body s=some (.inr x)):lpU body s=some x:=by rw[lpU_eq,h]
theorem drop_cons' {α:Type} {l:List α} {i:Nat} (h:i<l.length):l.drop i=l[i]::l.drop (i+1):=List.drop_eq_getElem_cons h
theorem eq_step {α:Type} {x y:List α} (hl:x.length=y.length) {i:Nat} (hi:i<x.length):(x.drop i=y.drop i)↔(x[i]=y[i]'(by omega)∧x.drop (i+1)=y.drop (i+1)):=by
 rw[drop_cons' hi,drop_cons' (show i<y.length by omega),List.cons.injEq]
theorem len_ne {α:Type} {x y:List α} (h:((x.length:Int)!=(y.length:Int))=true):x≠y:=by
 intro e;subst e;simp at h
theorem len_eq {α:Type} {x y:List α} (h:((x.length:Int)!=(y.length:Int))=false):x.length=y.length:=by
 have:(x.length:Int)=y.length:=by simpa using h
 omega
end Go.Proofs.Ytfopbiiffiickaa.Ev.U
namespace Go.Proofs.Ytfopbiiffiickaa.Ev.U
open Go
section
variable {P:Caller} {k b:Nat} {cs:List D} {X:D} {n i at_ x y:Int} {o:List Bx}
abbrev vi (x:Int):D:=.v (.int .i64 x)
variable {N:Nat} {es:List D}
theorem sq_nm {a b:Cd} {s s1:S} (h:evC P a s=some (.nm,s1)):evC P (.sq a b) s=evC P b s1:=by simp only[evC,h]
structure GpH (k b:Nat) (cs:List D) (X:D) (n i at_:Int) (e:Env):Prop where
 h0:get 0 e= .yld k b
 h1:get 1 e= .fptr cs 0
 h3:get 3 e=vi at_
 h8:get 8 e=X
 h9:get 9 e=vi n
 h10:get 10 e=vi i
abbrev clD (c:Int×Int):D:=.agg [vi c.1,vi c.2]
structure Wants (P:Caller) (k b rid m:Nat) (fin:Bool) (L:List (Int×Int)) (β:Nat->List Bx) (N:Nat):Prop where
 hk:k<N
 hm:m<=L.length
 hf:fin=true->m=L.length
 hn:fin=false->0<m
 len:∀i,i<=m->(β i).length=N
 rcd:∀i,i<m->∃st jm ks caps,((β i)[k]?).bind (lk b)=some (.rcd st jm rid ks::caps)
 call:∀i,i<m->∀c,L[i]? =some c->∀lg,P rid [.yld k b,clD c] (β i++[lg])=some (.v (.bool (decide (i+1<m)||fin)),β (i+1)++[lg])
variable {rid m:Nat} {fin:Bool} {L:List (Int×Int)} {β:Nat->List Bx}
end
end Go.Proofs.Ytfopbiiffiickaa.Ev.U
