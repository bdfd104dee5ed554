/- Every operation and step, over typed values. Conditions: none. -/
import Derived.Test.YtfopbiiffiickaaU7
set_option linter.all false
namespace Go.Proofs.Ytfopbiiffiickaa.Ev.U
open Go
def c0 (P:Caller):Cx:=⟨P,[],0,[],fun _=>[]⟩
def argWs (sg:Sg) (x:sg.aT.T):List W:=match sg.ak with
 |[]=>[]
 |_=>tupW sg.aT x
def ArgL (c:Cx):List AK->List W->List D->List Rg->List (List D)->Prop
 |[],[],[],[],[]=>True
 | .v _::ak,w::ws,d::ds,rg,Y=>Rep3 c w d∧ArgL c ak ws ds rg Y
 | .x r::ak,w::ws,d::ds,q::rg,y::Y=>(q.w=true∧d= .ptr q.f q.b q.o∧q.z=rowLen r∧y.length=q.z∧All2 (Rep2 c) w.cells y)∧ArgL c ak ws ds rg Y
 | .o r::ak,w::ws,d::ds,q::rg,y::Y=>(q.w=false∧d= .ptr q.f q.b q.o∧q.z=rowLen r∧y.length=q.z∧All2 (Rep2 c) w.cells y)∧ArgL c ak ws ds rg Y
 |_,_,_,_,_=>False
def OutL (c:Cx):List AK->List W->List (List D)->Prop
 |[],[],[]=>True
 | .v _::ak,ws,Y=>OutL c ak ws Y
 | .x r::ak,w::ws,y::Y=>(y.length=rowLen r∧All2 (Rep2 c) w.cells y)∧OutL c ak ws Y
 | .o r::ak,ws,y::Y=>OutL c ak ws Y
 |_,_,_=>False
def GOK (P:Caller) (f:Nat):TF->Prop
 | .gen a r h=>∀(v:r.T) (cs:List D),RepL P r [] v cs->∀L:List a.T,h v=some L->∀n:Nat,∃ds:List D,All2 (fun y d=>RepL P a [] y [d.strip]) L ds∧
   ∀(k b rid m:Nat) (fin:Bool) (β:Nat->List Bx),k<n->m<=L.length->(fin=true->m=L.length)->(fin=false->0<m)->(∀i,i<=m->(β i).length=n)->
   (∀i,i<m->∃st jm ks caps,((β i)[k]?).bind (lk b)=some (.rcd st jm rid ks::caps))->
   (∀i,i<m->∀d,ds[i]? =some d->∀lg,P rid [.yld k b,d] (β i++[lg])=some (.v (.bool (decide (i+1<m)||fin)),β (i+1)++[lg]))->
   ∃d,P f [.yld k b,.fptr cs 0] (β 0)=some (d,β m)
 |_=>True
def TOK (P:Caller) (k:Nat) (tf:TF):Prop:=(∀F n rg K Y,Cx.ok ⟨P,F,n,rg,K⟩->(∀(i:Nat) r ys,rg[i]? =some r->Y[i]? =some ys->r.w=false->ys=K i)->
 ∀(x:tf.sg.aT.T) ds,ArgL ⟨P,F,n,rg,K⟩ tf.sg.ak (argWs tf.sg x) ds rg Y->∀y,tf.f x=some y->∃d Y',Rep4 (c0 P) (outW tf.sg.res (xsOf tf.sg.ak) y).1 d∧OutL (c0 P) tf.sg.ak (outW tf.sg.res (xsOf tf.sg.ak) y).2 Y'∧
  ∀B,Fam ⟨P,F,n,rg,K⟩ B->(∀(i:Nat) r ys,rg[i]? =some r->Y[i]? =some ys->atR r ys B)->P k ds B=some (d,upd rg Y' B))∧GOK P k tf
def TabOk (P:Caller) (T:Tab):Prop:=∀k tf,T k=some tf->TOK P k tf
section
variable {c:Cx} {e:Env} {l:Bx} {Y:List (List D)} {t:Option Nat} {s:SU}
theorem pf0_up {c':Cx} (hP:c'.P=c.P) (hF:∀x∈c.F,x∈c'.F) {w:W} {d:D} (h:Rep2 c w d) (hw:w.pf0=true):Rep2 c' w d:=by
 cases w with
 |u τ x=>exact⟨h.1,by rw[hP];exact RepL.up hF h.2⟩
 |nil=>exact h
 |_=>cases hw
theorem pf1_up {c':Cx} (hP:c'.P=c.P) (hF:∀x∈c.F,x∈c'.F) {w:W} {d:D} (h:Rep3 c w d) (hw:w.pf1=true):Rep3 c' w d:=by
 cases w with
 |ag ws=>
  obtain⟨cs,rfl,h2⟩:=h
  exact⟨cs,rfl,h2.mono fun w d hm q=>pf0_up hP hF q (List.all_eq_true.1 hw w hm)⟩
 |u τ x=>exact pf0_up hP hF (w:=.u τ x) h rfl
 |nil=>exact h
 |_=>cases hw
theorem pf2_up {c':Cx} (hP:c'.P=c.P) (hF:∀x∈c.F,x∈c'.F) {w:W} {d:D} (h:Rep4 c w d) (hw:w.pf2=true):Rep4 c' w d:=by
 cases w with
 |tp ws=>
  obtain⟨cs,rfl,h2⟩:=h
  exact⟨cs,rfl,h2.mono fun w d hm q=>pf1_up hP hF q (List.all_eq_true.1 hw w hm)⟩
 |ag ws=>exact to4 (pf1_up hP hF (w:=.ag ws) h hw)
 |u τ x=>exact to4 (pf1_up hP hF (w:=.u τ x) h rfl)
 |nil=>exact h
 |_=>cases hw
theorem pf_cells:∀(r:Ty) (x:r.T),(cellsW r x).all W.pf0=true:=by
 intro r
 induction r with
 |p a r iha ihr=>intro x;simp only[cellsW,List.all_cons,ihr x.2,Bool.and_true];rfl
 |_=>intro x;rfl
theorem pf_val (τ:Ty) (x:τ.T):(valW τ x).pf1=true:=by
 cases τ with
 |g r=>exact pf_cells r x
 |_=>rfl
theorem pf_tup:∀(τ:Ty) (x:τ.T),(tupW τ x).all W.pf1=true:=by
 intro τ
 induction τ with
 |t a r iha ihr=>intro x;simp only[tupW,List.all_cons,pf_val,ihr x.2,Bool.and_true]
 |n=>intro x;rfl
 |g r=>intro x;simp only[tupW,List.all_cons,List.all_nil,Bool.and_true];exact pf_val (.g r) x
 |_=>intro x;rfl
theorem pf_res (τ:Ty) (x:τ.T):(resW τ x).pf2=true:=by
 cases τ with
 |t a r=>exact pf_tup (.t a r) x
 |n=>rfl
 |g r=>exact pf_val (.g r) x
 |_=>rfl
theorem pf_out (r:Ty) (l:List Ty) (y:(oTy r l).T):(outW r l y).1.pf2=true∧(outW r l y).2.all W.pf1=true:=by
 cases l with
 |nil=>cases r<;>exact⟨pf_res _ y,rfl⟩
 |cons a l=>
  cases r with
  |n=>exact⟨rfl,pf_tup _ _⟩
  |t p q=>exact⟨pf_res (.t p q) y.1,pf_tup _ _⟩
  |i k=>exact⟨pf_res (.i k) y.1,pf_tup _ _⟩
  |b=>exact⟨pf_res .b y.1,pf_tup _ _⟩
  |s=>exact⟨pf_res .s y.1,pf_tup _ _⟩
  |l m q=>exact⟨pf_res (.l m q) y.1,pf_tup _ _⟩
  |p p q=>exact⟨pf_res (.p p q) y.1,pf_tup _ _⟩
  |g q=>exact⟨pf_res (.g q) y.1,pf_tup _ _⟩
  |o p q=>exact⟨pf_res (.o p q) y.1,pf_tup _ _⟩
  |fn p q=>exact⟨pf_res (.fn p q) y.1,pf_tup _ _⟩
  |cl p q=>exact⟨pf_res (.cl p q) y.1,pf_tup _ _⟩
theorem pf_cellsW {w:W} (h:w.pf1=true):∀{c c':Cx} {ds:List D},c'.P=c.P->(∀x∈c.F,x∈c'.F)->All2 (Rep2 c) w.cells ds->All2 (Rep2 c') w.cells ds:=by
 intro c c' ds hP hF ha
 refine ha.mono fun w' d hm q=>pf0_up hP hF q ?_
 cases w with
 |ag ws=>exact List.all_eq_true.1 h w' hm
 |u τ x=>simp only[W.cells,List.mem_singleton]at hm;rw[hm];rfl
 |nil=>simp only[W.cells,List.mem_singleton]at hm;rw[hm];rfl
 |_=>cases h
theorem wrR_app {r:Rg} {ys full:List D} {st:S} (hf:r.f<=st.o.length) (hb:bx r.f r.b st=some full):wrR r ys (st.o++[st.l])=(sbx r.f r.b (over full r.o ys) st).o++[(sbx r.f r.b (over full r.o ys) st).l]:=by
 unfold bx at hb
 unfold sbx
 by_cases e:r.f=st.o.length
 ·rw[if_pos e]at hb ⊢
  apply List.ext_getElem?
  intro f
  rw[wrR_get]
  by_cases ef:r.f=f
  ·subst ef
   rw[if_pos rfl,e]
   simp only[List.getElem?_append_right (Nat.le_refl _),Nat.sub_self,S.wl]
   simp[hb]
  ·rw[if_neg ef]
   by_cases hl:f<st.o.length
   ·rw[List.getElem?_append_left hl,List.getElem?_append_left (by exact hl)];rfl
   ·have:st.o.length<f:=by omega
    rw[List.getElem?_eq_none (by simp;omega),List.getElem?_eq_none (by simp[S.wl];omega)]
 ·rw[if_neg e]at hb ⊢
  have hlt:r.f<st.o.length:=by omega
  apply List.ext_getElem?
  intro f
  rw[wrR_get]
  simp only[S.wo]
  by_cases ef:r.f=f
  ·subst ef
   rw[if_pos rfl,List.getElem?_append_left hlt,List.getElem?_append_left (by simpa using hlt),List.getElem?_modify]
   obtain⟨l',h1,h2⟩:=Option.bind_eq_some_iff.1 hb
   rw[h1]
   simp[h2]
  ·rw[if_neg ef]
   by_cases hl:f<st.o.length
   ·rw[List.getElem?_append_left hl,List.getElem?_append_left (by simpa using hl),List.getElem?_modify]
    cases st.o[f]? <;>simp[ef]
   ·rw[List.getElem?_append_right (by omega),List.getElem?_append_right (by simp;omega)]
    simp
def rgOf:List AK->List D->List Rg
 | .x r::ak,.ptr f b o::ds=>⟨true,f,b,o,rowLen r⟩::rgOf ak ds
 | .o r::ak,.ptr f b o::ds=>⟨false,f,b,o,rowLen r⟩::rgOf ak ds
 |_::ak,_::ds=>rgOf ak ds
 |_,_=>[]
def ptL:List AK->List W->Bool
 | .x _::ak,.pt _ _::ws=>ptL ak ws
 | .o _::ak,.pt _ _::ws=>ptL ak ws
 | .v _::ak,_::ws=>ptL ak ws
 |[],[]=>true
 |_,_=>false
theorem pt_d {pb:PB} {off:Nat} {d:D} (h:Rep0 c (.pt pb off) d):∃f b o,d= .ptr f b o:=by
 cases pb with
 |own b=>exact⟨_,_,_,h⟩
 |ext i=>obtain⟨r,_,h⟩:=h;exact⟨_,_,_,h⟩
theorem back_ok (hc:c.ok) {c1:Cx} (hP:c1.P=c.P) (hF1:c1.F=[]):∀{ak:List AK} {ws:List W} {ds:List D} {ys:List W} {s s':SU} {l:Bx} {Y Y2:List (List D)},RepS c s e l Y->All2 (Rep4 c) ws ds->ptL ak ws=true->backW ak ws ys s=some s'->
  OutL c1 ak ys Y2->ys.all W.pf1=true->∃l' Y',RepS c s' e l' Y'∧∀B,Fam c B->upd (rgOf ak ds) Y2 (upd c.rg Y B++[l])=upd c.rg Y' B++[l']
 |[],ws,ds,ys,s,s',l,Y,Y2,hS,ha,hpt,hb,ho,hp=>by
  simp only[backW]at hb
  have:=Option.some.inj hb
  subst this
  refine⟨l,Y,hS,fun B hB=>?_⟩
  cases Y2<;>cases ds<;>rfl
 | .v τ::ak,ws,ds,ys,s,s',l,Y,Y2,hS,ha,hpt,hb,ho,hp=>by
  cases ws with
  |nil=>simp[backW]at hb
  |cons w ws=>
   obtain⟨d,q,rfl,a1,a2⟩:=ha.cons_l
   exact back_ok hc hP hF1 (ak:=ak) (ds:=q) hS a2 hpt hb ho hp
 | .o r::ak,ws,ds,ys,s,s',l,Y,Y2,hS,ha,hpt,hb,ho,hp=>by
  cases ws with
  |nil=>simp[backW]at hb
  |cons w ws=>
   obtain⟨d,q,rfl,a1,a2⟩:=ha.cons_l
   cases w with
   |pt pb off=>
    obtain⟨f,b,o,rfl⟩:=pt_d (c:=c) a1
    cases Y2 with
    |nil=>cases ys<;>exact ho.elim
    |cons y Y2=>
     have ho':OutL c1 ak ys Y2:=by cases ys<;>exact ho
     obtain⟨l',Y',h1,h2⟩:=back_ok hc hP hF1 (ak:=ak) (ds:=q) hS a2 hpt (by cases ys<;>exact hb) ho' hp
     exact⟨l',Y',h1,h2⟩
   |_=>cases hpt
 | .x r::ak,ws,ds,ys,s,s',l,Y,Y2,hS,ha,hpt,hb,ho,hp=>by
  cases ws with
  |nil=>cases ys<;>simp[backW]at hb
  |cons w ws=>
   obtain⟨d,q,rfl,a1,a2⟩:=ha.cons_l
   cases w with
   |pt pb off=>
    cases ys with
    |nil=>simp[backW]at hb
    |cons y ys=>
     cases Y2 with
     |nil=>exact ho.elim
     |cons y2 Y2=>
      simp only[backW]at hb
      obtain⟨cs,b1,b2⟩:=Option.bind_eq_some_iff.1 hb
      split at b2
      ·rename_i hlen
       obtain⟨s1,b3,b4⟩:=Option.bind_eq_some_iff.1 b2
       obtain⟨⟨o1,o2⟩,o3⟩:=ho
       simp only[List.all_cons,Bool.and_eq_true]at hp
       obtain⟨f,b,o,ys0,d1,d2,d3,d4,d5⟩:=wr_ok hc hS b1 a1
       obtain⟨l1,Y1,g1,g2⟩:=d5 b3 (pf_cellsW hp.1 hP.symm (by rw[hF1];intro x hx;simp at hx) o2) hlen
       obtain⟨l',Y',h1,h2⟩:=back_ok hc hP hF1 (ak:=ak) (ds:=q) g1 a2 hpt b4 o3 hp.2
       refine⟨l',Y',h1,fun B hB=>?_⟩
       rw[<-h2 B hB]
       obtain⟨full,f1,f2,f3⟩:=d4 B hB
       subst d1
       simp only[rgOf,upd,cond_true]
       rw[wrR_app (st:=⟨e,l,upd c.rg Y B⟩) (full:=full) (by simp only[fam_len hB Y];omega) (f1 e),g2 B hB full f1 e]
      ·cases b2
   |_=>cases hpt
end
end Go.Proofs.Ytfopbiiffiickaa.Ev.U
namespace Go.Proofs.Ytfopbiiffiickaa.Ev.U
open Go
section
variable {c:Cx} {e:Env} {l:Bx} {Y:List (List D)} {t:Option Nat} {s:SU}
theorem cells_inv:∀{r:Ty} {x:r.T} {ds:List D},r.rowk=true->All2 (Rep2 c) (cellsW r x) ds->RepL c.P r c.F x ds:=by
 intro r
 have base:∀{r:Ty} {x:r.T} {ds:List D},All2 (Rep2 c) [W.u r x] ds->RepL c.P r c.F x ds:=fun h=>by
  obtain⟨d,q,rfl,h1,h2⟩:=h.cons_l
  obtain rfl:=h2.nil_l
  exact h1.2
 induction r with
 |p a r iha ihr=>
  intro x ds hk h
  obtain⟨d,q,rfl,h1,h2⟩:=h.cons_l
  have hr:r.rowk=true:=by
   have:∀{r:Ty} {x:r.T} {ds:List D},All2 (Rep2 c) (cellsW r x) ds->r.rowk=true:=by
    intro r x ds h
    cases r with
    |p=>rfl
    |_=>obtain⟨d,q,_,h1,_⟩:=h.cons_l;exact one_rowk h1.1
   exact this h2
  exact⟨⟨h1.1,hr⟩,d,q,rfl,h1.2,ihr hr h2⟩
 |_=>intro x ds hk h;exact base h
theorem val_inv {τ:Ty} {x:τ.T} {d:D} (hv:τ.val=true) (h:Rep3 c (valW τ x) d):RepL c.P τ c.F x [d]:=by
 cases τ with
 |g r=>
  obtain⟨cs,rfl,h2⟩:=h
  have hr:r.rowk=true:=by
   cases r with
   |p=>rfl
   |_=>obtain⟨d,q,_,h1,_⟩:=h2.cons_l;exact one_rowk h1.1
  exact⟨hr,cs,rfl,cells_inv hr h2⟩
 |i=>exact h.2
 |b=>exact h.2
 |s=>exact h.2
 |l=>exact h.2
 |fn=>exact h.2
 |cl=>exact h.2
 |_=>cases hv
theorem tup_inv:∀{τ:Ty} {x:τ.T} {ds:List D},tupOk τ=true->All2 (Rep3 c) (tupW τ x) ds->τ.tupk=true∧RepL c.P τ c.F x ds:=by
 intro τ
 have base:∀{τ:Ty} {x:τ.T} {ds:List D},τ.val=true->All2 (Rep3 c) [valW τ x] ds->τ.tupk=true∧RepL c.P τ c.F x ds:=fun hv h=>by
  obtain⟨d,q,rfl,h1,h2⟩:=h.cons_l
  obtain rfl:=h2.nil_l
  exact⟨val_tupk hv,val_inv hv h1⟩
 induction τ with
 |t a r iha ihr=>
  intro x ds hk h
  simp only[tupOk,Bool.and_eq_true]at hk
  obtain⟨d,q,rfl,h1,h2⟩:=h.cons_l
  obtain⟨i1,i2⟩:=ihr hk.2 h2
  exact⟨rfl,⟨hk.1,i1⟩,d,q,rfl,val_inv hk.1 h1,i2⟩
 |n=>intro x ds hk h;obtain rfl:=h.nil_l;exact⟨rfl,rfl⟩
 |p=>intro x ds hk h;cases hk
 |o=>intro x ds hk h;cases hk
 |_=>intro x ds hk h;exact base hk h
theorem res_inv {τ:Ty} {x:τ.T} {d:D} (hk:tupOk τ=true) (h:Rep4 c (resW τ x) d):RepR c.P τ c.F x d:=by
 have base:∀{τ:Ty} {x:τ.T} {d:D},τ.val=true->resD τ d [d]->Rep4 c (valW τ x) d->RepR c.P τ c.F x d:=by
  intro τ x d hv hd h
  refine⟨[d],hd,val_inv hv (of4 h fun ws q=>?_)⟩
  cases τ<;>cases q
 cases τ with
 |t a r=>
  obtain⟨ds,rfl,h2⟩:=h
  exact⟨ds,rfl,(tup_inv (τ:=.t a r) hk h2).2⟩
 |n=>
  obtain⟨ds,rfl,h2⟩:=h
  obtain rfl:=h2.nil_l
  exact⟨[],rfl,rfl⟩
 |p=>cases hk
 |o=>cases hk
 |_=>exact base hk rfl h
def fct (c:Cx) (l:Bx) (Y:List (List D)):PB->Option Fx
 | .own b=>(lk b l).map fun ds=>⟨c.n,b,0,ds⟩
 | .ext i=>match c.rg[i]?,Y[i]? with
  |some r,some ys=>some ⟨r.f,r.b,r.o,ys⟩
  |_,_=>none
theorem fct_sat (hc:c.ok) (hS:RepS c s e l Y) {pb:PB} {x:Fx} (h:fct c l Y pb=some x) {B:List Bx} (hB:Fam c B):Sat [x] (upd c.rg Y B++[l]):=by
 intro y hy
 have hy:y=x:=by simpa using hy
 subst hy
 cases pb with
 |own b=>
  obtain⟨ds,h1,rfl⟩:=Option.map_eq_some_iff.1 h
  refine⟨l,ds,?_,h1,by simp,by simp⟩
  show(upd c.rg Y B++[l])[c.n]? =some l
  rw[List.getElem?_append_right (by rw[fam_len hB Y];exact Nat.le_refl _),fam_len hB Y,Nat.sub_self];rfl
 |ext i=>
  simp only[fct]at h
  split at h
  ·rename_i r ys h1 h2
   have:=Option.some.inj h
   subst this
   obtain⟨l',cs,a1,a2,a3,a4⟩:=fam_at hc hS hB h1 h2
   refine⟨l',cs,?_,a2,a3,a4⟩
   show(upd c.rg Y B++[l])[r.f]? =some l'
   rw[List.getElem?_append_left (by rw[fam_len hB Y];exact hc.lt r (List.mem_of_getElem? h1)),a1]
  ·cases h
theorem fct_f (hc:c.ok) {pb:PB} {x:Fx} (h:fct c l Y pb=some x):x.f<c.n+1:=by
 cases pb with
 |own b=>obtain⟨ds,h1,rfl⟩:=Option.map_eq_some_iff.1 h;exact Nat.lt_succ_self _
 |ext i=>
  simp only[fct]at h
  split at h
  ·rename_i r ys h1 h2
   have:=Option.some.inj h
   subst this
   exact Nat.lt_succ_of_lt (hc.lt r (List.mem_of_getElem? h1))
  ·cases h
theorem capPts_app (xs ys:List W):capPts (xs++ys)=capPts xs++capPts ys:=by
 induction xs with
 |nil=>rfl
 |cons x r ih=>cases x<;>simp[capPts,ih]
theorem ptsX_sub:∀{ak:List AK} {ws:List W} {p:Bool×PB},p∈ptsX ak ws->p.2∈capPts ws
 |[],ws,p,h=>by cases ws<;>simp[ptsX]at h
 |a::ak,[],p,h=>by cases a<;>simp[ptsX]at h
 |a::ak,w::ws,p,h=>by
  have up:p.2∈capPts ws->p.2∈capPts (w::ws):=fun q=>by cases w<;>simp[capPts,q]
  have ih:p∈ptsX ak ws->p.2∈capPts (w::ws):=fun q=>up (ptsX_sub q)
  cases a with
  |v=>exact ih (by cases w<;>exact h)
  |x r=>cases w with
   |pt pb off=>
    rcases List.mem_cons.1 h with rfl|q
    ·simp[capPts]
    ·exact ih q
   |_=>exact ih h
  |o r=>cases w with
   |pt pb off=>
    rcases List.mem_cons.1 h with rfl|q
    ·simp[capPts]
    ·exact ih q
   |_=>exact ih h
theorem pf1_nopt {ws:List W} (h:ws.all W.pf1=true):capPts ws=[]:=by
 induction ws with
 |nil=>rfl
 |cons w r ih=>
  simp only[List.all_cons,Bool.and_eq_true]at h
  cases w with
  |pt=>cases h.1
  |_=>exact ih h.2
theorem chk1_some {w w':W} (h:chk1 w=some w'):w'=w∧w.pf1=true:=by
 unfold chk1 at h
 cases hw:w.pf1 with
 |true=>rw[hw]at h;exact⟨(Option.some.inj h).symm,rfl⟩
 |false=>rw[hw]at h;cases h
theorem fct_ok (hc:c.ok) (hS:RepS c s e l Y) {pb:PB} {off:Nat} {d:D} (hd:Rep4 c (.pt pb off) d) {ws:List W} (h1:getBx pb s=some ws):∃x,fct c l Y pb=some x∧d= .ptr x.f x.b (x.o+off)∧All2 (Rep2 c) ws x.ys∧x.f<c.n+1:=by
 cases pb with
 |own b=>
  obtain⟨hb0,ys,g1,g2⟩:=own_box hS h1
  exact⟨⟨c.n,b,0,ys⟩,by simp only[fct,g1,Option.map_some],(show d= .ptr c.n b (0+off) by rw[Nat.zero_add];exact hd),g2,Nat.lt_succ_self _⟩
 |ext i=>
  obtain⟨r,g1,g2⟩:=hd
  obtain⟨ys,g3,g4⟩:=hS.ext.get (i:=i) h1
  exact⟨⟨r.f,r.b,r.o,ys⟩,by simp only[fct,g1,g3],g2,g4,Nat.lt_succ_of_lt (hc.lt r (List.mem_of_getElem? g1))⟩
theorem ptr_ok (hc:c.ok) (hS:RepS c s e l Y) {pb:PB} {off:Nat} {d:D} (hd:Rep4 c (.pt pb off) d) {ws:List W} {w:W} {r:Ty} (h1:getBx pb s=some ws) (h2:pickW (some (rowLen r)) ws off=some w) (h3:w.pf1=true):
  ∃x y,fct c l Y pb=some x∧d= .ptr x.f x.b (x.o+off)∧y.length=rowLen r∧(∀(c':Cx),c'.P=c.P->(∀x∈c.F,x∈c'.F)->All2 (Rep2 c') w.cells y)∧x.f<c.n+1∧(∀B',Sat [x] B'->∀q,atR ⟨q,x.f,x.b,x.o+off,rowLen r⟩ y B'):=by
 obtain⟨x,x1,x2,d2,x5⟩:=fct_ok hc hS hd h1
 simp only[pickW]at h2
 split at h2
 ·rename_i hl
  have:=Option.some.inj h2
  subst this
  have hly:=d2.length
  have hy:((x.ys.drop off).take (rowLen r)).length=rowLen r:=by simp;omega
  refine⟨x,(x.ys.drop off).take (rowLen r),x1,x2,hy,fun c' hP hF=>pf_cellsW h3 hP hF ((d2.drop off).take _),x5,fun B' hB' q=>?_⟩
  obtain⟨l',cs,a1,a2,a3,a4⟩:=hB' x (by simp)
  refine⟨l',cs,a1,a2,?_,?_⟩
  ·rw[hy];show x.o+off+rowLen r<=cs.length;omega
  ·rw[hy]
   show(cs.drop (x.o+off)).take (rowLen r)=_
   rw[<-List.drop_drop,<-a4,List.drop_take,List.take_take,Nat.min_eq_left (by omega)]
 ·cases h2
theorem args0_ok (hc:c.ok) (hS:RepS c s e l Y):∀{ak:List AK} {ws ws':List W} {ds:List D},args0 s ak ws=some ws'->All2 (Rep4 c) ws ds->
  ptL ak ws=true∧∃Yc,(∀(c':Cx),c'.P=c.P->(∀x∈c.F,x∈c'.F)->ArgL c' ak ws' ds (rgOf ak ds) Yc)∧
   (∀r∈rgOf ak ds,r.f<c.n+1∧∃p x,p∈ptsX ak ws∧p.1=r.w∧fct c l Y p.2=some x∧(r.f,r.b)=(x.f,x.b))∧
   (∀B',(∀p x,p∈ptsX ak ws->fct c l Y p.2=some x->Sat [x] B')->∀(j:Nat) r y,(rgOf ak ds)[j]? =some r->Yc[j]? =some y->atR r y B')
 |[],[],ws',ds,h,ha=>by
  have:=Option.some.inj h
  subst this
  obtain rfl:=ha.nil_l
  exact⟨rfl,[],(fun _ _ _=>trivial),(fun r hr=>by cases hr),fun _ _ j r y hj=>by simp[rgOf]at hj⟩
 |[],_::_,ws',ds,h,ha=>by simp[args0]at h
 |a::ak,[],ws',ds,h,ha=>by simp[args0]at h
 |a::ak,w::ws,ws',ds,h,ha=>by
  obtain⟨d,q,rfl,a1,a2⟩:=ha.cons_l
  simp only[args0]at h
  obtain⟨w',h1,h2⟩:=Option.bind_eq_some_iff.1 h
  obtain⟨ws2,h3,h4⟩:=Option.map_eq_some_iff.1 h2
  subst h4
  obtain⟨i0,Yc,i1,i2,i3⟩:=args0_ok hc hS h3 a2
  cases a with
  |v τ=>
   obtain⟨rfl,hp⟩:=chk1_some h1
   have hpt:∀{ak:List AK} {ws:List W},ptsX (.v τ::ak) (w'::ws)=ptsX ak ws:=by
    intro ak ws;cases w'<;>rfl
   have hrg:rgOf (.v τ::ak) (d::q)=rgOf ak q:=by cases d<;>rfl
   rw[hrg,hpt]
   refine⟨by cases w'<;>exact i0,Yc,fun c' hP hF=>⟨pf1_up hP hF (of4 a1 fun ws q=>by subst q;cases hp) hp,i1 c' hP hF⟩,i2,i3⟩
  |x r=>
   cases w with
   |pt pb off=>
    simp only[arg0]at h1
    cases hw:wrB s pb with
    |false=>rw[hw]at h1;cases h1
    |true=>
     rw[hw,cond_true]at h1
     obtain⟨cs,g1,g2⟩:=Option.bind_eq_some_iff.1 h1
     obtain⟨w2,g3,g4⟩:=Option.bind_eq_some_iff.1 g2
     obtain⟨rfl,hp⟩:=chk1_some g4
     obtain⟨x,y,p1,p2,p3,p4,p5,p6⟩:=ptr_ok hc hS a1 g1 g3 hp
     subst p2
     refine⟨i0,y::Yc,fun c' hP hF=>⟨⟨rfl,rfl,rfl,p3,p4 c' hP hF⟩,i1 c' hP hF⟩,fun r' hr'=>?_,fun B' hB' j r' y' hj hy=>?_⟩
     ·rcases List.mem_cons.1 hr' with rfl|hr'
      ·exact⟨p5,(true,pb),x,by simp[ptsX],rfl,p1,rfl⟩
      ·obtain⟨k1,p,x',k2,k3,k4,k5⟩:=i2 r' hr'
       exact⟨k1,p,x',by simp[ptsX,k2],k3,k4,k5⟩
     ·cases j with
      |zero=>
       simp only[rgOf,List.getElem?_cons_zero]at hj hy
       have e1:=Option.some.inj hj;have e2:=Option.some.inj hy
       subst e1 e2
       exact p6 B' (hB' (true,pb) x (by simp[ptsX]) p1) true
      |succ j=>exact i3 B' (fun p x hp=>hB' p x (by simp[ptsX,hp])) j r' y' (by simpa[rgOf]using hj) (by simpa using hy)
   |_=>simp[arg0]at h1
  |o r=>
   cases w with
   |pt pb off=>
    simp only[arg0]at h1
    obtain⟨cs,g1,g2⟩:=Option.bind_eq_some_iff.1 h1
    obtain⟨w2,g3,g4⟩:=Option.bind_eq_some_iff.1 g2
    obtain⟨rfl,hp⟩:=chk1_some g4
    obtain⟨x,y,p1,p2,p3,p4,p5,p6⟩:=ptr_ok hc hS a1 g1 g3 hp
    subst p2
    refine⟨i0,y::Yc,fun c' hP hF=>⟨⟨rfl,rfl,rfl,p3,p4 c' hP hF⟩,i1 c' hP hF⟩,fun r' hr'=>?_,fun B' hB' j r' y' hj hy=>?_⟩
    ·rcases List.mem_cons.1 hr' with rfl|hr'
     ·exact⟨p5,(false,pb),x,by simp[ptsX],rfl,p1,rfl⟩
     ·obtain⟨k1,p,x',k2,k3,k4,k5⟩:=i2 r' hr'
      exact⟨k1,p,x',by simp[ptsX,k2],k3,k4,k5⟩
    ·cases j with
     |zero=>
      simp only[rgOf,List.getElem?_cons_zero]at hj hy
      have e1:=Option.some.inj hj;have e2:=Option.some.inj hy
      subst e1 e2
      exact p6 B' (hB' (false,pb) x (by simp[ptsX]) p1) false
     |succ j=>exact i3 B' (fun p x hp=>hB' p x (by simp[ptsX,hp])) j r' y' (by simpa[rgOf]using hj) (by simpa using hy)
   |_=>simp[arg0]at h1
theorem repack {c':Cx}:∀{ak:List AK} {ws:List W} {ds:List D} {rg:List Rg} {Yc:List (List D)} {x:(tyOf (ak.map AK.ty)).T},ak≠[]->(∀a∈ak,a.ty.val=true)->ArgL c' ak ws ds rg Yc->tupT (tyOf (ak.map AK.ty)) ws=some x->ArgL c' ak (tupW (tyOf (ak.map AK.ty)) x) ds rg Yc
 :=by
 have one:∀{a:AK} {w:W} {y:a.ty.T} {d:D} {rg:List Rg} {Yc:List (List D)} {ak:List AK} {ws ws2:List W} {ds:List D},a.ty.val=true->valT a.ty w=some y->ArgL c' (a::ak) (w::ws) (d::ds) rg Yc->
   (∀{rg:List Rg} {Yc:List (List D)},ArgL c' ak ws ds rg Yc->ArgL c' ak ws2 ds rg Yc)->ArgL c' (a::ak) (valW a.ty y::ws2) (d::ds) rg Yc:=by
  intro a w y d rg Yc ak ws ws2 ds hv h ha ih
  have cells:∀{r:Ty} {y:(Ty.g r).T} {z:List D},valT (.g r) w=some y->All2 (Rep2 c') w.cells z->All2 (Rep2 c') (valW (.g r) y).cells z:=by
   intro r y z h hz
   cases w with
   |ag ws=>
    obtain⟨k1,k2⟩:=rowT_ok (c:=c') (r:=r) h hz
    exact(cellsW_ok k1 k2).mono fun _ _ _ q=>to2 (to1 q)
   |_=>
    simp only[valT,oneT]at h;first|cases h|skip
    all_goals first|(obtain⟨e,_⟩:=castT_eq h;subst e;cases(All2.cons_l hz).choose_spec.choose_spec.2.1.1)|cases h
  cases a with
  |v τ=>
   cases rg with
   |nil=>cases Yc with
    |nil=>obtain⟨h1,h2⟩:=ha;exact⟨valW_ok hv (valT_ok h (to4 h1)).2,ih h2⟩
    |cons=>obtain⟨h1,h2⟩:=ha;exact⟨valW_ok hv (valT_ok h (to4 h1)).2,ih h2⟩
   |cons=>cases Yc with
    |nil=>obtain⟨h1,h2⟩:=ha;exact⟨valW_ok hv (valT_ok h (to4 h1)).2,ih h2⟩
    |cons=>obtain⟨h1,h2⟩:=ha;exact⟨valW_ok hv (valT_ok h (to4 h1)).2,ih h2⟩
  |x r=>
   cases rg with
   |nil=>cases Yc<;>exact ha.elim
   |cons q rg=>cases Yc with
    |nil=>exact ha.elim
    |cons z Yc=>obtain⟨⟨h1,h2,h3,h4,h5⟩,h6⟩:=ha;exact⟨⟨h1,h2,h3,h4,cells h h5⟩,ih h6⟩
  |o r=>
   cases rg with
   |nil=>cases Yc<;>exact ha.elim
   |cons q rg=>cases Yc with
    |nil=>exact ha.elim
    |cons z Yc=>obtain⟨⟨h1,h2,h3,h4,h5⟩,h6⟩:=ha;exact⟨⟨h1,h2,h3,h4,cells h h5⟩,ih h6⟩
 have nils:∀{a:AK} {ak:List AK} {ws:List W} {rg:List Rg} {Yc:List (List D)},¬ ArgL c' (a::ak) ws [] rg Yc:=by
  intro a ak ws rg Yc h
  cases a<;>cases ws<;>cases rg<;>cases Yc<;>exact h
 have nilw:∀{a:AK} {ak:List AK} {ds:List D} {rg:List Rg} {Yc:List (List D)},¬ ArgL c' (a::ak) [] ds rg Yc:=by
  intro a ak ws rg Yc h
  cases a<;>cases ws<;>cases rg<;>cases Yc<;>exact h
 intro ak
 induction ak with
 |nil=>intro ws ds rg Yc x h;exact absurd rfl h
 |cons a ak ih=>
  intro ws ds rg Yc x _ hv ha h
  cases ds with
  |nil=>exact(nils ha).elim
  |cons d ds=>
  cases ws with
  |nil=>exact(nilw ha).elim
  |cons w ws=>
  have hva:=hv a (by simp)
  cases ak with
  |nil=>
   have hw:ws=[]:=by
    cases ws with
    |nil=>rfl
    |cons w2 ws=>
     exfalso
     cases a<;>cases ds<;>cases rg<;>cases Yc<;>first|exact ha.2|exact ha|skip
     all_goals(rename_i r1 r2;first|(cases r1<;>cases r2<;>exact ha.2)|exact ha.2)
   subst hw
   have hk:∀{τ:Ty} {x:τ.T},τ.val=true->tupT τ [w]=some x->valT τ w=some x∧tupW τ x=[valW τ x]:=by
    intro τ x hτ h
    cases τ with
    |t=>cases hτ
    |n=>cases hτ
    |_=>exact⟨h,rfl⟩
   obtain⟨k1,k2⟩:=hk hva h
   show ArgL c' [a] (tupW a.ty x) (d::ds) rg Yc
   rw[k2]
   exact one hva k1 ha fun h=>h
  |cons b ak=>
   obtain⟨y,h1,h2⟩:=Option.bind_eq_some_iff.1 (show(valT a.ty w).bind (fun y=>(tupT (tyOf ((b::ak).map AK.ty)) ws).map fun z=>(y,z))=some x from h)
   obtain⟨z,h3,h4⟩:=Option.map_eq_some_iff.1 h2
   subst h4
   exact one hva h1 ha fun h=>ih (by simp) (fun q hq=>hv q (by simp[hq])) h h3
end
end Go.Proofs.Ytfopbiiffiickaa.Ev.U
namespace Go.Proofs.Ytfopbiiffiickaa.Ev.U
open Go
section
variable {c:Cx} {e:Env} {l:Bx} {Y:List (List D)} {t:Option Nat} {s:SU}
theorem upd_ro:∀{rs:List Rg} {Y:List (List D)} {B:List Bx},(∀r∈rs,r.w=false)->upd rs Y B=B
 |[],[],B,_=>rfl
 |[],_::_,B,_=>rfl
 |_::_,[],B,_=>rfl
 |r::rs,y::Y,B,h=>by
  simp only[upd,h r (by simp),cond_false]
  exact upd_ro fun q hq=>h q (by simp[hq])
theorem rgOf_ro:∀{ak:List AK} {ds:List D},xsOf ak=[]->∀r∈rgOf ak ds,r.w=false
 |[],ds,_,r,h=>by cases ds<;>simp[rgOf]at h
 | .v τ::ak,ds,hx,r,h=>by
  cases ds with
  |nil=>simp[rgOf]at h
  |cons d ds=>exact rgOf_ro (ak:=ak) hx r (by cases d<;>exact h)
 | .o τ::ak,ds,hx,r,h=>by
  cases ds with
  |nil=>simp[rgOf]at h
  |cons d ds=>
   cases d with
   |ptr f b o=>
    rcases List.mem_cons.1 h with rfl|h
    ·rfl
    ·exact rgOf_ro (ak:=ak) hx r h
   |_=>exact rgOf_ro (ak:=ak) hx r h
 | .x τ::ak,ds,hx,r,h=>by cases hx
theorem args_ne {sg:Sg} (hs:sg.ok=true):∀a∈sg.ak,a.ty.val=true:=by
 intro a ha
 simp only[Sg.ok,Bool.and_eq_true]at hs
 have:=List.all_eq_true.1 hs.2 a ha
 cases a with
 |v τ=>exact this
 |x r=>rfl
 |o r=>rfl
theorem argWs_ok {c':Cx} {sg:Sg} (hs:sg.ok=true) {ws:List W} {ds:List D} {rg:List Rg} {Yc:List (List D)} {x:sg.aT.T} (h:ArgL c' sg.ak ws ds rg Yc) (hx:tupT sg.aT ws=some x):ArgL c' sg.ak (argWs sg x) ds rg Yc:=by
 obtain⟨ak,res⟩:=sg
 cases ak with
 |nil=>
  cases ws with
  |nil=>exact h
  |cons=>cases ds<;>cases rg<;>cases Yc<;>exact h.elim
 |cons a ak=>exact repack (by simp) (args_ne hs) h hx
theorem fct_pts {pb:PB} {x:Fx} {caps:List W} (h:fct c l Y pb=some x) (hp:pb∈capPts caps):x∈(capPts caps).filterMap (fct c l Y):=List.mem_filterMap.2 ⟨pb,hp,h⟩
theorem atR_sat {F:List Fx} {B:List Bx} (h:Sat F B) {x:Fx} (hx:x∈F):Sat [x] B:=fun y hy=>by
 have:y=x:=by simpa using hy
 subst this
 exact h y hx
theorem ArgL_len {c':Cx}:∀{ak:List AK} {ws:List W} {ds:List D} {rg:List Rg} {Yc:List (List D)},ArgL c' ak ws ds rg Yc->∀(i:Nat) r,rg[i]? =some r->∃y,Yc[i]? =some y∧y.length=r.z
 |[],ws,ds,rg,Yc,h,i,r,hr=>by
  cases ws<;>cases ds<;>cases rg<;>cases Yc<;>first|exact h.elim|simp at hr
 | .v τ::ak,[],ds,rg,Yc,h,i,r,hr=>by cases ds<;>cases rg<;>cases Yc<;>exact h.elim
 | .v τ::ak,w::ws,[],rg,Yc,h,i,r,hr=>by cases rg<;>cases Yc<;>exact h.elim
 | .v τ::ak,w::ws,d::ds,rg,Yc,h,i,r,hr=>by
  have:ArgL c' ak ws ds rg Yc:=by cases rg<;>cases Yc<;>exact h.2
  exact ArgL_len this i r hr
 | .x q::ak,ws,ds,rg,Yc,h,i,r,hr=>by
  cases ws with
  |nil=>cases ds<;>cases rg<;>cases Yc<;>exact h.elim
  |cons w ws=>cases ds with
   |nil=>cases rg<;>cases Yc<;>exact h.elim
   |cons d ds=>cases rg with
    |nil=>cases Yc<;>exact h.elim
    |cons g rg=>cases Yc with
     |nil=>exact h.elim
     |cons y Yc=>cases i with
      |zero=>
       simp only[List.getElem?_cons_zero,Option.some.injEq]at hr
       subst hr
       exact⟨y,rfl,h.1.2.2.2.1⟩
      |succ i=>exact ArgL_len h.2 i r (by simpa using hr)
 | .o q::ak,ws,ds,rg,Yc,h,i,r,hr=>by
  cases ws with
  |nil=>cases ds<;>cases rg<;>cases Yc<;>exact h.elim
  |cons w ws=>cases ds with
   |nil=>cases rg<;>cases Yc<;>exact h.elim
   |cons d ds=>cases rg with
    |nil=>cases Yc<;>exact h.elim
    |cons g rg=>cases Yc with
     |nil=>exact h.elim
     |cons y Yc=>cases i with
      |zero=>
       simp only[List.getElem?_cons_zero,Option.some.injEq]at hr
       subst hr
       exact⟨y,rfl,h.1.2.2.2.1⟩
      |succ i=>exact ArgL_len h.2 i r (by simpa using hr)
theorem clo_ok (hc:c.ok) (hS:RepS c s e l Y) {T:Tab} (hT:TabOk c.P T) {fn:Nat} {caps:List W} {cs:List D} {a r:Ty} {φ:a.T->Option r.T} (hcap:All2 (Rep1 c) caps cs) (h:cloF T s fn caps a r=some φ) {F:List Fx} (hF:∀x∈c.F,x∈F) (hF2:∀x∈(capPts caps).filterMap (fct c l Y),x∈F):
  RepL c.P (.fn a r) F φ [.clo fn cs]:=by
 unfold cloF at h
 split at h
 ·cases h
 ·rename_i tf htf
  split at h
  ·rename_i hxs hfo
   simp only[Bool.and_eq_true]at hfo
   obtain⟨⟨⟨⟨⟨⟨hfa,hfr⟩,hat⟩,hrok⟩,hsg⟩,hci⟩,hcw⟩:=hfo
   have hφ:=(Option.some.inj h).symm
   have hcd:∀{ws:List W} {ds:List D},(∀w∈ws,w∈caps)->All2 (Rep1 c) ws ds->∀d∈ds,capD F d:=by
    intro ws
    induction ws with
    |nil=>intro ds _ h d hd;obtain rfl:=h.nil_l;cases hd
    |cons w ws ih=>
     intro ds hin h d hd
     obtain⟨d0,q,rfl,a1,a2⟩:=h.cons_l
     rcases List.mem_cons.1 hd with rfl|hd
     ·have k1:=List.all_eq_true.1 hci w (hin w (by simp))
      have k2:=List.all_eq_true.1 hcw w (hin w (by simp))
      cases w with
      |pt pb off=>
       simp only[capIn,Option.isSome_iff_exists]at k1
       obtain⟨ws0,k1⟩:=k1
       obtain⟨x,x1,x2,_,_⟩:=fct_ok hc hS (to4x2 (to2 a1)) k1
       rw[x2]
       refine⟨x,hF2 x (fct_pts x1 ?_),rfl⟩
       have:∀{ws:List W},(.pt pb off)∈ws->pb∈capPts ws:=by
        intro ws
        induction ws with
        |nil=>intro h;cases h
        |cons v ws ih=>
         intro h
         rcases List.mem_cons.1 h with rfl|h
         ·simp[capPts]
         ·have:=ih h
          cases v<;>simp[capPts,this]
       exact this (hin _ (by simp))
      |fp ws0 off=>obtain⟨_,rfl,_⟩:=a1;trivial
      |u τ x=>cases τ with
       |i k=>rw[(i_d a1.2).1];trivial
       |b=>rw[b_d a1.2];trivial
       |s=>rw[(s_d a1.2).1];trivial
       |_=>cases k2
      |_=>cases k2
     ·exact ih (fun w hw=>hin w (by simp[hw])) a2 d hd
   refine⟨fn,cs,rfl,hcd (fun _ h=>h) hcap,fun x ak hx y hy n hn=>?_⟩
   rw[hφ]at hy
   obtain⟨ws',h1,h2⟩:=Option.bind_eq_some_iff.1 hy
   obtain⟨xx,h3,h4⟩:=Option.bind_eq_some_iff.1 h2
   obtain⟨z,h5,h6⟩:=Option.bind_eq_some_iff.1 h4
   have hx':RepL c.P a c.F x ak:=RepL.up (fun x h=>by simp at h) hx
   have hall:All2 (Rep4 c) (tupW a x++caps) (ak++cs):=(All2.to4 (tupW_ok hat hx')).app (hcap.mono fun _ _ _ q=>to4x2 (to2 q))
   obtain⟨i0,Yc,i1,i2,i3⟩:=args0_ok hc hS h1 hall
   have hpts:∀p,p∈ptsX tf.sg.ak (tupW a x++caps)->p.2∈capPts caps:=fun p hp=>by
    have:=ptsX_sub hp
    rw[capPts_app,pf1_nopt (pf_tup a x),List.nil_append]at this
    exact this
   have hro:=rgOf_ro (ak:=tf.sg.ak) (ds:=ak++cs) hxs
   have hok:Cx.ok ⟨c.P,F,n,rgOf tf.sg.ak (ak++cs),fun i=>(Yc[i]?).getD []⟩:=by
    refine⟨fun r hr=>?_,fun i j r q hi _ _ hw=>?_,fun x hx=>⟨hn x hx,fun r hr hw=>?_⟩⟩
    ·obtain⟨k1,p,x',k2,k3,k4,k5⟩:=i2 r hr
     injection k5 with k5
     show r.f<n
     rw[k5]
     exact hn x' (hF2 x' (fct_pts k4 (hpts p k2)))
    ·rw[hro r (List.mem_of_getElem? hi)]at hw;cases hw
    ·rw[hro r hr]at hw;cases hw
   have harg:=argWs_ok (c':=⟨c.P,F,n,rgOf tf.sg.ak (ak++cs),fun i=>(Yc[i]?).getD []⟩) hsg (i1 _ rfl hF) h3
   obtain⟨d,Y',t1,t2,t3⟩:=(hT fn tf htf).1 F n (rgOf tf.sg.ak (ak++cs)) (fun i=>(Yc[i]?).getD []) Yc hok (fun i r ys _ hy _=>by simp[hy]) xx (ak++cs) harg z h5
   -- the result
   have hsg':=hsg
   simp only[Sg.ok,Bool.and_eq_true]at hsg'
   have key:∀{res:Ty} {xs:List Ty} {z:(oTy res xs).T} {y:r.T},xs=[]->castT (oTy res xs) r z=some y->Rep4 (c0 c.P) (outW res xs z).1 d->Rep4 (c0 c.P) (resW r y) d:=by
    intro res xs z y hx hcst hrep
    subst hx
    have e:oTy res []=res:=by cases res<;>rfl
    cases res<;>(obtain⟨e1,e2⟩:=castT_eq hcst;subst e1;subst e2;exact hrep)
   have hres:=key hxs h6 t1
   obtain⟨q,q1,q2⟩:=res_inv hrok hres
   refine⟨d,q,q1,q2,fun B hB hSat=>?_⟩
   have hat:=i3 B fun p x hp hx=>atR_sat hSat (hF2 x (fct_pts hx (hpts p hp)))
   rw[t3 B ⟨hB,hSat,fun r hr=>?_,fun i r hi hw=>?_⟩ hat,upd_ro hro]
   ·obtain⟨j,hj⟩:=List.mem_iff_getElem?.1 hr
    obtain⟨y,y1,y2⟩:=ArgL_len harg j r hj
    obtain⟨l',cs',k1,k2,k3,k4⟩:=hat j r y hj y1
    exact⟨l',cs',k1,k2,by omega⟩
   ·obtain⟨y,y1,y2⟩:=ArgL_len harg i r hi
    obtain⟨l',cs',k1,k2,k3,k4⟩:=hat i r y hi y1
    exact⟨l',cs',k1,k2,by omega,by simp only[y1,Option.getD_some];rw[<-y2];exact k4⟩
  ·cases h
theorem argsF_ok (hc:c.ok) (hS:RepS c s e l Y) {T:Tab} (hT:TabOk c.P T):∀{ak:List AK} {ws ws':List W} {ds:List D},argsF T s ak ws=some ws'->All2 (Rep4 c) ws ds->
  ptL ak ws=true∧∃Yc,(∀(c':Cx),c'.P=c.P->(∀x∈c.F,x∈c'.F)->(∀x∈(ptsC ws).filterMap (fct c l Y),x∈c'.F)->ArgL c' ak ws' ds (rgOf ak ds) Yc)∧
   (All2 (fun(p:Bool×PB) (r:Rg)=>r.f<c.n+1∧p.1=r.w∧(r.w=true->wrB s p.2=true)∧∃x,fct c l Y p.2=some x∧(r.f,r.b)=(x.f,x.b)) (ptsX ak ws) (rgOf ak ds))∧
   (∀B',(∀p x,p∈ptsX ak ws->fct c l Y p.2=some x->Sat [x] B')->∀(j:Nat) r y,(rgOf ak ds)[j]? =some r->Yc[j]? =some y->atR r y B')
 |[],[],ws',ds,h,ha=>by
  have:=Option.some.inj h
  subst this
  obtain rfl:=ha.nil_l
  exact⟨rfl,[],(fun _ _ _ _=>trivial),trivial,fun _ _ j r y hj=>by simp[rgOf]at hj⟩
 |[],_::_,ws',ds,h,ha=>by simp[argsF]at h
 |a::ak,[],ws',ds,h,ha=>by simp[argsF]at h
 |a::ak,w::ws,ws',ds,h,ha=>by
  obtain⟨d,q,rfl,a1,a2⟩:=ha.cons_l
  simp only[argsF]at h
  obtain⟨w',h1,h2⟩:=Option.bind_eq_some_iff.1 h
  obtain⟨ws2,h3,h4⟩:=Option.map_eq_some_iff.1 h2
  subst h4
  obtain⟨i0,Yc,i1,i2,i3⟩:=argsF_ok hc hS hT h3 a2
  have pc:∀{F:List Fx},(∀x∈(ptsC (w::ws)).filterMap (fct c l Y),x∈F)->∀x∈(ptsC ws).filterMap (fct c l Y),x∈F:=fun hq x hx=>hq x (by
   obtain⟨pb,p1,p2⟩:=List.mem_filterMap.1 hx
   exact List.mem_filterMap.2 ⟨pb,by cases w<;>simp[ptsC,p1],p2⟩)
  cases a with
  |v τ=>
   have hpt:ptsX (.v τ::ak) (w::ws)=ptsX ak ws:=by cases w<;>rfl
   have hrg:rgOf (.v τ::ak) (d::q)=rgOf ak q:=by cases d<;>rfl
   have hp0:ptL (.v τ::ak) (w::ws)=true:=by cases w<;>exact i0
   rw[hrg,hpt]
   refine⟨hp0,Yc,fun c' hP hF hF2=>⟨?_,i1 c' hP hF (pc hF2)⟩,i2,i3⟩
   unfold argF at h1
   split at h1
   ·rename_i a r fn caps e1
    obtain⟨φ,k1,k2⟩:=Option.map_eq_some_iff.1 h1
    subst k2
    obtain⟨cs,rfl,m1,m2⟩:=a1
    have:=clo_ok hc hS hT m1 k1 (F:=c'.F) hF fun x hx=>hF2 x (by
     obtain⟨pb,p1,p2⟩:=List.mem_filterMap.1 hx
     exact List.mem_filterMap.2 ⟨pb,by simp[ptsC,p1],p2⟩)
    exact⟨rfl,by rw[hP];exact this⟩
   ·obtain⟨rfl,hp⟩:=chk1_some h1
    exact pf1_up hP hF (of4 a1 fun ws q=>by subst q;cases hp) hp
  |x r=>
   cases w with
   |pt pb off=>
    simp only[argF,arg0]at h1
    cases hw:wrB s pb with
    |false=>rw[hw]at h1;cases h1
    |true=>
     rw[hw,cond_true]at h1
     obtain⟨cs,g1,g2⟩:=Option.bind_eq_some_iff.1 h1
     obtain⟨w2,g3,g4⟩:=Option.bind_eq_some_iff.1 g2
     obtain⟨rfl,hp⟩:=chk1_some g4
     obtain⟨x,y,p1,p2,p3,p4,p5,p6⟩:=ptr_ok hc hS a1 g1 g3 hp
     subst p2
     refine⟨i0,y::Yc,fun c' hP hF hF2=>⟨⟨rfl,rfl,rfl,p3,p4 c' hP hF⟩,i1 c' hP hF (pc hF2)⟩,⟨⟨p5,rfl,fun _=>hw,x,p1,rfl⟩,i2⟩,fun B' hB' j r' y' hj hy=>?_⟩
     cases j with
     |zero=>
      simp only[rgOf,List.getElem?_cons_zero]at hj hy
      have e1:=Option.some.inj hj;have e2:=Option.some.inj hy
      subst e1 e2
      exact p6 B' (hB' (true,pb) x (by simp[ptsX]) p1) true
     |succ j=>exact i3 B' (fun p x hp=>hB' p x (by simp[ptsX,hp])) j r' y' (by simpa[rgOf]using hj) (by simpa using hy)
   |_=>simp[argF,arg0]at h1
  |o r=>
   cases w with
   |pt pb off=>
    simp only[argF,arg0]at h1
    obtain⟨cs,g1,g2⟩:=Option.bind_eq_some_iff.1 h1
    obtain⟨w2,g3,g4⟩:=Option.bind_eq_some_iff.1 g2
    obtain⟨rfl,hp⟩:=chk1_some g4
    obtain⟨x,y,p1,p2,p3,p4,p5,p6⟩:=ptr_ok hc hS a1 g1 g3 hp
    subst p2
    refine⟨i0,y::Yc,fun c' hP hF hF2=>⟨⟨rfl,rfl,rfl,p3,p4 c' hP hF⟩,i1 c' hP hF (pc hF2)⟩,⟨⟨p5,rfl,(fun q=>by cases q),x,p1,rfl⟩,i2⟩,fun B' hB' j r' y' hj hy=>?_⟩
    cases j with
    |zero=>
     simp only[rgOf,List.getElem?_cons_zero]at hj hy
     have e1:=Option.some.inj hj;have e2:=Option.some.inj hy
     subst e1 e2
     exact p6 B' (hB' (false,pb) x (by simp[ptsX]) p1) false
    |succ j=>exact i3 B' (fun p x hp=>hB' p x (by simp[ptsX,hp])) j r' y' (by simpa[rgOf]using hj) (by simpa using hy)
   |_=>simp[argF,arg0]at h1
theorem box_ne (hc:c.ok) (hS:RepS c s e l Y) {p q:PB} {x y:Fx} (hp:fct c l Y p=some x) (hq:fct c l Y q=some y) (hne:p≠q) (hw:wrB s p=true∨wrB s q=true):(x.f,x.b)≠(y.f,y.b):=by
 have own:∀{b x},fct c l Y (.own b)=some x->(x.f,x.b)=(c.n,b):=fun h=>by
  obtain⟨ds,h1,rfl⟩:=Option.map_eq_some_iff.1 h;rfl
 have ext:∀{i x},fct c l Y (.ext i)=some x->∃r,c.rg[i]? =some r∧(x.f,x.b)=(r.f,r.b):=fun h=>by
  simp only[fct]at h
  split at h
  ·rename_i r ys h1 h2
   have:=Option.some.inj h
   subst this
   exact⟨r,h1,rfl⟩
  ·cases h
 have wr:∀{i r},wrB s (.ext i)=true->c.rg[i]? =some r->r.w=true:=fun hw h1=>by
  simp only[wrB]at hw
  split at hw
  ·rename_i h2
   rw[hS.wr,List.getElem?_map,h1]at h2
   exact Option.some.inj h2
  ·cases hw
 cases p with
 |own b=>
  rw[own hp]
  cases q with
  |own b'=>
   rw[own hq]
   intro h
   injection h with h1 h2
   exact hne (by rw[h2])
  |ext i=>
   obtain⟨r,h1,h2⟩:=ext hq
   rw[h2]
   intro h
   injection h with h3 h4
   have:=hc.lt r (List.mem_of_getElem? h1)
   omega
 |ext i=>
  obtain⟨r,h1,h2⟩:=ext hp
  rw[h2]
  cases q with
  |own b'=>
   rw[own hq]
   intro h
   injection h with h3 h4
   have:=hc.lt r (List.mem_of_getElem? h1)
   omega
  |ext j=>
   obtain⟨r',h3,h4⟩:=ext hq
   rw[h4]
   have hij:i≠j:=fun h=>hne (by rw[h])
   rcases hw with hw|hw
   ·exact hc.dj i j r r' h1 h3 hij (wr hw h1)
   ·exact(hc.dj j i r' r h3 h1 (Ne.symm hij) (wr hw h3)).symm
theorem distP_get:∀{l:List (Bool×PB)},distP l=true->∀(i j:Nat) p q,l[i]? =some p->l[j]? =some q->i≠j->p.1=true->p.2≠q.2
 |[],_,i,j,p,q,hi,_,_,_=>by simp at hi
 |x::r,h,i,j,p,q,hi,hj,hij,hp=>by
  simp only[distP,Bool.and_eq_true]at h
  have key:∀y∈r,(x.1||y.1)=true->x.2≠y.2:=fun y hy hq=>by
   have:=List.all_eq_true.1 h.1 y hy
   rw[hq]at this
   simpa using this
  cases i with
  |zero=>
   simp only[List.getElem?_cons_zero,Option.some.injEq]at hi
   subst hi
   cases j with
   |zero=>exact absurd rfl hij
   |succ j=>
    simp only[List.getElem?_cons_succ]at hj
    exact key q (List.mem_of_getElem? hj) (by rw[hp];rfl)
  |succ i=>
   simp only[List.getElem?_cons_succ]at hi
   cases j with
   |zero=>
    simp only[List.getElem?_cons_zero,Option.some.injEq]at hj
    subst hj
    exact(key p (List.mem_of_getElem? hi) (by rw[hp];simp)).symm
   |succ j=>
    simp only[List.getElem?_cons_succ]at hj
    exact distP_get h.2 i j p q hi hj (by omega) hp
theorem call_ok (hc:c.ok) (hS:RepS c s e l Y) {T:Tab} (hT:TabOk c.P T) {f:Nat} {ws:List W} {ds:List D} (ha:All2 (Rep4 c) ws ds) {w:W} {s':SU} (h:(callW T f ws s).out (some (w,s'))):
  ∃d l' Y',RepS c s' e l' Y'∧Rep4 c w d∧∀B,Fam c B->doCall c.P f ds ⟨e,l,upd c.rg Y B⟩=some (d,⟨e,l',upd c.rg Y' B⟩):=by
 have key:∀{tf:TF},T f=some tf->∀{a:tf.sg.aT.T} {y:tf.sg.oT.T},(argsF T s tf.sg.ak ws).bind (tupT tf.sg.aT)=some a->(distOk tf.sg.ak ws&&tf.sg.ok)=true->tf.f a=some y->
   (backW tf.sg.ak ws (outW tf.sg.res (xsOf tf.sg.ak) y).2 s).map (fun s'=>((outW tf.sg.res (xsOf tf.sg.ak) y).1,s'))=some (w,s')->
   ∃d l' Y',RepS c s' e l' Y'∧Rep4 c w d∧∀B,Fam c B->doCall c.P f ds ⟨e,l,upd c.rg Y B⟩=some (d,⟨e,l',upd c.rg Y' B⟩):=by
  intro tf htf a y h1 h2 h3 h4
  obtain⟨ws',k1,k2⟩:=Option.bind_eq_some_iff.1 h1
  simp only[Bool.and_eq_true,distOk]at h2
  obtain⟨⟨hd1,hd2⟩,hsg⟩:=h2
  obtain⟨s1,b1,b2⟩:=Option.map_eq_some_iff.1 h4
  injection b2 with b2 b3
  subst b2 b3
  obtain⟨i0,Yc,i1,i2,i3⟩:=argsF_ok hc hS hT k1 ha
  let Fc:=c.F++(ptsC ws).filterMap (fct c l Y)
  let c':Cx:=⟨c.P,Fc,c.n+1,rgOf tf.sg.ak ds,fun i=>(Yc[i]?).getD []⟩
  have hF:∀x∈c.F,x∈c'.F:=fun x hx=>List.mem_append_left _ hx
  have hF2:∀x∈(ptsC ws).filterMap (fct c l Y),x∈c'.F:=fun x hx=>List.mem_append_right _ hx
  have harg:=argWs_ok (c':=c') hsg (i1 c' rfl hF hF2) k2
  have rgp:∀(j:Nat) r,(rgOf tf.sg.ak ds)[j]? =some r->∃p,(ptsX tf.sg.ak ws)[j]? =some p∧r.f<c.n+1∧p.1=r.w∧(r.w=true->wrB s p.2=true)∧∃x,fct c l Y p.2=some x∧(r.f,r.b)=(x.f,x.b):=by
   intro j r hj
   have hlen:=i2.length
   have hlt:=getq_lt hj
   obtain⟨p,hp⟩:∃p,(ptsX tf.sg.ak ws)[j]? =some p:=⟨_,List.getElem?_eq_getElem (by omega)⟩
   obtain⟨r',hr',q⟩:=i2.get hp
   rw[hj]at hr'
   have:=Option.some.inj hr'
   subst this
   exact⟨p,hp,q⟩
  have hok:c'.ok:=by
   refine⟨fun r hr=>?_,fun i j r q hi hj hij hw=>?_,fun x hx=>⟨?_,fun r hr hw=>?_⟩⟩
   ·obtain⟨j,hj⟩:=List.mem_iff_getElem?.1 hr
    obtain⟨p,_,q,_⟩:=rgp j r hj
    exact q
   ·obtain⟨p,p1,p2,p3,p4,x,p5,p6⟩:=rgp i r hi
    obtain⟨p',q1,q2,q3,q4,x',q5,q6⟩:=rgp j q hj
    rw[p6,q6]
    exact box_ne hc hS p5 q5 (distP_get hd1 i j p p' p1 q1 hij (by rw[p3];exact hw)) (.inl (p4 hw))
   ·rcases List.mem_append.1 hx with hx|hx
    ·exact Nat.lt_succ_of_lt (hc.fd x hx).1
    ·obtain⟨pb,_,p2⟩:=List.mem_filterMap.1 hx
     exact fct_f hc p2
   ·obtain⟨i,hi⟩:=List.mem_iff_getElem?.1 hr
    obtain⟨p,p1,p2,p3,p4,x',p5,p6⟩:=rgp i r hi
    rw[p6]
    rcases List.mem_append.1 hx with hx|hx
    ·have hwp:=p4 hw
     obtain⟨f1,f2⟩:=hc.fd x hx
     cases hpb:p.2 with
     |own b=>
      rw[hpb]at p5
      obtain⟨ds',_,rfl⟩:=Option.map_eq_some_iff.1 p5
      intro h
      injection h with h5 h6
      have h5:x.f=c.n:=h5
      omega
     |ext i=>
      rw[hpb]at p5 hwp
      simp only[fct]at p5
      split at p5
      ·rename_i r0 ys0 g1 g2
       have:=Option.some.inj p5
       subst this
       refine f2 r0 (List.mem_of_getElem? g1) ?_
       simp only[wrB]at hwp
       split at hwp
       ·rename_i g3
        rw[hS.wr,List.getElem?_map,g1]at g3
        exact Option.some.inj g3
       ·cases hwp
      ·cases p5
    ·obtain⟨pb,g1,g2⟩:=List.mem_filterMap.1 hx
     refine box_ne hc hS g2 p5 ?_ (.inr (p4 hw))
     have h5:=List.all_eq_true.1 hd2 p (List.mem_of_getElem? p1)
     rw[p3,hw]at h5
     simp only[Bool.not_true,Bool.false_or]at h5
     have h6:=List.all_eq_true.1 h5 pb g1
     intro e
     subst e
     simp at h6
  obtain⟨d,Y2,t1,t2,t3⟩:=(hT f tf htf).1 Fc (c.n+1) (rgOf tf.sg.ak ds) (fun i=>(Yc[i]?).getD []) Yc hok (fun i r ys _ hy _=>by simp[hy]) a ds harg y h3
  have hpf:=pf_out tf.sg.res (xsOf tf.sg.ak) y
  obtain⟨l',Y',g1,g2⟩:=back_ok hc (c1:=c0 c.P) rfl rfl hS ha i0 b1 t2 hpf.2
  refine⟨d,l',Y',g1,pf2_up (c:=c0 c.P) (c':=c) rfl (fun x hx=>by cases hx) t1 hpf.1,fun B hB=>?_⟩
  have hat:=i3 (upd c.rg Y B++[l]) fun p x hp hx=>fct_sat hc hS hx hB
  have hfam:Fam c' (upd c.rg Y B++[l]):=by
   refine⟨?_,fun x hx=>?_,fun r hr=>?_,fun i r hi hw=>?_⟩
   ·rw[List.length_append,fam_len hB Y];rfl
   ·rcases List.mem_append.1 hx with hx|hx
    ·obtain⟨l',cs,a1,a2,a3,a4⟩:=Sat.upd (rs:=c.rg) (Y:=Y) (fun x hx=>(hc.fd x hx).2) hB.sat x hx
     exact⟨l',cs,by rw[List.getElem?_append_left (getq_lt a1)];exact a1,a2,a3,a4⟩
    ·obtain⟨pb,p1,p2⟩:=List.mem_filterMap.1 hx
     exact fct_sat hc hS p2 hB x (by simp)
   ·obtain⟨j,hj⟩:=List.mem_iff_getElem?.1 hr
    obtain⟨z,y1,y2⟩:=ArgL_len harg j r hj
    obtain⟨l',cs',k1,k2,k3,k4⟩:=hat j r z hj y1
    exact⟨l',cs',k1,k2,by omega⟩
   ·obtain⟨z,y1,y2⟩:=ArgL_len harg i r hi
    obtain⟨l',cs',k1,k2,k3,k4⟩:=hat i r z hi y1
    exact⟨l',cs',k1,k2,by omega,by show _=(Yc[i]?).getD [];rw[y1,Option.getD_some,<-y2];exact k4⟩
  unfold doCall
  rw[t3 _ hfam hat,g2 B hB]
  simp only[unsnoc_app]
  rfl
 unfold callW at h
 split at h
 ·exact h.elim
 ·rename_i sg g htf
  split at h
  ·rename_i a h1 h2
   obtain⟨y,o1,o2⟩:=out_b h
   exact key htf (a:=a) (y:=y) h1 h2 o1 o2
  ·exact h.elim
 ·rename_i sg g htf
  split at h
  ·rename_i a h1 h2
   exact key htf (a:=a) (y:=g a) h1 h2 rfl (out_r h)
  ·exact h.elim
 ·exact h.elim
end
end Go.Proofs.Ytfopbiiffiickaa.Ev.U
namespace Go.Proofs.Ytfopbiiffiickaa.Ev.U
open Go
section
variable {c:Cx} {e:Env} {l:Bx} {Y:List (List D)} {t:Option Nat} {s:SU}
def rdLE:List Opd->Env->List D×Env
 |[],e=>([],e)
 |x::r,e=>(rdE e x::(rdLE r (rdN e x)).1,(rdLE r (rdN e x)).2)
theorem rdL_eq (l:Bx) (o:List Bx):∀(xs:List Opd) (e:Env),rdL xs ⟨e,l,o⟩=((rdLE xs e).1,⟨(rdLE xs e).2,l,o⟩)
 |[],e=>rfl
 |x::r,e=>by simp only[rdL,rdLE,rd_fst,rd_snd,rdL_eq l o r]
theorem rdLW_ok (hc:c.ok):∀{xs:List Opd} {s:SU} {e:Env},RepS c s e l Y->All2 (Rep4 c) (rdLW [] xs s).1 (rdLE xs e).1∧RepS c (rdLW [] xs s).2 (rdLE xs e).2 l Y
 |[],s,e,hS=>⟨trivial,hS⟩
 |x::r,s,e,hS=>by
  obtain⟨h1,h2⟩:=rdLW_ok hc (xs:=r) (rdW_st hS x)
  exact⟨⟨rdW_ok hS (act_nil e) x,h1⟩,h2⟩
theorem rdLW_ot {p:Path}:∀{xs:List Opd} {s:SU},xs.all Opd.ot=true->rdLW p xs s=(rdsW p s xs,s)
 |[],s,_=>rfl
 |x::r,s,h=>by
  simp only[List.all_cons,Bool.and_eq_true]at h
  simp only[rdLW,rdsW,rdW_ot h.1,rdLW_ot h.2]
theorem rdLE_ot:∀{xs:List Opd} {e:Env},xs.all Opd.ot=true->rdLE xs e=(xs.map (rdE e),e)
 |[],e,_=>rfl
 |x::r,e,h=>by
  simp only[List.all_cons,Bool.and_eq_true]at h
  simp only[rdLE,List.map_cons,rdN_ot h.1,rdLE_ot h.2]
theorem y_ro {t':Ty} {ys:List t'.T} {d:D} (h:Rep4 c (.u (.l .ro t') ys) d):ys.length<=maxLn∧∃es,All2 (fun y e=>RepL c.P t' c.F y [e]) ys es∧(d= .sl .ro (csz t') es∨(es=[]∧∃z,d= .sl .nl z [])):=l_d h.2
theorem opAp (hc:c.ok) (hS:RepS c s e l Y) {T:Tab} {a:Ty} {q:Bool} {z b:Nat} {x y:Opd} {w:W} {s':SU} (h:(evOpW T [] t a (.ap q z b x y) s).out (some (w,s'))):SR c e l Y t (.ap q z b x y) w s':=by
 have hx:=rdW_ok hS (act_nil e) x
 have hy:=rdW_ok hS (act_nil e) y
 have hS1:=rdW_st hS x
 have fin:∀{d:D},Rep4 c w d->s'=(rdW [] x s).2->(∀o,evOp c.P t (.ap q z b x y) ⟨e,l,o⟩=some (d,⟨rdN e x,l,o⟩))->SR c e l Y t (.ap q z b x y) w s':=fun{d} h1 h2 h3=>by
  subst h2
  exact⟨d,rdN e x,l,Y,hS1,h1,fun B _=>h3 _⟩
 have lim:∀{n:Nat},0<b->n*b<=140737488355328->n<=maxLn:=fun{n} hb h=>by
  have:n<=n*b:=Nat.le_mul_of_pos_right n hb
  unfold maxLn;omega
 simp only[evOpW]at h
 split at h
 ·rename_i _ h1 h2
  rw[h1]at hx;rw[h2]at hy
  obtain⟨z1,dx⟩:=hx
  obtain⟨z2,dy⟩:=hy
  have h:=Option.some.inj (out_r h)
  injection h with h3 h4
  refine fin (d:=.sl .nl 0 []) (by rw[<-h3];exact⟨0,rfl⟩) h4.symm fun o=>?_
  simp only[evOp,rd_fst,rd_snd,dx,dy]
  rw[if_pos ⟨.inr rfl,by decide,by decide,by simp⟩];rfl
 ·rename_i t' ys _ h1 h2
  rw[h1]at hx;rw[h2]at hy
  obtain⟨z1,dx⟩:=hx
  obtain⟨hl,es,ha,dy⟩:=y_ro hy
  split at h
  ·rename_i hz
   obtain⟨v,o1,o2⟩:=out_b h
   have o2:=Option.some.inj o2
   injection o2 with o3 o4
   obtain⟨c1,rfl⟩:=apd_some o1
   simp only[List.nil_append,List.length_nil,Nat.zero_add]at c1 o3
   rw[ha.length]at c1
   have hlim:=lim hz.2 c1
   rcases dy with dy|⟨rfl,z2,dy⟩
   ·cases es with
    |nil=>
     refine fin (d:=.sl .nl 0 []) (by rw[<-o3,ha.nil_r];exact⟨rfl,Nat.zero_le _,[],trivial,.inr ⟨rfl,0,rfl⟩⟩) o4.symm fun o=>?_
     simp only[evOp,rd_fst,rd_snd,dx,dy]
     rw[if_pos ⟨.inr rfl,by decide,by decide,by simp⟩];rfl
    |cons e0 es=>
     refine fin (d:=.sl (apM q) z (e0::es)) (by rw[<-o3];exact⟨rfl,by rw[ha.length];exact hlim,_,ha,.inl (by rw[hz.1])⟩) o4.symm fun o=>?_
     simp only[evOp,rd_fst,rd_snd,dx,dy]
     rw[if_pos ⟨.inl hz.1.symm,by decide,by decide,c1⟩];rfl
   ·refine fin (d:=.sl .nl 0 []) (by rw[<-o3,ha.nil_r];exact⟨rfl,Nat.zero_le _,[],trivial,.inr ⟨rfl,0,rfl⟩⟩) o4.symm fun o=>?_
    simp only[evOp,rd_fst,rd_snd,dx,dy]
    rw[if_pos ⟨.inr rfl,by decide,by decide,by simp⟩];rfl
  ·exact h.elim
 ·rename_i m t1 xs t2 ys _ h1 h2
  rw[h1]at hx;rw[h2]at hy
  obtain⟨hl0,es0,ha0,dx⟩:=flat_cells_l hx
  obtain⟨hl,es,ha,dy⟩:=y_ro hy
  split at h
  ·rename_i hz
   split at h
   ·rename_i ys' hcast
    obtain⟨e1,e2⟩:=castT_eq hcast
    injection e1 with e1 e1'
    subst e1'
    subst e2
    obtain⟨v,o1,o2⟩:=out_b h
    have o2:=Option.some.inj o2
    injection o2 with o3 o4
    obtain⟨c1,rfl⟩:=apd_some o1
    have hlen:(es0.length+es.length)*b<=140737488355328:=by rw[<-ha0.length,<-ha.length];exact c1
    have hlim:(xs++ys).length<=maxLn:=by rw[List.length_append];exact lim hz.2.1 c1
    have hall:=ha0.app ha
    obtain⟨hz1,hz2,hz3⟩:=hz
    rcases dx with dx|⟨rfl,z1,dx⟩
    ·rcases dy with dy|⟨rfl,z2,dy⟩
     ·refine fin (d:=.sl m z (es0++es)) (by rw[<-o3];exact⟨rfl,hlim,_,hall,.inl (by rw[hz1])⟩) o4.symm fun o=>?_
      subst hz3
      cases q<;>(simp only[evOp,rd_fst,rd_snd,dx,dy,apM,if_true,if_false,Bool.false_eq_true];rw[if_pos ⟨hz1.symm,.inl hz1.symm,by decide,by decide,hlen⟩])
     ·refine fin (d:=.sl m z (es0++[])) (by rw[<-o3];exact⟨rfl,hlim,_,hall,.inl (by rw[hz1])⟩) o4.symm fun o=>?_
      subst hz3
      cases q<;>(simp only[evOp,rd_fst,rd_snd,dx,dy,apM,if_true,if_false,Bool.false_eq_true];rw[if_pos ⟨hz1.symm,.inr rfl,by decide,by decide,hlen⟩])
    ·simp only[List.nil_append,List.length_nil,Nat.zero_add]at hall hlen
     rcases dy with dy|⟨rfl,z2,dy⟩
     ·cases es with
      |nil=>
       refine fin (d:=.sl .nl 0 []) (by rw[<-o3];exact⟨rfl,hlim,[],hall,.inr ⟨rfl,0,rfl⟩⟩) o4.symm fun o=>?_
       simp only[evOp,rd_fst,rd_snd,dx,dy]
       rw[if_pos ⟨.inr rfl,by decide,by decide,by simp⟩];rfl
      |cons e0 es=>
       refine fin (d:=.sl (apM q) z (e0::es)) (by rw[<-o3];exact⟨rfl,hlim,_,hall,.inl (by rw[hz1,hz3])⟩) o4.symm fun o=>?_
       simp only[evOp,rd_fst,rd_snd,dx,dy]
       rw[if_pos ⟨.inl hz1.symm,by decide,by decide,hlen⟩];rfl
     ·refine fin (d:=.sl .nl 0 []) (by rw[<-o3];exact⟨rfl,hlim,[],hall,.inr ⟨rfl,0,rfl⟩⟩) o4.symm fun o=>?_
      simp only[evOp,rd_fst,rd_snd,dx,dy]
      rw[if_pos ⟨.inr rfl,by decide,by decide,by simp⟩];rfl
   ·exact h.elim
  ·exact h.elim
 ·exact h.elim
theorem opCall (hc:c.ok) (hS:RepS c s e l Y) {T:Tab} (hT:TabOk c.P T) {a:Ty} {f:Nat} {xs:List Opd} {w:W} {s':SU} (h:(evOpW T [] t a (.call f xs) s).out (some (w,s'))):SR c e l Y t (.call f xs) w s':=by
 simp only[evOpW,List.isEmpty_nil,Bool.or_true]at h
 obtain⟨h1,h2⟩:=rdLW_ok hc (xs:=xs) hS
 obtain⟨d,l',Y',g1,g2,g3⟩:=call_ok hc h2 hT h1 h
 refine⟨d,_,l',Y',g1,g2,fun B hB=>?_⟩
 simp only[evOp,rdL_eq]
 exact g3 B hB
theorem dwn1_ok {w:W} {d:D} (h:Rep2 c w d):Rep2 c w.dwn1 d.dwn1:=by
 cases w with
 |u τ x=>
  have h1:=h.1
  have h2:=h.2
  cases τ with
  |i k=>obtain⟨rfl,h3⟩:=i_d h2;exact⟨rfl,rfl,h3⟩
  |b=>obtain rfl:=b_d h2;exact⟨rfl,rfl⟩
  |s=>obtain⟨rfl,h3⟩:=s_d h2;exact⟨rfl,rfl,h3⟩
  |l m t=>
   obtain⟨hl,es,h3,h4⟩:=l_d h2
   cases m with
   |mu=>
    rcases h4 with rfl|⟨rfl,z,rfl⟩
    ·exact⟨rfl,hl,es,h3,.inl rfl⟩
    ·exact⟨rfl,hl,[],h3,.inr ⟨rfl,z,rfl⟩⟩
   |app=>
    rcases h4 with rfl|⟨rfl,z,rfl⟩
    ·exact⟨rfl,hl,es,h3,.inl rfl⟩
    ·exact⟨rfl,hl,[],h3,.inr ⟨rfl,z,rfl⟩⟩
   |ro=>
    rcases h4 with rfl|⟨rfl,z,rfl⟩
    ·exact⟨rfl,hl,es,h3,.inl rfl⟩
    ·exact⟨rfl,hl,[],h3,.inr ⟨rfl,z,rfl⟩⟩
   |nl=>
    rcases h4 with rfl|⟨rfl,z,rfl⟩
    ·exact⟨rfl,hl,es,h3,.inl rfl⟩
    ·exact⟨rfl,hl,[],h3,.inr ⟨rfl,z,rfl⟩⟩
  |fn a r=>obtain⟨f,caps,rfl,h3⟩:=fn_d h2;exact⟨rfl,f,caps,rfl,h3⟩
  |cl f r=>obtain⟨h0,cs,rfl,h3⟩:=cl_d h2;exact⟨rfl,h0,cs,rfl,h3⟩
  |_=>cases h1
 |nil=>obtain⟨z,rfl⟩:=h;exact⟨z,rfl⟩
 |np=>rw[show d= .v (.pointer none)from h];exact rfl
 |un=>trivial
 |pt b off=>cases b with
  |own b=>rw[show d= .ptr c.n b off from h];exact rfl
  |ext i=>obtain⟨r,h1,h2⟩:=h;rw[h2];exact⟨r,h1,rfl⟩
 |fp ws off=>obtain⟨q,rfl,h2⟩:=h;exact⟨q,rfl,h2⟩
 |clo f ws=>obtain⟨q,rfl,h2⟩:=h;exact⟨q,rfl,h2⟩
 |ag=>exact False.elim (by simpa[Rep2,Rep1,Rep0]using h)
 |tp=>exact False.elim (by simpa[Rep2,Rep1,Rep0]using h)
 |gd=>exact False.elim (by simpa[Rep2,Rep1,Rep0]using h)
 |lb=>exact False.elim (by simpa[Rep2,Rep1,Rep0]using h)
 |rs b τ lo n=>
  obtain⟨h0,rfl|⟨h1,z,rfl⟩⟩:=h
  ·exact⟨h0,.inl rfl⟩
  ·exact⟨h0,.inr ⟨h1,z,rfl⟩⟩
 |ep b τ i off=>obtain⟨h0,rfl⟩:=h;exact⟨h0,rfl⟩
theorem dwnA_ok {w:W} {d:D} (h:Rep4 c w d):Rep4 c (dwnW w) (dwnA d):=by
 cases w with
 |ag ws=>obtain⟨ds,rfl,h2⟩:=h;exact⟨_,rfl,h2.map fun _ _ _ q=>dwn1_ok q⟩
 |un=>exact trivial
 |tp ws=>obtain⟨ds,rfl,h2⟩:=h;exact⟨_,rfl,h2⟩
 |gd=>exact(Rep4_gd h).elim
 |_=>
  have h2:=of3 (of4 h (fun _ q=>by cases q)) (fun _ q=>by cases q)
  have k:=ag_d h2 (fun _ q=>by cases q)
  rcases k with k|k|k
  ·cases k
  ·cases k
  ·have e:dwnA d=d.dwn1:=by cases d<;>first|rfl|cases k
   rw[e];exact to4x2 (dwn1_ok h2)
theorem calf_eq {P:Caller} {t:Option Nat} {f:Nat} {xs:List Opd} {st st':S} {d:D} (h:doCall P f (rdL xs st).1 (rdL xs st).2=some (d,st')):evOp P t (.calf f xs) st=some (dwnA d,st'):=by
 simp only[evOp,h]
theorem opCalf (hc:c.ok) (hS:RepS c s e l Y) {T:Tab} (hT:TabOk c.P T) {a:Ty} {f:Nat} {xs:List Opd} {w:W} {s':SU} (h:(evOpW T [] t a (.calf f xs) s).out (some (w,s'))):SR c e l Y t (.calf f xs) w s':=by
 simp only[evOpW,List.isEmpty_nil,Bool.or_true]at h
 obtain⟨r,o1,o2⟩:=out_map h
 cases r with
 |none=>cases o2
 |some q=>
  obtain⟨w1,s1⟩:=q
  have o2:=Option.some.inj o2
  injection o2 with o3 o4
  obtain⟨h1,h2⟩:=rdLW_ok hc (xs:=xs) hS
  obtain⟨d,l',Y',g1,g2,g3⟩:=call_ok hc h2 hT h1 o1
  have o4:s1=s':=o4
  rw[o4]at g1
  exact⟨dwnA d,_,l',Y',g1,by rw[<-o3];exact dwnA_ok g2,fun B hB=>calf_eq (by rw[rdL_eq];exact g3 B hB)⟩
theorem opCv (hc:c.ok) (hS:RepS c s e l Y) {T:Tab} (hT:TabOk c.P T) {a:Ty} {x:Opd} {xs:List Opd} {w:W} {s':SU} (h:(evOpW T [] t a (.cv x xs) s).out (some (w,s'))):SR c e l Y t (.cv x xs) w s':=by
 have hx:=rdW_ok hS (act_nil e) x
 obtain⟨h1,h2⟩:=rdLW_ok hc (xs:=xs) hS
 simp only[evOpW]at h
 split at h
 ·rename_i f caps _ hq
  rw[hq]at hx
  obtain⟨cs,dx,m1,m2⟩:=hx
  obtain⟨d,l',Y',g1,g2,g3⟩:=call_ok hc h2 hT (h1.app (m1.mono fun _ _ _ q=>to4x2 (to2 q))) h
  refine⟨d,_,l',Y',g1,g2,fun B hB=>?_⟩
  simp only[evOp,rd_fst,dx,rdL_eq]
  exact g3 B hB
 ·rename_i a r φ _ hq
  rw[hq]at hx
  obtain⟨f,caps,dx,_,hφ⟩:=fn_d hx.2
  split at h
  ·rename_i y hy hfo
   simp only[Bool.and_eq_true]at hfo
   obtain⟨z,o1,o2⟩:=out_b h
   have o2:=Option.some.inj o2
   injection o2 with o3 o4
   obtain⟨k1,k2⟩:=tupT_ok hy h1
   obtain⟨d,q,r1,r2,r3⟩:=hφ y _ (RepL.fo hfo.1 k2) z o1 (c.n+1) fun x hx=>Nat.lt_succ_of_lt (hc.fd x hx).1
   refine⟨d,_,l,Y,by rw[<-o4];exact h2,?_,fun B hB=>?_⟩
   ·rw[<-o3]
    exact resW_ok hfo.2 ⟨q,r1,RepL.up (fun x hx=>by cases hx) r2⟩
   ·simp only[evOp,rd_fst,dx,rdL_eq,doCall]
    rw[r3 (upd c.rg Y B++[l]) (by rw[List.length_append,fam_len hB Y];rfl) (fun x hx=>by
     obtain⟨l',cs,a1,a2,a3,a4⟩:=Sat.upd (rs:=c.rg) (Y:=Y) (fun x hx=>(hc.fd x hx).2) hB.sat x hx
     exact⟨l',cs,by rw[List.getElem?_append_left (getq_lt a1)];exact a1,a2,a3,a4⟩)]
    simp only[unsnoc_app]
    rfl
  ·exact h.elim
 ·exact h.elim
def cz (P:Caller):Cx:=⟨P,[],0,[],fun _=>[]⟩
theorem cz_ok (P:Caller):(cz P).ok:=⟨(fun r h=>by cases h),(fun i j r q h=>by simp[cz]at h),(fun x h=>by cases h)⟩
theorem snp1_rep (hS:RepS c s e l Y) {w w':W} {q:List (Int×Int)} {d:D} (h:Rep4 c w d) (hs:snpW1 s w=some (q,w')) (hq:∀p∈q,p.1=p.2):∃d',Rep2 (cz c.P) w' d'∧(∀ws,w'≠ .ag ws)∧d.aggB=false∧∀o:List Bx,o.length=c.n->d.snp1 ⟨e,l,o⟩=some d':=by
 unfold snpW1 at hs
 split at hs
 ·rename_i k x
  have:=Option.some.inj hs;injection this with h1 h2;subst h1 h2
  obtain⟨rfl,h3⟩:=i_d h.2
  exact⟨_,⟨rfl,rfl,h3⟩,(fun ws q=>by cases q),rfl,fun o ho=>rfl⟩
 ·rename_i x
  have:=Option.some.inj hs;injection this with h1 h2;subst h1 h2
  obtain rfl:=b_d h.2
  exact⟨_,⟨rfl,rfl⟩,(fun ws q=>by cases q),rfl,fun o ho=>rfl⟩
 ·rename_i x
  have:=Option.some.inj hs;injection this with h1 h2;subst h1 h2
  obtain⟨rfl,h3⟩:=s_d h.2
  exact⟨_,⟨rfl,rfl,h3⟩,(fun ws q=>by cases q),rfl,fun o ho=>rfl⟩
 ·rename_i m t x
  split at hs
  ·rename_i hk
   have:=Option.some.inj hs;injection this with h1 h2;subst h1 h2
   obtain⟨hl,es,h3,h4⟩:=flat_cells_l h
   have h3':All2 (fun y e=>RepL c.P t [] y [e]) x es:=h3.mono fun _ _ _ q=>RepL.fo hk.1 q
   rcases h4 with rfl|⟨rfl,z,rfl⟩
   ·refine⟨.sl .ro (csz t) es,⟨rfl,hl,es,h3',.inl rfl⟩,(fun ws q=>by cases q),rfl,fun o ho=>?_⟩
    cases m with
    |nl=>exact absurd rfl hk.2
    |_=>rfl
   ·exact⟨.sl .nl z [],⟨rfl,hl,[],h3',.inr ⟨rfl,z,rfl⟩⟩,(fun ws q=>by cases q),rfl,fun o ho=>rfl⟩
  ·cases hs
 ·have:=Option.some.inj hs;injection this with h1 h2;subst h1 h2
  obtain⟨z,rfl⟩:=h
  exact⟨.sl .nl z [],⟨z,rfl⟩,(fun ws q=>by cases q),rfl,fun o ho=>rfl⟩
 ·rename_i b τ n
  split at hs
  ·rename_i τ' m xs0 hb
   split at hs
   ·rename_i xs hcast
    split at hs
    ·rename_i hfo
     have:=Option.some.inj hs;injection this with h1 h2;subst h1 h2
     obtain⟨e1,e2⟩:=mu_cast hcast
     subst e1
     subst e2
     have hnm:n=m:=hq (n,m) (by simp)
     obtain⟨⟨n0,n1,_⟩,hd⟩:=(show Rep4 c (.rs b τ' none n) d from h)
     obtain⟨⟨hk,hv⟩,hmk,hlen,hl,es,ha,hlk⟩:=(show BRep c [.lb τ' m xs0] (lk b l)from hS.box b _ hb)
     have ha':All2 (fun y e=>RepL c.P τ' [] y [e]) xs0 es:=ha.mono fun _ _ _ q=>RepL.fo hfo q
     have hel:=ha.length
     rcases hd with rfl|⟨h0,z,rfl⟩
     ·refine⟨.sl .ro (csz τ') es,⟨rfl,hl,es,ha',.inl rfl⟩,(fun ws q=>by cases q),rfl,fun o ho=>?_⟩
      simp only[D.snp1,Option.getD_none,Int.toNat_zero,Nat.zero_mul]
      have hn:n.toNat=es.length:=by omega
      by_cases hz:n.toNat=0
      ·rw[if_pos hz]
       have:es=[]:=List.eq_nil_of_length_eq_zero (by omega)
       rw[this]
      ·rw[if_neg hz,bx_own ho]
       rcases hlk with hlk|⟨h0,_⟩
       ·have hrf:(es.flatMap D.cells).all D.rf1=true:=by
         refine List.all_eq_true.2 fun d hd=>?_
         obtain⟨e,he,hd⟩:=List.mem_flatMap.1 hd
         exact List.all_eq_true.1 (List.all_eq_true.1 (els_rf hv hk ha) e he) d hd
        have hfl:=flat_len (xs:=es) (z:=csz τ') fun i d hi=>els_len hv ha d (List.mem_of_getElem? hi)
        rw[hlk,Option.bind_some,if_pos ⟨by rw[hfl,hn];omega,hrf⟩,hn,List.drop_zero,chunks_flat (els_mk hv hk hmk ha)]
       ·exact absurd (by rw[hn,h0];rfl) hz
     ·have he0:es=[]:=List.eq_nil_of_length_eq_zero (by omega)
      exact⟨.sl .nl z [],⟨rfl,hl,es,ha',.inr ⟨he0,z,rfl⟩⟩,(fun ws q=>by cases q),rfl,fun o ho=>rfl⟩
    ·cases hs
   ·cases hs
  ·cases hs
 ·cases hs
theorem snpL_rep (hS:RepS c s e l Y):∀{ws ws':List W} {q:List (Int×Int)} {ds:List D},All2 (Rep2 c) ws ds->snpWL s ws=some (q,ws')->(∀p∈q,p.1=p.2)->∃ds',All2 (Rep2 (cz c.P)) ws' ds'∧∀o:List Bx,o.length=c.n->snpL ⟨e,l,o⟩ ds=some ds'
 |[],ws',q,ds,h,hs,hq=>by
  have:=Option.some.inj hs;injection this with h1 h2;subst h1 h2
  obtain rfl:=h.nil_l
  exact⟨[],trivial,fun o ho=>rfl⟩
 |w::ws,ws',q,ds,h,hs,hq=>by
  obtain⟨d,r,rfl,a1,a2⟩:=h.cons_l
  simp only[snpWL]at hs
  split at hs
  ·rename_i p1 p2 k1 k2
   have:=Option.some.inj hs;injection this with h1 h2;subst h1 h2
   obtain⟨d',g1,_,_,g2⟩:=snp1_rep hS (to4x2 a1) (q:=p1.1) (w':=p1.2) k1 fun p hp=>hq p (by simp[hp])
   obtain⟨ds',g3,g4⟩:=snpL_rep hS a2 (q:=p2.1) (ws':=p2.2) k2 fun p hp=>hq p (by simp[hp])
   exact⟨d'::ds',⟨g1,g3⟩,fun o ho=>by simp only[snpL,g2 o ho,g4 o ho]⟩
  ·cases hs
theorem snp_rep (hS:RepS c s e l Y) {w w':W} {q:List (Int×Int)} {d:D} (h:Rep4 c w d) (hs:snpW s w=some (q,w')) (hq:∀p∈q,p.1=p.2):∃d',Rep3 (cz c.P) w' d'∧∀o:List Bx,o.length=c.n->d.snp ⟨e,l,o⟩=some d':=by
 by_cases hw:∃ws,w= .ag ws
 ·obtain⟨ws,rfl⟩:=hw
  simp only[snpW]at hs
  obtain⟨p,k1,k2⟩:=Option.map_eq_some_iff.1 hs
  injection k2 with h1 h2
  subst h1 h2
  obtain⟨cs,rfl,h3⟩:=h
  obtain⟨ds',g3,g4⟩:=snpL_rep hS h3 (q:=p.1) (ws':=p.2) k1 hq
  exact⟨.agg ds',⟨ds',rfl,g3⟩,fun o ho=>by simp only[D.snp,g4 o ho];rfl⟩
 ·have hn:snpW s w=snpW1 s w:=by
   cases w with
   |ag ws=>exact absurd ⟨ws,rfl⟩ hw
   |_=>rfl
  rw[hn]at hs
  obtain⟨d',g1,g2,g3,g4⟩:=snp1_rep hS h hs hq
  refine⟨d',to3 g1,fun o ho=>?_⟩
  rw[<-g4 o ho]
  cases d<;>first|rfl|cases g3
theorem rdRW_rep (hS:RepS c s e l Y) (x:Opd):(∃p b w,rdRW x s= .gd p b w)∨∀o,Rep4 c (rdRW x s) (rdR x ⟨e,l,o⟩):=by
 cases x with
 |t n=>
  have h:=hS.env n
  by_cases hg:∃p b w,getW n s.e= .gd p b w
  ·exact .inl hg
  ·refine .inr fun o=>?_
   have:∀{w:W} {d:D},(¬∃p b v,w= .gd p b v)->Rep5 c e w d->Rep4 c w d:=fun{w d} hg h=>by
    cases w with
    |gd p b v=>exact absurd ⟨p,b,v,rfl⟩ hg
    |_=>exact h
   exact this hg h
 |m n=>exact .inr fun o=>by have:=rdW_ok hS (act_nil e) (.m n);rw[<-rd_fst (.m n) e l o]at this;exact this
 |c v=>exact .inr fun o=>by have:=rdW_ok hS (act_nil e) (.c v);rw[<-rd_fst (.c v) e l o]at this;exact this
 |cn=>exact .inr fun o=>by have:=rdW_ok hS (act_nil e) .cn;rw[<-rd_fst .cn e l o]at this;exact this
 |f n=>exact .inr fun o=>by have:=rdW_ok hS (act_nil e) (.f n);rw[<-rd_fst (.f n) e l o]at this;exact this
theorem rdR_o (x:Opd) (o o':List Bx):rdR x ⟨e,l,o⟩=rdR x ⟨e,l,o'⟩:=by cases x<;>rfl
theorem snpA_rep (hS:RepS c s e l Y):∀{xs:List Opd} {ws':List W} {q:List (Int×Int)},snpAW s xs=some (q,ws')->(∀p∈q,p.1=p.2)->∃ds',All2 (Rep3 (cz c.P)) ws' ds'∧∀o:List Bx,o.length=c.n->snpA ⟨e,l,o⟩ xs=some ds'
 |[],ws',q,hs,hq=>by
  have:=Option.some.inj hs;injection this with h1 h2;subst h1 h2
  exact⟨[],trivial,fun o ho=>rfl⟩
 |x::xs,ws',q,hs,hq=>by
  simp only[snpAW]at hs
  split at hs
  ·rename_i p1 p2 k1 k2
   have:=Option.some.inj hs;injection this with h1 h2;subst h1 h2
   have hx:∀o,Rep4 c (rdRW x s) (rdR x ⟨e,l,o⟩):=by
    rcases rdRW_rep hS x with⟨p,b,w,hg⟩|h
    ·rw[hg]at k1;cases k1
    ·exact h
   obtain⟨d',g1,g2⟩:=snp_rep hS (hx []) (q:=p1.1) (w':=p1.2) k1 fun p hp=>hq p (by simp[hp])
   obtain⟨ds',g3,g4⟩:=snpA_rep hS (q:=p2.1) (ws':=p2.2) k2 fun p hp=>hq p (by simp[hp])
   exact⟨d'::ds',⟨g1,g3⟩,fun o ho=>by simp only[snpA,rdR_o x o [],g2 o ho,g4 o ho]⟩
  ·cases hs
theorem chkL_some {α:Type} {o:Option α} {y:α}:∀{q:List (Int×Int)},chkL q o=some y->(∀p∈q,p.1=p.2)∧o=some y
 |[],h=>⟨fun p hp=>(by cases hp),h⟩
 |(a,b)::q,h=>by
  obtain⟨u,h1,h2⟩:=Option.bind_eq_some_iff.1 h
  obtain⟨h3,h4⟩:=chkL_some h2
  refine⟨fun p hp=>?_,h4⟩
  rcases List.mem_cons.1 hp with rfl|hp
  ·unfold eqI at h1
   split at h1
   ·assumption
   ·cases h1
  ·exact h3 p hp
theorem argl_v {c':Cx}:∀{ak:List AK} {ws:List W} {ds:List D},(∀a∈ak,∃τ,a= .v τ)->ak.length=ws.length->All2 (Rep3 c') ws ds->ArgL c' ak ws ds [] []
 |[],[],ds,_,_,ha=>by obtain rfl:=ha.nil_l;trivial
 |[],_::_,ds,_,hl,ha=>by simp at hl
 |a::ak,[],ds,_,hl,ha=>by simp at hl
 |a::ak,w::ws,ds,hv,hl,ha=>by
  obtain⟨d,q,rfl,a1,a2⟩:=ha.cons_l
  obtain⟨τ,rfl⟩:=hv a (by simp)
  exact⟨a1,argl_v (fun b hb=>hv b (by simp[hb])) (by simpa using hl) a2⟩
theorem xs_v:∀{ak:List AK},(∀a∈ak,∃τ,a= .v τ)->xsOf ak=[]
 |[],_=>rfl
 |a::ak,hv=>by
  obtain⟨τ,rfl⟩:=hv a (by simp)
  exact xs_v (ak:=ak) fun b hb=>hv b (by simp[hb])
theorem opPcal (hc:c.ok) (hS:RepS c s e l Y) {T:Tab} (hT:TabOk c.P T) {a:Ty} {f:Nat} {xs:List Opd} {w:W} {s':SU} (h:(evOpW T [] t a (.pcal f xs) s).out (some (w,s'))):SR c e l Y t (.pcal f xs) w s':=by
 simp only[evOpW]at h
 split at h
 ·rename_i q ws tf _ hsn htf
  split at h
  ·rename_i av hk ha
   simp only[Bool.and_eq_true]at hk
   obtain⟨⟨⟨k1,k2⟩,k3⟩,k4⟩:=hk
   obtain⟨y,o1,o2⟩:=out_b h
   injection Option.some.inj o2 with p2 p3
   subst p2 p3
   obtain⟨hq,hy⟩:=chkL_some o1
   obtain⟨ds,g1,g2⟩:=snpA_rep hS hsn hq
   have hv:∀a∈tf.sg.ak,∃τ,a= .v τ:=fun a h=>by
    simp only[okQ,htf]at k1
    have:=List.all_eq_true.1 k1 a h
    cases a with
    |v τ=>exact⟨τ,rfl⟩
    |_=>cases this
   have harg:=argWs_ok k2 (argl_v hv (nbeq.1 k4) g1) ha
   obtain⟨d,Y',r1,r2,r3⟩:=(hT f tf htf).1 [] 0 [] (fun _=>[]) [] (cz_ok c.P) (fun i r ys h=>by simp at h) av ds harg y hy
   have hrun:c.P f ds []=some (d,[]):=by
    have:=r3 [] ⟨rfl,Sat.nil [],(fun r h=>by cases h),(fun i r h=>by simp at h)⟩ (fun i r ys h=>by simp at h)
    rw[this]
    cases Y'<;>rfl
   have key:∀{res:Ty} {xk:List Ty} {z:(oTy res xk).T},xk=[]->scal res=true->Rep4 (c0 c.P) (outW res xk z).1 d->∃v,d= .v v∧Rep4 c (outW res xk z).1 d:=by
    intro res xk z hx hsc hrep
    subst hx
    cases res with
    |i k=>obtain⟨rfl,h3⟩:=i_d hrep.2;exact⟨_,rfl,rfl,rfl,h3⟩
    |b=>obtain rfl:=b_d hrep.2;exact⟨_,rfl,rfl,rfl⟩
    |s=>obtain⟨rfl,h3⟩:=s_d hrep.2;exact⟨_,rfl,rfl,rfl,h3⟩
    |_=>cases hsc
   obtain⟨v,hd,hrep⟩:=key (xs_v hv) k3 r1
   subst hd
   refine⟨.v v,e,l,Y,hS,hrep,fun B hB=>?_⟩
   simp only[evOp,g2 _ (fam_len hB Y),hrun]
  ·exact h.elim
 ·exact h.elim
theorem op_ok (hc:c.ok) (hS:RepS c s e l Y) {T:Tab} (hT:TabOk c.P T) {a:Ty} {op:Op} {w:W} {s':SU} (h:(evOpW T [] t a op s).out (some (w,s'))):SR c e l Y t op w s':=by
 cases hg:gOp op with
 |true=>
  obtain⟨e1,h2⟩:=opG hc hS (act_nil e) hg h
  subst e1
  exact GR.sr hS h2
 |false=>
  cases op with
  |mv x=>exact opM hc hS h
  |ext x i=>exact opE hc hS h
  |al z=>exact opAl hc hS h
  |bx x=>exact opBx hc hS h
  |ldm q x=>exact opLdm hc hS h
  |st n x y=>exact opSt hc hS h
  |call f xs=>exact opCall hc hS hT h
  |calf f xs=>exact opCalf hc hS hT h
  |cv x xs=>exact opCv hc hS hT h
  |ap q z b x y=>exact opAp hc hS h
  |cpy x y=>exact opCpy hc hS h
  |pcal f xs=>exact opPcal hc hS hT h
  |six x y=>simp only[evOpW]at h;exact False.elim h
  |bxo u z=>simp only[evOpW]at h;exact False.elim h
  |mkm=>simp only[evOpW]at h;exact False.elim h
  |mkn _=>simp only[evOpW]at h;exact False.elim h
  |mlk _ _=>simp only[evOpW]at h;exact False.elim h
  |mup _ _=>simp only[evOpW]at h;exact False.elim h
  |_=>cases hg
end
end Go.Proofs.Ytfopbiiffiickaa.Ev.U
