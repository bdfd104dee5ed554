/- Steps in which nothing happens, over typed values. Conditions: none. -/
import Derived.Test.YtfopbiiffiickaaUb
import Derived.Test.YtfopbiiffiickaaEvI
set_option linter.all false
namespace Go.Proofs.Ytfopbiiffiickaa.Ev.U
open Go
section
variable {c:Cx} {e:Env} {l:Bx} {Y:List (List D)} {s:SU}
theorem undef_nb (b:Bool):(.v undef:D)≠ .v (.bool b):=by
 intro h
 injection h with h
 unfold undef at h
 cases h
theorem cnd_iff {x w:Bool}:cnd x w=true↔x=w:=by cases x<;>cases w<;>decide
theorem path_ok (hS:RepS c s e l Y) {g:Nat} {want:Bool} {p:Path} {b:Bool} (h:pathOf g want s=some (p,b)):p≠[]∧(b=true↔act p e)∧
  ((act p e->get g e= .v (.bool want))∧(¬ act p e->get g e= .v (.bool !want)∨get g e= .v undef)):=by
 have hg:=hS.env g
 unfold pathOf at h
 split at h
 ·rename_i x hx
  rw[hx]at hg
  have hd:get g e= .v (.bool x):=b_d hg.2
  have:=Option.some.inj h
  injection this with h1 h2
  subst h1 h2
  have ha:act [(g,want)] e↔x=want:=by
   constructor
   ·intro q
    have:=q (g,want) (by simp)
    rw[hd]at this
    injection this with this
    injection this
   ·intro q y hy
    have:y=(g,want):=by simpa using hy
    subst this
    rw[hd,q]
  refine⟨by simp,by rw[cnd_iff,ha],fun q=>by rw[hd,ha.1 q],fun q=>.inl ?_⟩
  rw[hd]
  have:x≠want:=fun k=>q (ha.2 k)
  cases x<;>cases want<;>first|rfl|exact absurd rfl this
 ·rename_i p0 c0 x hx
  rw[hx]at hg
  obtain⟨g1,g2,g3⟩:=hg
  have:=Option.some.inj h
  injection this with h1 h2
  subst h1 h2
  have ha:act ((g,want)::p0) e↔act p0 e∧x=want:=by
   constructor
   ·intro q
    have q0:act p0 e:=fun y hy=>q y (by simp[hy])
    have q1:=q (g,want) (by simp)
    rw[b_d (g2 q0).2]at q1
    injection q1 with q1
    injection q1 with q1
    exact⟨q0,q1⟩
   ·intro⟨q0,q1⟩
    exact act_cons q0 (by rw[b_d (g2 q0).2,q1])
  refine⟨by simp,by rw[Bool.and_eq_true,cnd_iff,ha,g1],fun q=>by rw[b_d (g2 (ha.1 q).1).2,(ha.1 q).2],fun q=>?_⟩
  by_cases q0:act p0 e
  ·left
   rw[b_d (g2 q0).2]
   have:x≠want:=fun k=>q (ha.2 ⟨q0,k⟩)
   cases x<;>cases want<;>first|rfl|exact absurd rfl this
  ·exact .inr (g3 q0)
 ·cases h
theorem stp_act {q:Stp} {g:Nat} {want:Bool} (hg:q.g=some (g,want)) {st:S} (h:get g st.e= .v (.bool want)):evStp c.P q st=(evOp c.P q.t q.op st).map fun r=>putO q.t r.1 r.2:=by
 unfold evStp
 rw[hg]
 simp only[h,if_true]
theorem stp_not {q:Stp} {g:Nat} {want:Bool} (hg:q.g=some (g,want)) {st:S} (h:get g st.e= .v (.bool !want)∨get g st.e= .v undef):evStp c.P q st=some (putO q.t (.v undef) st):=by
 unfold evStp
 rw[hg]
 rcases h with h|h
 ·simp only[h]
  rw[if_neg (by cases want<;>simp)]
 ·simp only[h]
  split
  ·rename_i b hb
   exact absurd hb (undef_nb b)
  ·rfl
  ·rename_i h1 h2;exact absurd rfl (h2 undef)
theorem put_gd (hS:RepS c s e l Y) {t:Nat} {p:Path} {b:Bool} {w:W} {d:D} (hn:namesP t p=false) (hb:b=true↔act p e) (h1:act p e->Rep4 c w d) (h2:¬ act p e->d= .v undef):RepS c (putW t (.gd p b w) s) ((t,d)::e) l Y:=
 ⟨env_put hS.env ⟨hb.trans (act_put hn).symm,fun q=>h1 ((act_put hn).1 q),fun q=>h2 fun k=>q ((act_put hn).2 k)⟩,hS.box,hS.nm,hS.ext,hS.wr,hS.len,hS.ro⟩
theorem opA (hc:c.ok) (hS:RepS c s e l Y) {T:Tab} (hT:TabOk c.P T) {p:Path} (hp:act p e) (hne:p≠[]) {t:Option Nat} {a:Ty} {op:Op} (hk:(okG op||okC T op)=true) (hm:op.ms=none) {w:W} {s':SU} (h:(evOpW T p t a op s).out (some (w,s'))):
  ∃d l' Y',RepS c s e l' Y'∧Rep4 c w d∧∀B,Fam c B->evOp c.P t op ⟨e,l,upd c.rg Y B⟩=some (d,⟨e,l',upd c.rg Y' B⟩):=by
 cases hg:gOp op with
 |true=>
  obtain⟨e1,d,h1,h2⟩:=opG (t:=t) hc hS hp hg h
  exact⟨d,l,Y,hS,h1,h2⟩
 |false=>
  have callq:∀{f:Nat} {xs:List Opd} {w:W} {s':SU},xs.all Opd.ot=true->(∃tf,T f=some tf∧xsOf tf.sg.ak=[])->(callW T f (rdLW p xs s).1 (rdLW p xs s).2).out (some (w,s'))->
    ∃d l' Y',RepS c s e l' Y'∧Rep4 c w d∧∀B,Fam c B->doCall c.P f (rdLE xs e).1 ⟨(rdLE xs e).2,l,upd c.rg Y B⟩=some (d,⟨e,l',upd c.rg Y' B⟩):=by
   intro f xs w s' hot htf hq
   rw[rdLW_ot hot]at hq
   rw[rdLE_ot hot]
   obtain⟨d,l',Y',g1,g2,g3⟩:=call_ok hc hS hT (rdsW_ok hS hp xs) hq
   have hs:s'=s:=by
    obtain⟨tf,h1,h2⟩:=htf
    have back:∀{ak:List AK} {ws ys:List W} {s1:SU},xsOf ak=[]->backW ak ws ys s=some s1->s1=s:=by
     intro ak
     induction ak with
     |nil=>intro ws ys s1 _ h;simp only[backW]at h;exact(Option.some.inj h).symm
     |cons a ak ih=>
      intro ws ys s1 hx h
      cases a with
      |x r=>cases hx
      |v τ=>cases ws with
       |nil=>simp[backW]at h
       |cons w ws=>cases ys with
        |nil=>simp only[backW]at h;exact ih hx h
        |cons=>simp only[backW]at h;exact ih hx h
      |o r=>cases ws with
       |nil=>simp[backW]at h
       |cons w ws=>cases ys with
        |nil=>simp only[backW]at h;exact ih hx h
        |cons=>simp only[backW]at h;exact ih hx h
    unfold callW at hq
    rw[h1]at hq
    cases tf with
    |par sg g=>
     simp only at hq
     split at hq
     ·obtain⟨y,_,o2⟩:=out_b hq
      obtain⟨s1,b1,b2⟩:=Option.map_eq_some_iff.1 o2
      injection b2 with b2 b3
      rw[<-b3];exact back h2 b1
     ·exact hq.elim
    |tot sg g=>
     simp only at hq
     split at hq
     ·have o2:=out_r hq
      obtain⟨s1,b1,b2⟩:=Option.map_eq_some_iff.1 o2
      injection b2 with b2 b3
      rw[<-b3];exact back h2 b1
     ·exact hq.elim
    |gen a r g=>exact hq.elim
   subst hs
   exact⟨d,l',Y',g1,g2,g3⟩
  have pe:p.isEmpty=false:=by cases p with|nil=>exact absurd rfl hne|cons=>rfl
  cases op with
  |call f xs=>
   have htf:∃tf,T f=some tf∧xsOf tf.sg.ak=[]:=by
    simp only[okG,okC,Bool.false_or]at hk
    split at hk
    ·rename_i tf htf;exact⟨tf,htf,by simpa using hk⟩
    ·cases hk
   simp only[evOpW,pe,Bool.or_false]at h
   split at h
   ·rename_i hot
    obtain⟨d,l',Y',g1,g2,g3⟩:=callq hot htf h
    exact⟨d,l',Y',g1,g2,fun B hB=>by simp only[evOp,rdL_eq];exact g3 B hB⟩
   ·exact h.elim
  |calf f xs=>
   have htf:∃tf,T f=some tf∧xsOf tf.sg.ak=[]:=by
    simp only[okG,okC,Bool.false_or]at hk
    split at hk
    ·rename_i tf htf;exact⟨tf,htf,by simpa using hk⟩
    ·cases hk
   simp only[evOpW,pe,Bool.or_false]at h
   split at h
   ·rename_i hot
    obtain⟨r,o1,o2⟩:=out_map h
    cases r with
    |none=>cases o2
    |some q=>
     obtain⟨w1,s1⟩:=q
     have o2:=Option.some.inj o2
     injection o2 with o3 o4
     obtain⟨d,l',Y',g1,g2,g3⟩:=callq hot htf o1
     exact⟨dwnA d,l',Y',g1,by rw[<-o3];exact dwnA_ok g2,fun B hB=>calf_eq (by rw[rdL_eq];exact g3 B hB)⟩
   ·exact h.elim
  |ext x i=>
   cases x with
   |m n=>cases p with
    |nil=>exact absurd rfl hne
    |cons=>exact h.elim
   |_=>cases hg
  |mv x=>cases x<;>first|(cases hg;done)|(simp[Op.ms,Opd.ms]at hm;done)
  |_=>first|(cases hg;done)|(simp[okG,okC]at hk;done)
theorem out_mapO {m:Cm (Option (W×SU))} {g:W×SU->SU} {s':SU} (h:(m.map fun r=>r.map g).out (some s')):∃r,m.out (some r)∧g r=s':=by
 obtain⟨r,o1,o2⟩:=out_map h
 cases r with
 |none=>cases o2
 |some r=>exact⟨r,o1,Option.some.inj o2⟩
theorem step_cases {T:Tab} {q:TStp} {s':SU} (h:(stepW T q s).out (some s')):(q.g=none∧∃w s1,(evOpW T [] q.t q.a q.op s).out (some (w,s1))∧s'=putWO q.t w s1)∨
  (∃g want p b t,q.g=some (g,want)∧pathOf g want s=some (p,b)∧q.t=some t∧(okG q.op||okC T q.op)=true∧q.op.ms=none∧namesP t p=false∧∃w,s'=putW t (.gd p b w) s∧(b=true->∃s1,(evOpW T p q.t q.a q.op s).out (some (w,s1)))):=by
 unfold stepW at h
 split at h
 ·rename_i hg
  obtain⟨r,o1,o2⟩:=out_mapO h
  exact .inl ⟨hg,r.1,r.2,o1,o2.symm⟩
 ·rename_i g want hg
  split at h
  ·rename_i p b hp hk
   simp only[Bool.and_eq_true,Option.isNone_iff_eq_none]at hk
   cases hqt:q.t with
   |none=>rw[hqt]at h;exact h.elim
   |some t=>
    rw[hqt]at h
    simp only at h
    cases hn:namesP t p with
    |true=>rw[hn]at h;exact h.elim
    |false=>
     rw[hn,cond_false]at h
     refine .inr ⟨g,want,p,b,t,hg,hp,rfl,hk.1,hk.2,hn,?_⟩
     split at h
     ·exact h.elim
     ·rename_i r hr
      have h:=out_r h
      obtain⟨r',k1,k2⟩:=Option.map_eq_some_iff.1 h
      refine⟨r'.1,k2.symm,fun _=>⟨r'.2,?_⟩⟩
      rw[hr,k1];rfl
     ·rename_i τ o d k hr
      obtain⟨x,o1,o2⟩:=out_b h
      obtain⟨r',k1,k2⟩:=Option.map_eq_some_iff.1 o2
      refine⟨r'.1,k2.symm,fun hb=>⟨r'.2,?_⟩⟩
      rw[hr]
      rw[if_pos hb]at o1
      exact⟨x,o1,k1⟩
     ·exact h.elim
  ·exact h.elim
theorem step_ok (hc:c.ok) (hS:RepS c s e l Y) {T:Tab} (hT:TabOk c.P T) {q:TStp} {s':SU} (h:(stepW T q s).out (some s')):∃e' l' Y',RepS c s' e' l' Y'∧∀B,Fam c B->evStp c.P q.er ⟨e,l,upd c.rg Y B⟩=some ⟨e',l',upd c.rg Y' B⟩:=by
 rcases step_cases h with⟨hg,w,s1,h1,rfl⟩|⟨g,want,p,b,t,hg,hp,hqt,hk,hm,hn,w,rfl,h1⟩
 ·obtain⟨d,e',l',Y',g1,g2,g3⟩:=op_ok (t:=q.t) hc hS hT h1
  have e1:∀o,Ev.putO q.t d ⟨e',l',o⟩=⟨(match q.t with|some t=>(t,d)::e'|none=>e'),l',o⟩:=fun o=>by cases q.t<;>rfl
  refine⟨(match q.t with|some t=>(t,d)::e'|none=>e'),l',Y',?_,fun B hB=>?_⟩
  ·cases hq:q.t with
   |none=>exact g1
   |some t=>exact g1.put g2
  ·unfold evStp
   rw[show q.er.g=none from hg]
   simp only
   rw[show evOp c.P q.er.t q.er.op ⟨e,l,upd c.rg Y B⟩=some (d,⟨e',l',upd c.rg Y' B⟩)from g3 B hB]
   exact congrArg some (e1 _)
 ·obtain⟨p1,p2,p3,p4⟩:=path_ok hS hp
  by_cases ha:act p e
  ·obtain⟨s1,h1⟩:=h1 (p2.2 ha)
   obtain⟨d,l',Y',g1,g2,g3⟩:=opA hc hS hT ha p1 hk hm h1
   refine⟨(t,d)::e,l',Y',put_gd g1 hn p2 (fun _=>g2) (fun k=>absurd ha k),fun B hB=>?_⟩
   rw[stp_act (c:=c) (q:=q.er) hg (p3 ha),show evOp c.P q.er.t q.er.op ⟨e,l,upd c.rg Y B⟩=some (d,⟨e,l',upd c.rg Y' B⟩)from g3 B hB]
   rw[show q.er.t=some t from hqt];rfl
  ·refine⟨(t,.v undef)::e,l,Y,put_gd hS hn p2 (fun k=>absurd k ha) (fun _=>rfl),fun B hB=>?_⟩
   rw[stp_not (c:=c) (q:=q.er) hg (p4 ha),show q.er.t=some t from hqt];rfl
theorem evS_ok (hc:c.ok) {T:Tab} (hT:TabOk c.P T) {ρ:Type} {K:SU->Option ρ} {ans:ρ}:∀{L:List TStp} {s:SU} {e:Env} {l:Bx} {Y:List (List D)},RepS c s e l Y->evS T L s K=some ans->∃s' e' l' Y',RepS c s' e' l' Y'∧K s'=some ans∧∀B,Fam c B->evOps c.P (L.map TStp.er) ⟨e,l,upd c.rg Y B⟩=some ⟨e',l',upd c.rg Y' B⟩
 |[],s,e,l,Y,hS,h=>⟨s,e,l,Y,hS,h,fun B hB=>rfl⟩
 |q::r,s,e,l,Y,hS,h=>by
  have key:∃s1,(stepW T q s).out (some s1)∧evS T r s1 K=some ans:=by
   unfold evS at h
   split at h
   ·cases h
   ·cases h
   ·rename_i s1 hs;exact⟨s1,by rw[hs];rfl,h⟩
   ·rename_i τ o d k hs
    obtain⟨x,h1,h2⟩:=Option.bind_eq_some_iff.1 h
    split at h2
    ·rename_i s1 hk;exact⟨s1,by rw[hs];exact⟨x,h1,hk⟩,h2⟩
    ·cases h2
  obtain⟨s1,h1,h2⟩:=key
  obtain⟨e1,l1,Y1,g1,g2⟩:=step_ok hc hS hT h1
  obtain⟨s',e',l',Y',k1,k2,k3⟩:=evS_ok hc hT g1 h2
  refine⟨s',e',l',Y',k1,k2,fun B hB=>?_⟩
  simp only[List.map_cons,evOps,g2 B hB,Option.bind_some]
  exact k3 B hB
end
end Go.Proofs.Ytfopbiiffiickaa.Ev.U
namespace Go.Proofs.Ytfopbiiffiickaa.Ev.U
open Go
section
variable {c:Cx} {e:Env} {l:Bx} {Y:List (List D)} {s:SU}
def boxP (c:Cx):PB->Option (Nat×Nat)
 | .own b=>some (c.n,b)
 | .ext i=>(c.rg[i]?).map fun r=>(r.f,r.b)
def wrC (c:Cx):PB->Prop
 | .own _=>True
 | .ext i=>∃r,c.rg[i]? =some r∧r.w=true
def BaR (c:Cx) (i:BaW) (a:Ba):Prop:=∀x,a.loc c.n=some x->∃pb,boxP c pb=some x∧((i= .rd pb∧a.w=false)∨(i= .wr pb∧wrC c pb))
theorem BaR_no {i:BaW}:BaR c i .no:=fun x h=>by cases h
theorem boxP_ne (hc:c.ok) {p q:PB} {x y:Nat×Nat} (hp:boxP c p=some x) (hq:boxP c q=some y) (hne:p≠q) (hw:wrC c p∨wrC c q):x≠y:=by
 cases p with
 |own b=>
  have:=Option.some.inj hp
  subst this
  cases q with
  |own b'=>
   have:=Option.some.inj hq
   subst this
   intro h
   injection h with h1 h2
   exact hne (by rw[h2])
  |ext i=>
   obtain⟨r,h1,rfl⟩:=Option.map_eq_some_iff.1 hq
   intro h
   injection h with h3 h4
   have:=hc.lt r (List.mem_of_getElem? h1)
   omega
 |ext i=>
  obtain⟨r,h1,rfl⟩:=Option.map_eq_some_iff.1 hp
  cases q with
  |own b'=>
   have:=Option.some.inj hq
   subst this
   intro h
   injection h with h3 h4
   have:=hc.lt r (List.mem_of_getElem? h1)
   omega
  |ext j=>
   obtain⟨r',h3,rfl⟩:=Option.map_eq_some_iff.1 hq
   have hij:i≠j:=fun h=>hne (by rw[h])
   rcases hw with⟨q,g1,g2⟩|⟨q,g1,g2⟩
   ·rw[h1]at g1;have:=Option.some.inj g1;subst this
    exact hc.dj i j _ _ h1 h3 hij g2
   ·rw[h3]at g1;have:=Option.some.inj g1;subst this
    exact(hc.dj j i _ _ h3 h1 (Ne.symm hij) g2).symm
theorem co_ok (hc:c.ok) {i j:BaW} {a b:Ba} (ha:BaR c i a) (hb:BaR c j b) (h:i.co j=true):a.co c.n b=true:=by
 unfold Ba.co
 cases hx:a.loc c.n with
 |none=>rfl
 |some x=>
  cases hy:b.loc c.n with
  |none=>rfl
  |some y=>
   simp only
   obtain⟨p,p1,p2⟩:=ha x hx
   obtain⟨q,q1,q2⟩:=hb y hy
   have ne:p≠q->(wrC c p∨wrC c q)->(!(a.w||b.w)|| !(x.1==y.1&&x.2==y.2)||a.dj b)=true:=fun h1 h2=>by
    have:=boxP_ne hc p1 q1 h1 h2
    have:(x.1==y.1&&x.2==y.2)=false:=by
     cases hq:(x.1==y.1&&x.2==y.2)with
     |false=>rfl
     |true=>
      simp only[Bool.and_eq_true,beq_iff_eq]at hq
      exact absurd (Prod.ext hq.1 hq.2) this
    rw[this];simp
   rcases p2 with⟨rfl,p3⟩|⟨rfl,p3⟩
   ·rcases q2 with⟨rfl,q3⟩|⟨rfl,q3⟩
    ·rw[p3,q3];rfl
    ·refine ne ?_ (.inr q3)
     simpa[BaW.co]using h
   ·rcases q2 with⟨rfl,q3⟩|⟨rfl,q3⟩
    ·refine ne ?_ (.inl p3)
     simpa[BaW.co]using h
    ·refine ne ?_ (.inl p3)
     simpa[BaW.co]using h
theorem pt_box {pb:PB} {off:Nat} {d:D} (h:Rep0 c (.pt pb off) d):∃f b o,d= .ptr f b o∧boxP c pb=some (f,b):=by
 cases pb with
 |own b=>exact⟨_,_,_,h,rfl⟩
 |ext i=>
  obtain⟨r,h1,h2⟩:=h
  exact⟨_,_,_,h2,by simp[boxP,h1]⟩
def instSpec (op:Op) (t:Option Nat) (st:S) (a:Ba):Prop:=match op with
 | .ld _ x=>(∃f b off n,(rd x st).1= .ptr f b off∧a= .rd f b off n)∨a= .no
 | .ldm _ x=>∃f b off cs,(rd x st).1= .ptr f b off∧a= .wr f b off cs
 | .st _ x _=>∃f b off cs,(rd x st).1= .ptr f b off∧a= .wr f b off cs
 | .al _=>∃t' ds,t=some t'∧a= .al t' ds
 | .cpy x _=>a= .no∨∃f b off n z cs,(rd x st).1= .ref f b off n z∧a= .wr f b off cs
 |_=>a= .no
def dOp:Op->Bool
 | .ld _ _=>true
 | .ldm _ _=>true
 | .st _ _ _=>true
 | .al _=>true
 | .cpy _ _=>true
 |p=>p.neut
theorem inst_conv {P:Caller} {t:Option Nat} {op:Op} {st st':S} {d:D} (hk:dOp op=true) (h:evOp P t op st=some (d,st')):∃i,inst P t op st=some i∧putO t d st'=i.ap t st∧instSpec op t st i.a:=by
 have neut:∀{op:Op},op.neut=true->(inst P t op st=if op.neut=true then(evOp P t op st).map fun r=>⟨r.1,op.ms,.no⟩else none)->evOp P t op st=some (d,st')->∃i,inst P t op st=some i∧putO t d st'=i.ap t st∧i.a= .no:=by
  intro op hn he h
  obtain⟨r1,_⟩:=neut_loc (s':=st) hn h fun _ _=>rfl
  refine⟨⟨d,op.ms,.no⟩,by rw[he,if_pos hn,h];rfl,?_,rfl⟩
  show _=putO t d (moved op.ms st)
  rw[<-r1]
 cases op with
 |ld n x=>
  simp only[evOp]at h
  simp only[inst]
  cases hx:(rd x st).1 with
  |ptr f b off=>
   rw[hx]at h
   simp only at h ⊢
   cases hb:bx f b st with
   |none=>rw[hb]at h;cases h
   |some ds=>
    rw[hb]at h
    simp only at h ⊢
    obtain⟨d',h1,h2⟩:=Option.map_eq_some_iff.1 h
    injection h2 with h2 h3
    subst h2 h3
    exact⟨⟨d'.strip,none,.rd f b off (n.getD 1)⟩,by rw[h1];rfl,rfl,.inl ⟨f,b,off,_,hx,rfl⟩⟩
  |fptr cs off=>
   rw[hx]at h
   simp only at h ⊢
   obtain⟨d',h1,h2⟩:=Option.map_eq_some_iff.1 h
   injection h2 with h2 h3
   subst h2 h3
   exact⟨⟨d',none,.no⟩,by rw[h1];rfl,rfl,.inr rfl⟩
  |_=>rw[hx]at h;cases h
 |ldm n x=>
  simp only[evOp]at h
  simp only[inst]
  cases hx:(rd x st).1 with
  |ptr f b off=>
   rw[hx]at h
   simp only at h ⊢
   cases hb:bx f b st with
   |none=>rw[hb]at h;cases h
   |some ds=>
    rw[hb]at h
    simp only at h ⊢
    obtain⟨d',h1,h2⟩:=Option.map_eq_some_iff.1 h
    injection h2 with h2 h3
    subst h2 h3
    exact⟨⟨d',none,.wr f b off d'.strip.cells⟩,by rw[h1];rfl,by simp only[Ins.ap,moved,Ba.ap,hb,Option.getD_some],f,b,off,_,hx,rfl⟩
  |_=>rw[hx]at h;cases h
 |st n x y=>
  simp only[evOp]at h
  simp only[inst]
  cases hx:(rd x st).1 with
  |ptr f b off=>
   rw[hx]at h
   simp only at h ⊢
   cases hb:bx f b st with
   |none=>rw[hb]at h;cases h
   |some ds=>
    rw[hb]at h
    simp only at h ⊢
    split at h
    ·rename_i hq
     rw[if_pos hq]
     have h:=Option.some.inj h
     injection h with h2 h3
     subst h2 h3
     refine⟨_,rfl,?_,f,b,off,_,hx,rfl⟩
     simp only[Ins.ap,Ba.ap,hb,Option.getD_some]
     rw[rd_moved,sbx_moved]
    ·cases h
  |_=>rw[hx]at h;cases h
 |al z=>
  simp only[evOp]at h
  simp only[inst]
  cases t with
  |none=>cases h
  |some t=>
   simp only at h ⊢
   cases hl:lk t st.l with
   |some q=>rw[hl]at h;cases h
   |none=>
    rw[hl]at h
    simp only at h ⊢
    have h:=Option.some.inj h
    injection h with h2 h3
    subst h2 h3
    exact⟨_,rfl,rfl,t,_,rfl,rfl⟩
 |mv x=>exact neut hk rfl h
 |pk _ _ _=>exact neut hk rfl h
 |ext _ _=>exact neut hk rfl h
 |bin _ _ _=>exact neut hk rfl h
 |no _=>exact neut hk rfl h
 |un _ _=>exact neut hk rfl h
 |fa _ _=>exact neut hk rfl h
 |ia _ _ _=>exact neut hk rfl h
 |len _=>exact neut hk rfl h
 |lns _=>exact neut hk rfl h
 |six _ _=>exact neut hk rfl h
 |ap _ _ _ _ _=>exact neut hk rfl h
 |mk _ _ _ _ _ _=>exact neut hk rfl h
 |bd _ _=>exact neut hk rfl h
 |slc _ _ _ _=>exact neut hk rfl h
 |bs _ _ _=>exact neut hk rfl h
 |eqn _ _=>exact neut hk rfl h
 |eqs _ _ _=>exact neut hk rfl h
 |eqb _ _ _=>exact neut hk rfl h
 |eqa _ _ _ _=>exact neut hk rfl h
 |sh _ _ _=>exact neut hk rfl h
 |ci _ _=>exact neut hk rfl h
 |mm _ _ _=>exact neut hk rfl h
 |mf _ _=>exact neut hk rfl h
 |nck _=>exact neut hk rfl h
 |bst _=>exact neut hk rfl h
 |cpy x y=>
  simp only[evOp]at h
  simp only[inst]
  split at h
  ·rename_i hx hy
   split at h
   ·rename_i hc
    have h:=Option.some.inj h
    injection h with h2 h3
    subst h2 h3
    exact⟨⟨.v (.int .i64 0),none,.no⟩,if_pos hc,rfl,.inl rfl⟩
   ·cases h
  ·rename_i f b off n z m z' ys hx hy
   split at h
   ·rename_i hc
    split at h
    ·rename_i h0
     have h:=Option.some.inj h
     injection h with h2 h3
     subst h2 h3
     exact⟨⟨.v (.int .i64 0),none,.no⟩,by rw[if_pos hc,if_pos h0],rfl,.inl rfl⟩
    ·rename_i h0
     cases hb:bx f b st with
     |none=>rw[hb]at h;cases h
     |some ds=>
      rw[hb]at h
      simp only at h
      split at h
      ·rename_i hq
       have h:=Option.some.inj h
       injection h with h2 h3
       subst h2 h3
       refine⟨⟨_,none,.wr f b off _⟩,by rw[if_pos hc,if_neg h0];simp only;rw[if_pos hq],?_,.inr ⟨f,b,off,n,z,_,hx,rfl⟩⟩
       simp only[Ins.ap,Ba.ap,hb,Option.getD_some,moved]
      ·cases h
   ·cases h
  ·cases h
 |_=>cases hk
theorem fo_tyOf:∀{L:List Ty},(∀τ∈L,τ.fo=true)->(tyOf L).fo=true
 |[],_=>rfl
 |[a],h=>h a (by simp)
 |a::b::r,h=>by
  simp only[tyOf,Ty.fo,Bool.and_eq_true]
  exact⟨h a (by simp),fo_tyOf fun τ hτ=>h τ (by simp only[List.mem_cons]at hτ ⊢;exact .inr hτ)⟩
theorem callq_ok (hc:c.ok) (hS:RepS c s e l Y) {T:Tab} (hT:TabOk c.P T) {f:Nat} (hq:okQ T f=true) {ws:List W} {ds:List D} (ha:All2 (Rep4 c) ws ds) {w:W} {s':SU} (h:(callW T f ws s).out (some (w,s'))):
  s'=s∧∃d,Rep4 c w d∧∀B:List Bx,B.length=c.n+1->c.P f ds B=some (d,B):=by
 unfold okQ at hq
 split at hq
 ·rename_i tf htf
  have hv:∀a∈tf.sg.ak,∃τ,a= .v τ∧τ.fo=true:=fun a h=>by
   have:=List.all_eq_true.1 hq a h
   cases a with
   |v τ=>exact⟨τ,rfl,this⟩
   |_=>cases this
  have hxs:xsOf tf.sg.ak=[]:=by
   have:∀{ak:List AK},(∀a∈ak,∃τ,a= .v τ∧τ.fo=true)->xsOf ak=[]:=by
    intro ak
    induction ak with
    |nil=>intro _;rfl
    |cons a r ih=>
     intro h
     obtain⟨τ,rfl,_⟩:=h a (by simp)
     exact ih fun b hb=>h b (by simp[hb])
   exact this hv
  have args:∀{ak:List AK} {ws ws':List W} {ds:List D},(∀a∈ak,∃τ,a= .v τ∧τ.fo=true)->argsF T s ak ws=some ws'->All2 (Rep4 c) ws ds->ws'=ws∧ak.length=ws.length:=by
   intro ak
   induction ak with
   |nil=>intro ws ws' ds _ h ha;cases ws with
    |nil=>exact⟨(Option.some.inj h).symm,rfl⟩
    |cons=>cases h
   |cons a ak ih=>
    intro ws ws' ds hv h ha
    cases ws with
    |nil=>cases h
    |cons w ws=>
     obtain⟨d,q,rfl,a1,a2⟩:=ha.cons_l
     simp only[argsF]at h
     obtain⟨w',h1,h2⟩:=Option.bind_eq_some_iff.1 h
     obtain⟨ws2,h3,h4⟩:=Option.map_eq_some_iff.1 h2
     subst h4
     obtain⟨e1,e2⟩:=ih (fun b hb=>hv b (by simp[hb])) h3 a2
     obtain⟨τ,rfl,hfo⟩:=hv a (by simp)
     have:w'=w:=by
      unfold argF at h1
      split at h1
      ·rename_i e3;injection e3 with e3;subst e3;cases hfo
      ·exact(chk1_some h1).1
     rw[this,e1]
     exact⟨rfl,by simp[e2]⟩
  have back:∀{ak:List AK} {ws ys:List W} {s1:SU},(∀a∈ak,∃τ,a= .v τ∧τ.fo=true)->backW ak ws ys s=some s1->s1=s:=by
   intro ak
   induction ak with
   |nil=>intro ws ys s1 _ h;simp only[backW]at h;exact(Option.some.inj h).symm
   |cons a ak ih=>
    intro ws ys s1 hv h
    obtain⟨τ,rfl,_⟩:=hv a (by simp)
    cases ws with
    |nil=>simp[backW]at h
    |cons w ws=>cases ys with
     |nil=>simp only[backW]at h;exact ih (fun b hb=>hv b (by simp[hb])) h
     |cons=>simp only[backW]at h;exact ih (fun b hb=>hv b (by simp[hb])) h
  have argl:∀{c':Cx} {ak:List AK} {ws:List W} {ds:List D},(∀a∈ak,∃τ,a= .v τ∧τ.fo=true)->ak.length=ws.length->All2 (Rep3 c') ws ds->ArgL c' ak ws ds [] []:=by
   intro c' ak
   induction ak with
   |nil=>intro ws ds _ hl ha;cases ws with
    |nil=>obtain rfl:=ha.nil_l;trivial
    |cons=>simp at hl
   |cons a ak ih=>
    intro ws ds hv hl ha
    cases ws with
    |nil=>simp at hl
    |cons w ws=>
     obtain⟨d,q,rfl,a1,a2⟩:=ha.cons_l
     obtain⟨τ,rfl,_⟩:=hv a (by simp)
     exact⟨a1,ih (fun b hb=>hv b (by simp[hb])) (by simpa using hl) a2⟩
  have key:∀{a:tf.sg.aT.T} {y:tf.sg.oT.T},(argsF T s tf.sg.ak ws).bind (tupT tf.sg.aT)=some a->tf.sg.ok=true->tf.f a=some y->
    (backW tf.sg.ak ws (outW tf.sg.res (xsOf tf.sg.ak) y).2 s).map (fun s'=>((outW tf.sg.res (xsOf tf.sg.ak) y).1,s'))=some (w,s')->
    s'=s∧∃d,Rep4 c w d∧∀B:List Bx,B.length=c.n+1->c.P f ds B=some (d,B):=by
   intro a y h1 hsg h3 h4
   obtain⟨ws',k1,k2⟩:=Option.bind_eq_some_iff.1 h1
   obtain⟨e1,e2⟩:=args hv k1 ha
   subst e1
   obtain⟨s1,b1,b2⟩:=Option.map_eq_some_iff.1 h4
   injection b2 with b2 b3
   subst b2 b3
   obtain⟨t1,t2⟩:=tupT_ok k2 ha
   have hfo:tf.sg.aT.fo=true:=fo_tyOf fun τ hτ=>by
    obtain⟨a,ha,rfl⟩:=List.mem_map.1 hτ
    obtain⟨τ',rfl,h⟩:=hv a ha
    exact h
   let c':Cx:=⟨c.P,[],c.n+1,[],fun _=>[]⟩
   have hin:All2 (Rep3 c') (tupW tf.sg.aT a) ds:=tupW_ok (c:=c') t1 (RepL.fo hfo t2)
   have harg:ArgL c' tf.sg.ak (argWs tf.sg a) ds [] []:=by
    unfold argWs
    split
    ·rename_i hak
     rw[hak]at e2
     cases ws' with
     |nil=>obtain rfl:=ha.nil_l;rw[hak];trivial
     |cons=>simp at e2
    ·exact argl hv (by rw[hin.length,<-ha.length];exact e2) hin
   have hok:c'.ok:=⟨(fun r h=>by cases h),(fun i j r q h=>by simp[c']at h),(fun x h=>by cases h)⟩
   obtain⟨d,Y',o1,o2,o3⟩:=(hT f tf htf).1 [] (c.n+1) [] (fun _=>[]) [] hok (fun i r ys h=>by simp at h) a ds harg y h3
   refine⟨back hv b1,d,pf2_up (c:=c0 c.P) (c':=c) rfl (fun x hx=>by cases hx) o1 (pf_out _ _ _).1,fun B hB=>?_⟩
   have:=o3 B ⟨hB,Sat.nil B,(fun r h=>by cases h),(fun i r h=>by simp at h)⟩ (fun i r ys h=>by simp at h)
   rw[this]
   cases Y'<;>rfl
  unfold callW at h
  rw[htf]at h
  cases tf with
  |par sg g=>
   simp only at h
   split at h
   ·rename_i a h1 h2
    obtain⟨y,o1,o2⟩:=out_b h
    simp only[Bool.and_eq_true]at h2
    exact key h1 h2.2 o1 o2
   ·exact h.elim
  |tot sg g=>
   simp only at h
   split at h
   ·rename_i a h1 h2
    simp only[Bool.and_eq_true]at h2
    exact key (y:=g a) h1 h2.2 rfl (out_r h)
   ·exact h.elim
  |gen a r g=>exact h.elim
 ·cases hq
theorem inst_cv {P:Caller} {t:Option Nat} {f:Nat} {x:Opd} {xs:List Opd} {caps:List D} {st:S} {d:D} (hot:xs.all Opd.ot=true) (hx:(rd x st).1= .clo f caps) (h:∀B:List Bx,B.length=st.o.length+1->P f (rds st xs++caps) B=some (d,B)):inst P t (.cv x xs) st=some ⟨d,none,.no⟩:=by
 have:=qv_of h
 simp only[inst,if_pos hot,hx,this,Option.map_some]
theorem inst_call {P:Caller} {t:Option Nat} {f:Nat} {xs:List Opd} {st:S} {d:D} (hot:xs.all Opd.ot=true) (h:∀B:List Bx,B.length=st.o.length+1->P f (rds st xs) B=some (d,B)):inst P t (.call f xs) st=some ⟨d,none,.no⟩∧inst P t (.calf f xs) st=some ⟨dwnA d,none,.no⟩:=by
 have:=qv_of h
 exact⟨by simp only[inst,if_pos hot,this,Option.map_some],by simp only[inst,if_pos hot,this,Option.map_some]⟩
theorem setBx_wr (hS:RepS c s e l Y) {pb:PB} {ws:List W} {s':SU} (h:setBx pb ws s=some s'):wrC c pb:=by
 cases pb with
 |own b=>trivial
 |ext i=>
  simp only[setBx]at h
  split at h
  ·rename_i hw
   rw[hS.wr,List.getElem?_map]at hw
   obtain⟨r,h1,h2⟩:=Option.map_eq_some_iff.1 hw
   exact⟨r,h1,h2⟩
  ·cases h
theorem act_spec (hc:c.ok) (hS:RepS c s e l Y) {T:Tab} {q:TStp} {i:BaW} (h:actW T s q=some i) {p:Path} (hp:act p e) {w:W} {s':SU} (ho:(evOpW T p q.t q.a q.op s).out (some (w,s'))) {o:List Bx} {a:Ba} (ha:instSpec q.op q.t ⟨e,l,o⟩ a) (hn:c.n=o.length):BaR c i a:=by
 have ptr:∀{x:Opd} {pb:PB} {off:Nat} {f b k:Nat},(rdW p x s).1= .pt pb off->(rd x ⟨e,l,o⟩).1= .ptr f b k->boxP c pb=some (f,b):=by
  intro x pb off f b k h1 h2
  have hx:=rdW_ok hS hp x
  rw[h1]at hx
  obtain⟨f',b',o',h3,h4⟩:=pt_box (c:=c) hx
  rw[rd_fst]at h2
  rw[h2]at h3
  injection h3 with h5 h6 h7
  rw[h5,h6];exact h4
 have ptrE:∀{x:Opd} {b':Nat} {τ:Ty} {i':Int} {off:Nat} {f b k:Nat},(rdW p x s).1= .ep b' τ i' off->(rd x ⟨e,l,o⟩).1= .ptr f b k->boxP c (.own b')=some (f,b):=by
  intro x b' τ i' off f b k h1 h2
  have hx:=rdW_ok hS hp x
  rw[h1]at hx
  rw[rd_fst,hx.2]at h2
  injection h2 with h5 h6 h7
  rw[<-h5,<-h6];rfl
 unfold actW at h
 split at h
 ·rename_i n x hop
  rw[hop]at ha ho
  split at h
  ·rename_i m
   have key:∀{pb:PB} {v:W},((∃off,v= .pt pb off)∨∃b τ i' off,pb= .own b∧v= .ep b τ i' off)->i= .rd pb->(getW m s.e=v∨∃q b,getW m s.e= .gd q b v)->BaR c i a:=by
    intro pb v hv hi hg
    have hvs:v.strip=v:=by rcases hv with⟨off,rfl⟩|⟨b,τ,i',off,_,rfl⟩<;>rfl
    rcases ha with⟨f,b,k,nn,h1,h2⟩|h2
    ·subst h2
     intro y hy
     have hy:(f,b)=y:=Option.some.inj hy
     subst hy
     have hw:(rdW p (.t m) s).1=v∨(rdW p (.t m) s).1= .un:=by
      rcases hg with hg|⟨q,b,hg⟩
      ·left
       have:opn p v=v:=by rcases hv with⟨off,rfl⟩|⟨b,τ,i',off,_,rfl⟩<;>rfl
       simp only[rdW,hg,this,hvs]
      ·simp only[rdW,hg,opn]
       cases subP q p
       ·right;rfl
       ·left;exact hvs
     rcases hw with hw|hw
     ·rcases hv with⟨off,rfl⟩|⟨b',τ,i',off,rfl,rfl⟩
      ·exact⟨pb,ptr hw h1,.inl ⟨hi,rfl⟩⟩
      ·exact⟨.own b',ptrE hw h1,.inl ⟨hi,rfl⟩⟩
     ·simp only[evOpW,hw]at ho;exact ho.elim
    ·subst h2;exact BaR_no
   have no:i= .no->(∀pb off,(rdW p (.t m) s).1≠ .pt pb off)->(∀b τ i' off,(rdW p (.t m) s).1≠ .ep b τ i' off)->BaR c i a:=by
    intro hi hg hge
    rcases ha with⟨f,b,k,nn,h1,h2⟩|h2
    ·exfalso
     simp only[evOpW]at ho
     split at ho
     ·rename_i h3;exact hg _ _ h3
     ·rename_i ws off h3
      have hx:=rdW_ok hS hp (.t m)
      rw[h3]at hx
      obtain⟨cs,h4,_⟩:=hx
      rw[rd_fst,h4]at h1
      cases h1
     ·rename_i h3;exact hge _ _ _ _ h3
     ·exact ho
    ·subst h2;exact BaR_no
   split at h
   ·rename_i pb off hg
    exact key (.inl ⟨off,rfl⟩) (Option.some.inj h).symm (.inl hg)
   ·rename_i q b pb off hg
    exact key (.inl ⟨off,rfl⟩) (Option.some.inj h).symm (.inr ⟨q,b,hg⟩)
   ·rename_i ws off hg
    refine no (Option.some.inj h).symm (fun pb o' k=>?_) fun b' τ i' o' k=>?_
    ·simp only[rdW,hg,opn]at k
     cases k
    ·simp only[rdW,hg,opn]at k
     cases k
   ·rename_i q b ws off hg
    refine no (Option.some.inj h).symm (fun pb o' k=>?_) fun b' τ i' o' k=>?_
    ·simp only[rdW,hg,opn]at k
     cases hq:subP q p<;>rw[hq]at k<;>cases k
    ·simp only[rdW,hg,opn]at k
     cases hq:subP q p<;>rw[hq]at k<;>cases k
   ·rename_i b' τ i' off hg
    exact key (.inr ⟨b',τ,i',off,rfl,rfl⟩) (Option.some.inj h).symm (.inl hg)
   ·rename_i q b b' τ i' off hg
    exact key (.inr ⟨b',τ,i',off,rfl,rfl⟩) (Option.some.inj h).symm (.inr ⟨q,b,hg⟩)
   ·cases h
  ·cases h
 ·rename_i n x hop
  rw[hop]at ha ho
  obtain⟨f,b,off,cs,h1,h2⟩:=ha
  subst h2
  split at h
  ·rename_i pb off' hg
   have hi:=(Option.some.inj h).symm
   cases p with
   |nil=>
    intro y hy
    have hy:(f,b)=y:=Option.some.inj hy
    subst hy
    refine⟨pb,ptr hg h1,.inr ⟨hi,?_⟩⟩
    simp only[evOpW,hg]at ho
    split at ho
    ·split at ho
     ·obtain⟨s1,k1,k2⟩:=Option.map_eq_some_iff.1 (out_r ho)
      exact setBx_wr hS k1
     ·exact ho.elim
    ·exact ho.elim
   |cons=>simp only[evOpW]at ho;split at ho<;>first|exact ho.elim|contradiction
  ·cases h
 ·rename_i n x y hop
  rw[hop]at ha ho
  obtain⟨f,b,off,cs,h1,h2⟩:=ha
  subst h2
  split at h
  ·rename_i pb off' hg
   have hi:=(Option.some.inj h).symm
   cases p with
   |nil=>
    intro y hy
    have hy:(f,b)=y:=Option.some.inj hy
    subst hy
    refine⟨pb,ptr hg h1,.inr ⟨hi,?_⟩⟩
    simp only[evOpW,hg]at ho
    split at ho
    ·split at ho
     ·obtain⟨s1,k1,k2⟩:=Option.map_eq_some_iff.1 (out_r ho)
      exact setBx_wr (rdW_st hS _) k1
     ·exact ho.elim
    ·exact ho.elim
   |cons=>simp only[evOpW]at ho;split at ho<;>first|exact ho.elim|contradiction
  ·rename_i b' τ i' off' hg
   have hi:=(Option.some.inj h).symm
   cases p with
   |nil=>
    intro y hy
    have hy:(f,b)=y:=Option.some.inj hy
    subst hy
    exact⟨.own b',ptrE hg h1,.inr ⟨hi,trivial⟩⟩
   |cons=>simp only[evOpW]at ho;split at ho<;>first|exact ho.elim|contradiction
  ·cases h
 ·rename_i z hop
  rw[hop]at ha
  obtain⟨t',ds,h1,h2⟩:=ha
  subst h2
  rw[h1]at h
  have hi:=(Option.some.inj h).symm
  intro y hy
  have hy:(c.n,t')=y:=Option.some.inj hy
  subst hy
  exact⟨.own t',rfl,.inr ⟨hi,trivial⟩⟩
 ·cases h
 ·rename_i x xs hop
  rw[hop]at ha
  have ha:a= .no:=ha
  subst ha;exact BaR_no
 ·cases h
 ·rename_i x y hop
  rw[hop]at ha ho
  split at h
  ·rename_i b' τ lo m hg
   have hi:=(Option.some.inj h).symm
   rcases ha with ha|⟨f,b,off,k,z,cs,h1,h2⟩
   ·subst ha;exact BaR_no
   ·subst h2
    intro y hy
    have hy:(f,b)=y:=Option.some.inj hy
    subst hy
    have hx:=rdW_ok hS (act_nil e) x
    rw[hg]at hx
    rw[rd_fst]at h1
    obtain⟨_,h3|⟨_,z,h3⟩⟩:=(show Rep4 c (.rs b' τ lo m) _ from hx)
    ·rw[h1]at h3
     injection h3 with h5 h6
     exact⟨.own b',by rw[h5,h6];rfl,.inr ⟨hi,trivial⟩⟩
    ·rw[h1]at h3;cases h3
  ·cases h
 ·rename_i f xs hop
  rw[hop]at ha
  have ha:a= .no:=ha
  subst ha;exact BaR_no
 ·rename_i f xs hop
  rw[hop]at ha
  have ha:a= .no:=ha
  subst ha;exact BaR_no
 ·rename_i x j hop
  rw[hop]at ha
  have ha:a= .no:=ha
  subst ha;exact BaR_no
 ·cases h
 ·cases h
 ·cases h
 ·cases h
 ·cases h
 ·rename_i h1 h2 h3 h4 h5 h6 h7 h8 h9 h10 h11 h12 h13 h14 h15 h16
  have ha:a= .no:=by
   cases hq:q.op with
   |cpy x y=>exact absurd hq (h8 x y)
   |ld n x=>exact absurd hq (h1 n x)
   |ldm n x=>exact absurd hq (h2 n x)
   |st n x y=>exact absurd hq (h3 n x y)
   |al z=>exact absurd hq (h4 z)
   |_=>rw[hq]at ha;exact ha
  subst ha;exact BaR_no
end
end Go.Proofs.Ytfopbiiffiickaa.Ev.U
namespace Go.Proofs.Ytfopbiiffiickaa.Ev.U
open Go
section
variable {c:Cx} {e:Env} {l:Bx} {Y:List (List D)} {s:SU}
theorem dOp_of {T:Tab} {q:TStp} {i:BaW} (h:actW T s q=some i) {p:Path} {w:W} {s':SU} (ho:(evOpW T p q.t q.a q.op s).out (some (w,s'))):(∃f xs,(q.op= .call f xs∨q.op= .calf f xs∨∃n caps,q.op= .cv (.t n) xs∧getW n s.e= .clo f caps)∧xs.all Opd.ot=true∧okQ T f=true)∨dOp q.op=true:=by
 cases hq:q.op with
 |call f xs=>
  simp only[actW,hq]at h
  split at h
  ·rename_i k;exact .inl ⟨f,xs,.inl rfl,k⟩
  ·cases h
 |calf f xs=>
  simp only[actW,hq]at h
  split at h
  ·rename_i k;exact .inl ⟨f,xs,.inr (.inl rfl),k⟩
  ·cases h
 |pk a x y=>
  right
  rw[hq]at ho
  simp only[evOpW]at ho
  split at ho
  ·split at ho
   ·rename_i k _;exact k
   ·exact ho.elim
  ·exact ho.elim
 |ext x j=>
  right
  simp only[actW,hq]at h
  split at h
  ·rename_i k;exact k
  ·cases h
 |bx x=>simp only[actW,hq]at h;cases h
 |cv x xs=>
  simp only[actW,hq]at h
  split at h
  ·rename_i n
   split at h
   ·rename_i f caps hg
    split at h
    ·rename_i k;exact .inl ⟨f,xs,.inr (.inr ⟨n,caps,rfl,hg⟩),k⟩
    ·cases h
   ·cases h
  ·cases h
 |pcal f xs=>simp only[actW,hq]at h;cases h
 |bxo u x=>simp only[actW,hq]at h;cases h
 |mkm=>simp only[actW,hq]at h;cases h
 |mkn _=>simp only[actW,hq]at h;cases h
 |mlk _ _=>simp only[actW,hq]at h;cases h
 |mup _ _=>simp only[actW,hq]at h;cases h
 |_=>exact .inr rfl
theorem instS_n {P:Caller} {q:Stp} (hg:q.g=none) (st:S):instS P q st=inst P q.t q.op st:=by
 unfold instS;rw[hg]
theorem instS_a {P:Caller} {q:Stp} {g:Nat} {want:Bool} (hg:q.g=some (g,want)) {st:S} (h:get g st.e= .v (.bool want)):instS P q st=inst P q.t q.op st:=by
 unfold instS;rw[hg];simp only[h,if_true]
theorem instS_u {P:Caller} {q:Stp} {g:Nat} {want:Bool} (hg:q.g=some (g,want)) {st:S} (h:get g st.e= .v (.bool !want)∨get g st.e= .v undef):instS P q st=some ⟨.v undef,none,.no⟩:=by
 unfold instS
 rw[hg]
 rcases h with h|h
 ·simp only[h]
  rw[if_neg (by cases want<;>simp)]
 ·simp only[h]
  split
  ·rename_i b hb
   exact absurd hb (undef_nb b)
  ·rfl
  ·rename_i h1 h2;exact absurd rfl (h2 undef)
theorem dcall (hc:c.ok) (hS:RepS c s e l Y) {T:Tab} (hT:TabOk c.P T) {p:Path} (hp:act p e) {t:Option Nat} {a:Ty} {op:Op} {f:Nat} {xs:List Opd} (hop:op= .call f xs∨op= .calf f xs∨∃n caps,op= .cv (.t n) xs∧getW n s.e= .clo f caps) (hot:xs.all Opd.ot=true) (hq:okQ T f=true) {w:W} {s':SU} (h:(evOpW T p t a op s).out (some (w,s'))):
  s'=s∧∃d,Rep4 c w d∧∀B,Fam c B->inst c.P t op ⟨e,l,upd c.rg Y B⟩=some ⟨d,none,.no⟩:=by
 rcases hop with rfl|rfl|⟨n,caps,rfl,hg⟩
 ·simp only[evOpW,hot,Bool.true_or,rdLW_ot hot]at h
  obtain⟨h1,d,h2,h3⟩:=callq_ok hc hS hT hq (rdsW_ok hS hp xs) h
  exact⟨h1,d,h2,fun B hB=>(inst_call hot (fun B' hB'=>by rw[rdsE_eq];exact h3 B' (by rw[hB',fam_len hB Y]))).1⟩
 ·simp only[evOpW,hot,Bool.true_or,rdLW_ot hot]at h
  obtain⟨r,o1,o2⟩:=out_map h
  cases r with
  |none=>cases o2
  |some q=>
   have o2:=Option.some.inj o2
   injection o2 with o3 o4
   obtain⟨h1,d,h2,h3⟩:=callq_ok hc hS hT hq (rdsW_ok hS hp xs) (w:=q.1) (s':=q.2) o1
   exact⟨by rw[<-o4];exact h1,dwnA d,by rw[<-o3];exact dwnA_ok h2,fun B hB=>(inst_call hot (fun B' hB'=>by rw[rdsE_eq];exact h3 B' (by rw[hB',fam_len hB Y]))).2⟩
 ·have hr:(rdW p (.t n) s).1= .clo f caps:=by simp only[rdW,hg];rfl
  have hx:=rdW_ok hS hp (.t n)
  rw[hr]at hx
  obtain⟨cs,dx,m1,m2⟩:=hx
  simp only[evOpW,hot,Bool.true_or,rdLW_ot hot,hr]at h
  obtain⟨h1,d,h2,h3⟩:=callq_ok hc hS hT hq ((rdsW_ok hS hp xs).app (m1.mono fun _ _ _ q=>to4x2 (to2 q))) h
  exact⟨h1,d,h2,fun B hB=>inst_cv hot (by rw[rd_fst];exact dx) fun B' hB'=>by rw[rdsE_eq];exact h3 B' (by rw[hB',fam_len hB Y])⟩
theorem dstep_ok (hc:c.ok) (hS:RepS c s e l Y) {T:Tab} (hT:TabOk c.P T) {q:TStp} {s':SU} (h:(stepW T q s).out (some s')) {i:BaW} (ha:actW T s q=some i):
  ∃e' l' Y',RepS c s' e' l' Y'∧∀B,Fam c B->∃j,instS c.P q.er ⟨e,l,upd c.rg Y B⟩=some j∧j.ap q.t ⟨e,l,upd c.rg Y B⟩=⟨e',l',upd c.rg Y' B⟩∧BaR c i j.a:=by
 rcases step_cases h with⟨hg,w,s1,h1,rfl⟩|⟨g,want,p,b,t,hg,hp,hqt,hk,hm,hn,w,rfl,h1⟩
 ·rcases dOp_of ha h1 with⟨f,xs,hop,hot,hq⟩|hd
  ·obtain⟨rfl,d,g1,g2⟩:=dcall (t:=q.t) hc hS hT (act_nil e) hop hot hq h1
   refine⟨(match q.t with|some t=>(t,d)::e|none=>e),l,Y,?_,fun B hB=>⟨_,(instS_n hg _).trans (g2 B hB),?_,BaR_no⟩⟩
   ·cases hq:q.t with
    |none=>exact hS
    |some t=>exact hS.put g1
   ·simp only[Ins.ap,moved,Ba.ap]
    cases q.t<;>rfl
  ·obtain⟨d,e',l',Y',g1,g2,g3⟩:=op_ok (t:=q.t) hc hS hT h1
   refine⟨(match q.t with|some t=>(t,d)::e'|none=>e'),l',Y',?_,fun B hB=>?_⟩
   ·cases hq:q.t with
    |none=>exact g1
    |some t=>exact g1.put g2
   ·obtain⟨j,j1,j2,j3⟩:=inst_conv hd (g3 B hB)
    refine⟨j,(instS_n hg _).trans j1,?_,act_spec hc hS ha (act_nil e) h1 j3 (fam_len hB Y).symm⟩
    rw[<-j2]
    cases q.t<;>rfl
 ·obtain⟨p1,p2,p3,p4⟩:=path_ok hS hp
  by_cases hact:act p e
  ·obtain⟨s1,h1⟩:=h1 (p2.2 hact)
   rcases dOp_of ha h1 with⟨f,xs,hop,hot,hq⟩|hd
   ·obtain⟨rfl,d,g1,g2⟩:=dcall (t:=q.t) hc hS hT hact hop hot hq h1
    refine⟨(t,d)::e,l,Y,put_gd hS hn p2 (fun _=>g1) (fun k=>absurd hact k),fun B hB=>⟨_,(instS_a (q:=q.er) hg (p3 hact)).trans (g2 B hB),?_,BaR_no⟩⟩
    rw[hqt];rfl
   ·obtain⟨d,l',Y',g1,g2,g3⟩:=opA hc hS hT hact p1 hk hm h1
    refine⟨(t,d)::e,l',Y',put_gd g1 hn p2 (fun _=>g2) (fun k=>absurd hact k),fun B hB=>?_⟩
    obtain⟨j,j1,j2,j3⟩:=inst_conv hd (g3 B hB)
    refine⟨j,(instS_a (q:=q.er) hg (p3 hact)).trans j1,?_,act_spec hc hS ha hact h1 j3 (fam_len hB Y).symm⟩
    rw[<-j2,hqt];rfl
  ·refine⟨(t,.v undef)::e,l,Y,put_gd hS hn p2 (fun k=>absurd k hact) (fun _=>rfl),fun B hB=>⟨_,instS_u (q:=q.er) hg (p4 hact),?_,BaR_no⟩⟩
   rw[hqt];rfl
theorem acts_get {acts:List BaW} {bs:List Ba} (h:All2 (BaR c) acts bs) (m:Nat):BaR c (acts.getD m .no) (bs.getD m .no):=by
 rw[List.getD_eq_getElem?_getD,List.getD_eq_getElem?_getD]
 cases ha:acts[m]? with
 |none=>
  have:bs[m]? =none:=by
   rw[List.getElem?_eq_none_iff]at ha ⊢
   rw[<-h.length];exact ha
  rw[this];exact BaR_no
 |some i=>
  obtain⟨b,h1,h2⟩:=h.get ha
  rw[h1];exact h2
theorem evD_ok (hc:c.ok) {T:Tab} (hT:TabOk c.P T) {ρ:Type} {K:SU->Option ρ} {ans:ρ}:∀{L:List (TStp×List Nat)} {acts:List BaW} {s:SU} {e:Env} {l:Bx} {Y:List (List D)},RepS c s e l Y->evD T L acts s K=some ans->
  ∃s' e' l' Y',RepS c s' e' l' Y'∧K s'=some ans∧∀B,Fam c B->∀bs,All2 (BaR c) acts bs->evDr c.P (L.map fun q=>(q.1.er,q.2)) bs ⟨e,l,upd c.rg Y B⟩=some ⟨e',l',upd c.rg Y' B⟩
 |[],acts,s,e,l,Y,hS,h=>⟨s,e,l,Y,hS,h,fun B hB bs _=>rfl⟩
 |(q,un)::r,acts,s,e,l,Y,hS,h=>by
  have key:∃i,actW T s q=some i∧un.all (fun m=>(acts.getD m .no).co i)=true∧∃s1,(stepW T q s).out (some s1)∧evD T r (acts++[i]) s1 K=some ans:=by
   unfold evD at h
   split at h
   ·cases h
   ·rename_i i hi
    split at h
    ·rename_i hu
     refine⟨i,hi,hu,?_⟩
     split at h
     ·cases h
     ·cases h
     ·rename_i s1 hs;exact⟨s1,by rw[hs];rfl,h⟩
     ·rename_i τ o d k hs
      obtain⟨x,h1,h2⟩:=Option.bind_eq_some_iff.1 h
      split at h2
      ·rename_i s1 hk;exact⟨s1,by rw[hs];exact⟨x,h1,hk⟩,h2⟩
      ·cases h2
    ·cases h
  obtain⟨i,hi,hu,s1,h1,h2⟩:=key
  obtain⟨e1,l1,Y1,g1,g2⟩:=dstep_ok hc hS hT h1 hi
  obtain⟨s',e',l',Y',k1,k2,k3⟩:=evD_ok hc hT g1 h2
  refine⟨s',e',l',Y',k1,k2,fun B hB bs hbs=>?_⟩
  obtain⟨j,j1,j2,j3⟩:=g2 B hB
  simp only[List.map_cons,evDr,j1]
  have hco:un.all (fun m=>(bs.getD m .no).co (upd c.rg Y B).length j.a)=true:=by
   rw[fam_len hB Y]
   refine List.all_eq_true.2 fun m hm=>?_
   exact co_ok hc (acts_get hbs m) j3 (List.all_eq_true.1 hu m hm)
  rw[if_pos hco]
  rw[show q.er.t=q.t from rfl,j2]
  exact k3 B hB (bs++[j.a]) (hbs.app ⟨j3,trivial⟩)
end
end Go.Proofs.Ytfopbiiffiickaa.Ev.U
namespace Go.Proofs.Ytfopbiiffiickaa.Ev.U
open Go
def Pk:List Ty->List W->List W->Prop
 |[],[],[]=>True
 |τ::L,w::ws,v::vs=>(∃y,valT τ w=some y∧v=valW τ y)∧Pk L ws vs
 |_,_,_=>False
theorem pk_of:∀{L:List Ty} {ws:List W} {x:(tyOf L).T},(∀τ∈L,τ.val=true)->tupT (tyOf L) ws=some x->Pk L ws (tupW (tyOf L) x)
 |[],ws,x,_,h=>by
  cases ws with
  |nil=>trivial
  |cons=>cases h
 |[a],ws,x,hv,h=>by
  have ha:=hv a (by simp)
  have:∃w,ws=[w]∧valT a w=some x∧tupW a x=[valW a x]:=by
   cases a with
   |t=>cases ha
   |n=>cases ha
   |_=>
    cases ws with
    |nil=>cases h
    |cons w r=>cases r with
     |nil=>exact⟨w,rfl,h,rfl⟩
     |cons=>cases h
  obtain⟨w,rfl,h1,h2⟩:=this
  show Pk [a] [w] (tupW a x)
  rw[h2]
  exact⟨⟨x,h1,rfl⟩,trivial⟩
 |a::b::L,ws,x,hv,h=>by
  cases ws with
  |nil=>cases h
  |cons w ws=>
   obtain⟨y,h1,h2⟩:=Option.bind_eq_some_iff.1 (show(valT a w).bind (fun y=>(tupT (tyOf (b::L)) ws).map fun z=>(y,z))=some x from h)
   obtain⟨z,h3,h4⟩:=Option.map_eq_some_iff.1 h2
   subst h4
   exact⟨⟨y,h1,rfl⟩,pk_of (L:=b::L) (fun τ hτ=>hv τ (by simp only[List.mem_cons]at hτ ⊢;exact .inr hτ)) h3⟩
theorem Pk.split:∀{L1 L2:List Ty} {w1 w2 vs:List W},w1.length=L1.length->Pk (L1++L2) (w1++w2) vs->∃v1 v2,vs=v1++v2∧Pk L1 w1 v1∧Pk L2 w2 v2
 |[],L2,[],w2,vs,_,h=>⟨[],vs,rfl,trivial,h⟩
 |[],L2,_::_,w2,vs,hl,h=>by cases hl
 |_::_,L2,[],w2,vs,hl,h=>by cases hl
 |τ::L1,L2,w::w1,w2,[],hl,h=>h.elim
 |τ::L1,L2,w::w1,w2,v::vs,hl,h=>by
  obtain⟨h1,h2⟩:=h
  obtain⟨v1,v2,e,p1,p2⟩:=Pk.split (by simpa using hl) h2
  exact⟨v::v1,v2,by rw[e];rfl,⟨h1,p1⟩,p2⟩
theorem take_len {k:Kd} {w:W} {ws:List W} (h:k.take w=some ws):ws.length=k.ty.length:=by
 cases k with
 |v τ=>have:=Option.some.inj h;subst this;rfl
 |w y=>
  simp only[Kd.take]at h
  split at h
  ·have:=Option.some.inj h;subst this;rfl
  ·cases h
theorem takeL_len:∀{ks:List Kd} {ws a:List W},takeL ks ws=some a->a.length=(ks.flatMap Kd.ty).length
 |[],[],a,h=>by have:=Option.some.inj h;subst this;rfl
 |[],_::_,a,h=>by cases h
 |_::_,[],a,h=>by cases h
 |k::ks,w::ws,a,h=>by
  simp only[takeL]at h
  obtain⟨x,h1,h2⟩:=Option.bind_eq_some_iff.1 h
  obtain⟨y,h3,h4⟩:=Option.map_eq_some_iff.1 h2
  subst h4
  simp[take_len h1,takeL_len h3]
theorem takeE_len {s:SU}:∀{ks:List (Nat×Kd)} {a:List W},takeE s ks=some a->a.length=(ks.flatMap fun x=>x.2.ty).length
 |[],a,h=>by have:=Option.some.inj h;subst this;rfl
 |(n,k)::r,a,h=>by
  simp only[takeE]at h
  obtain⟨x,h1,h2⟩:=Option.bind_eq_some_iff.1 h
  obtain⟨y,h3,h4⟩:=Option.map_eq_some_iff.1 h2
  subst h4
  simp[take_len h1,takeE_len h3]
theorem takeB_len {s:SU}:∀{bs:List (Nat×List Kd)} {a:List W},takeB s bs=some a->a.length=(bs.flatMap fun x=>x.2.flatMap Kd.ty).length
 |[],a,h=>by have:=Option.some.inj h;subst this;rfl
 |(n,k)::r,a,h=>by
  simp only[takeB]at h
  obtain⟨x,h1,h2⟩:=Option.bind_eq_some_iff.1 h
  obtain⟨y,h3,h4⟩:=Option.map_eq_some_iff.1 h2
  subst h4
  obtain⟨q,q1,q2⟩:=Option.bind_eq_some_iff.1 h1
  simp[takeL_len q2,takeB_len h3]
section
variable {c:Cx} {e:Env} {l:Bx} {Y:List (List D)} {s:SU}
theorem same0_ok {x w:W} {d:D} (h:sameW0 x w=true) (hr:Rep4 c w d):Rep2 c x d:=by
 unfold sameW0 at h
 split at h
 ·rename_i b o b' o'
  simp only[decide_eq_true_eq]at h
  obtain⟨rfl,rfl⟩:=h
  exact hr
 ·exact hr
 ·exact hr
 ·trivial
 ·cases h
theorem sameL_ok:∀{xs ws:List W} {ds:List D},sameL xs ws=true->All2 (Rep1 c) ws ds->All2 (Rep1 c) xs ds∧xs.all capW=true:=by
 intro xs
 induction xs with
 |nil=>intro ws ds h ha;cases ws with
  |nil=>exact⟨ha,rfl⟩
  |cons=>simp[sameL]at h
 |cons x xs ih=>
  intro ws ds h ha
  cases ws with
  |nil=>cases x<;>simp[sameL]at h
  |cons w ws=>
   obtain⟨d,q,rfl,a1,a2⟩:=ha.cons_l
   cases x with
   |pt b o=>
    cases w with
    |pt b' o'=>
     simp only[sameL,Bool.and_eq_true,decide_eq_true_eq]at h
     obtain⟨⟨rfl,rfl⟩,h2⟩:=h
     obtain⟨i1,i2⟩:=ih h2 a2
     exact⟨⟨a1,i1⟩,i2⟩
    |_=>simp[sameL]at h
   |_=>simp[sameL]at h
theorem same_ok {x w:W} {d:D} (h:sameW x w=true) (hr:Rep4 c w d):Rep2 c x d:=by
 unfold sameW at h
 split at h
 ·rename_i f xs f' ys
  simp only[Bool.and_eq_true]at h
  have:=nbeq.1 h.1
  subst this
  obtain⟨cs,rfl,m1,m2⟩:=hr
  obtain⟨i1,i2⟩:=sameL_ok h.2 m1
  exact⟨cs,rfl,i1,i2⟩
 ·exact same0_ok h hr
theorem sameW_gd {y:W} {p:Path} {b:Bool} {z:W} (h:sameW y (.gd p b z)=true):y= .un:=by
 cases y<;>first|rfl|(simp[sameW,sameW0]at h;done)
theorem kd_ok {k:Kd} {w:W} {d:D} {e:Env} (hr:Rep5 c e w d) {a:List W} (h:k.take w=some a) {a2 r:List W} (hp:Pk k.ty a a2):∃v,k.fill (a2++r)=(v,r)∧Rep4 c v d∧(k.oneB=true->Rep2 c v d):=by
 have ng:∀{w:W} {d:D},Rep5 c e w d->(∀p b y,w≠ .gd p b y)->Rep4 c w d:=fun{w d} h hn=>by
  cases w with
  |gd p b y=>exact absurd rfl (hn p b y)
  |_=>exact h
 cases k with
 |v τ=>
  have:=Option.some.inj h
  subst this
  cases a2 with
  |nil=>exact hp.elim
  |cons v a2=>
   obtain⟨⟨y,h1,rfl⟩,h2⟩:=hp
   cases a2 with
   |cons=>exact h2.elim
   |nil=>
    have h4:Rep4 c w d:=ng hr fun p b y e=>by subst e;cases τ<;>cases h1
    obtain⟨k1,k2⟩:=valT_ok h1 h4
    have h3:=valW_ok k1 k2
    refine⟨valW τ y,rfl,to4 h3,fun ho=>of3 h3 fun ws q=>?_⟩
    have ho:τ.one=true:=ho
    cases τ<;>first|(cases q;done)|(simp[Ty.one]at ho;done)
 |w y=>
  simp only[Kd.take]at h
  split at h
  ·rename_i hs
   have:=Option.some.inj h
   subst this
   cases a2 with
   |cons=>exact hp.elim
   |nil=>
    have h4:y= .un∨Rep4 c w d:=by
     cases w with
     |gd p b z=>exact .inl (sameW_gd hs)
     |_=>exact .inr hr
    rcases h4 with rfl|h4
    ·exact⟨.un,rfl,trivial,fun _=>trivial⟩
    ·exact⟨y,rfl,to4x2 (same_ok hs h4),fun _=>same_ok hs h4⟩
  ·cases h
theorem fillE_ok {E:List (Nat×W)} (hS:∀t,Rep5 c e (getW t E) (get t e)):∀{ks:List (Nat×Kd)} {s:SU} {a a2 r:List W},s.e=E->takeE s ks=some a->Pk (ks.flatMap fun x=>x.2.ty) a a2->∃E',fillE ks (a2++r)=(E',r)∧∀t,Rep4 c (getW t E') (get t e)
 |[],s,a,a2,r,hE,h,hp=>by
  have:=Option.some.inj h
  subst this
  cases a2 with
  |cons=>exact hp.elim
  |nil=>exact⟨[],rfl,fun t=>trivial⟩
 |(n,k)::ks,s,a,a2,r,hE,h,hp=>by
  simp only[takeE]at h
  obtain⟨x,h1,h2⟩:=Option.bind_eq_some_iff.1 h
  obtain⟨y,h3,h4⟩:=Option.map_eq_some_iff.1 h2
  subst h4
  obtain⟨v1,v2,rfl,p1,p2⟩:=Pk.split (take_len h1) hp
  obtain⟨v,f1,f2,_⟩:=kd_ok (c:=c) (e:=e) (r:=v2++r) (by rw[<-hE]at hS;exact hS n) h1 p1
  obtain⟨E',g1,g2⟩:=fillE_ok hS (r:=r) hE h3 p2
  refine⟨(n,v)::E',by simp only[fillE,List.append_assoc,f1,g1],fun t=>?_⟩
  by_cases ht:t=n
  ·subst ht;simp only[getW,Nat.beq_refl,cond_true];exact f2
  ·simp only[getW,nbeq_f ht,cond_false];exact g2 t
theorem fillL_ok:∀{ks:List Kd} {ws:List W} {ds:List D} {a a2 r:List W},All2 (Rep2 c) ws ds->takeL ks ws=some a->ks.all Kd.oneB=true->Pk (ks.flatMap Kd.ty) a a2->∃vs,fillL ks (a2++r)=(vs,r)∧All2 (Rep2 c) vs ds
 |[],[],ds,a,a2,r,ha,h,ho,hp=>by
  have:=Option.some.inj h
  subst this
  cases a2 with
  |cons=>exact hp.elim
  |nil=>exact⟨[],rfl,ha⟩
 |[],_::_,ds,a,a2,r,ha,h,ho,hp=>by cases h
 |_::_,[],ds,a,a2,r,ha,h,ho,hp=>by cases h
 |k::ks,w::ws,ds,a,a2,r,ha,h,ho,hp=>by
  obtain⟨d,q,rfl,a1,a3⟩:=ha.cons_l
  simp only[takeL]at h
  obtain⟨x,h1,h2⟩:=Option.bind_eq_some_iff.1 h
  obtain⟨y,h3,h4⟩:=Option.map_eq_some_iff.1 h2
  subst h4
  simp only[List.all_cons,Bool.and_eq_true]at ho
  obtain⟨v1,v2,rfl,p1,p2⟩:=Pk.split (take_len h1) hp
  obtain⟨v,f1,f2,f3⟩:=kd_ok (c:=c) (e:=[]) (r:=v2++r) (Rep5_of (to4x2 a1)) h1 p1
  obtain⟨vs,g1,g2⟩:=fillL_ok (r:=r) a3 h3 ho.2 p2
  exact⟨v::vs,by simp only[fillL,List.append_assoc,f1,g1],f3 ho.1,g2⟩
theorem fillB_ok {Lw:List (Nat×List W)} (hS:∀b ws,(lkW b Lw).bind notLb=some ws->∃ds,lk b l=some ds∧All2 (Rep2 c) ws ds):∀{bs:List (Nat×List Kd)} {s:SU} {a a2 r:List W},s.l=Lw->takeB s bs=some a->bs.all (fun x=>x.2.all Kd.oneB)=true->Pk (bs.flatMap fun x=>x.2.flatMap Kd.ty) a a2->
  ∃L',fillB bs (a2++r)=(L',r)∧∀b ws,lkW b L'=some ws->∃ds,lk b l=some ds∧All2 (Rep2 c) ws ds
 |[],s,a,a2,r,hE,h,ho,hp=>by
  have:=Option.some.inj h
  subst this
  cases a2 with
  |cons=>exact hp.elim
  |nil=>exact⟨[],rfl,fun b ws h=>by cases h⟩
 |(n,ks)::bs,s,a,a2,r,hE,h,ho,hp=>by
  simp only[takeB]at h
  obtain⟨x,h1,h2⟩:=Option.bind_eq_some_iff.1 h
  obtain⟨y,h3,h4⟩:=Option.map_eq_some_iff.1 h2
  subst h4
  obtain⟨ws,q1,q2⟩:=Option.bind_eq_some_iff.1 h1
  simp only[List.all_cons,Bool.and_eq_true]at ho
  obtain⟨v1,v2,rfl,p1,p2⟩:=Pk.split (takeL_len q2) hp
  obtain⟨ds,d1,d2⟩:=hS n ws (by rw[<-hE];exact q1)
  obtain⟨vs,f1,f2⟩:=fillL_ok (r:=v2++r) d2 q2 ho.1 p1
  obtain⟨L',g1,g2⟩:=fillB_ok hS (r:=r) hE h3 ho.2 p2
  refine⟨(n,vs)::L',by simp only[fillB,List.append_assoc,f1,g1],fun b ws' hb=>?_⟩
  simp only[lkW]at hb
  by_cases hbn:b=n
  ·subst hbn
   rw[Nat.beq_refl,cond_true]at hb
   have:=Option.some.inj hb
   subst this
   exact⟨ds,d1,f2⟩
  ·rw[nbeq_f hbn,cond_false]at hb
   exact g2 b ws' hb
theorem fillX_ok:∀{ks:List (List Kd)} {xs:List (List W)} {Y:List (List D)} {a a2 r:List W},All2 (All2 (Rep2 c)) xs Y->takeX ks xs=some a->ks.all (fun x=>x.all Kd.oneB)=true->Pk (ks.flatMap fun x=>x.flatMap Kd.ty) a a2->∃vs,fillX ks (a2++r)=(vs,r)∧All2 (All2 (Rep2 c)) vs Y
 |[],[],Y,a,a2,r,ha,h,ho,hp=>by
  have:=Option.some.inj h
  subst this
  cases a2 with
  |cons=>exact hp.elim
  |nil=>exact⟨[],rfl,ha⟩
 |[],_::_,ds,a,a2,r,ha,h,ho,hp=>by cases h
 |_::_,[],ds,a,a2,r,ha,h,ho,hp=>by cases h
 |k::ks,w::ws,Y,a,a2,r,ha,h,ho,hp=>by
  obtain⟨d,q,rfl,a1,a3⟩:=ha.cons_l
  simp only[takeX]at h
  obtain⟨x,h1,h2⟩:=Option.bind_eq_some_iff.1 h
  obtain⟨y,h3,h4⟩:=Option.map_eq_some_iff.1 h2
  subst h4
  simp only[List.all_cons,Bool.and_eq_true]at ho
  obtain⟨v1,v2,rfl,p1,p2⟩:=Pk.split (takeL_len h1) hp
  obtain⟨v,f1,f2⟩:=fillL_ok (r:=v2++r) a1 h1 ho.1 p1
  obtain⟨vs,g1,g2⟩:=fillX_ok (r:=r) a3 h3 ho.2 p2
  exact⟨v::vs,by simp only[fillX,List.append_assoc,f1,g1],f2,g2⟩
theorem shp0_ok {h:Sh} {x:h.ty.T} (hS:RepS c s e l Y) (hp:h.pack0 s=some x):(∀t,Rep4 c (getW t (h.fill x).e) (get t e))∧(∀b ws,lkW b (h.fill x).l=some ws->∃ds,lk b l=some ds∧All2 (Rep2 c) ws ds)∧All2 (All2 (Rep2 c)) (h.fill x).x Y∧(h.fill x).w=c.rg.map Rg.w∧(h.fill x).m=h.ms:=by
 unfold Sh.pack0 at hp
 split at hp
 ·rename_i hq
  obtain⟨q2,q3⟩:=hq
  simp only[Sh.ok,Bool.and_eq_true]at q3
  obtain⟨⟨o1,o2⟩,o3⟩:=q3
  obtain⟨a,h1,hp⟩:=Option.bind_eq_some_iff.1 hp
  obtain⟨b,h2,hp⟩:=Option.bind_eq_some_iff.1 hp
  obtain⟨d,h3,hp⟩:=Option.bind_eq_some_iff.1 hp
  have hpk:=pk_of (fun τ hτ=>List.all_eq_true.1 o1 τ hτ) hp
  generalize hw:tupW h.ty x=ws
  have hws:tupW (tyOf h.tys) x=ws:=hw
  rw[hws]at hpk
  unfold Sh.tys at hpk
  obtain⟨v12,v3,rfl,p12,p3⟩:=Pk.split (by rw[List.length_append,List.length_append,takeE_len h1,takeB_len h2]) hpk
  obtain⟨v1,v2,rfl,p1,p2⟩:=Pk.split (takeE_len h1) p12
  obtain⟨E',e1,e2⟩:=fillE_ok (r:=v2++v3) hS.env rfl h1 p1
  obtain⟨L',b1,b2⟩:=fillB_ok (r:=v3) (fun b ws h=>(own_box hS h).2) rfl h2 o2 p2
  obtain⟨X',x1,x2⟩:=fillX_ok (r:=[]) hS.ext h3 o3 p3
  rw[List.append_nil]at x1
  have hf:h.fill x=⟨E',L',h.ms,X',h.ws⟩:=by
   unfold Sh.fill
   simp only[hw,List.append_assoc,e1,b1,x1]
  rw[hf]
  exact⟨e2,b2,x2,by rw[<-q2];exact hS.wr,rfl⟩
 ·cases hp
theorem shp_ok {h:Sh} {x:h.ty.T} (hS:RepS c s e l Y) (hp:h.pack s=some x):RepS c (h.fill x) e l Y:=by
 unfold Sh.pack at hp
 cases q1:(s.m.all fun b=>hasN b h.ms)with
 |false=>rw[q1]at hp;cases hp
 |true=>
  rw[q1,cond_true]at hp
  obtain⟨g1,g2,g3,g4,g5⟩:=shp0_ok hS hp
  refine⟨fun t=>Rep5_of (g1 t),fun b ws hb=>by obtain⟨ds,d1,d2⟩:=g2 b ws hb;rw[d1];exact BRep.of d2,fun b hb=>?_,g3,g4,hS.len,hS.ro⟩
  have:=hS.nm b hb
  have key:∀{L:List Nat},hasN b L=true->L.all (fun b=>hasN b h.ms)=true->hasN b h.ms=true:=by
   intro L
   induction L with
   |nil=>intro h;cases h
   |cons m L ih=>
    intro h1 h2
    simp only[List.all_cons,Bool.and_eq_true]at h2
    rw[hasN_c]at h1
    by_cases e:b=m
    ·rw[e];exact h2.1
    ·rw[nbeq_f e,cond_false]at h1;exact ih h1 h2.2
  rw[g5]
  exact key this q1
end
end Go.Proofs.Ytfopbiiffiickaa.Ev.U
namespace Go.Proofs.Ytfopbiiffiickaa.Ev.U
open Go
section
variable {c:Cx} {e:Env} {l:Bx} {Y:List (List D)} {s:SU}
theorem kl0_w {id:Nat} {w:W} {d:D} (h:Rep2 c w d):Rep2 c (w.kl0 id) d:=by
 cases w with
 |pt b off=>cases b with
  |own b=>
   show Rep2 c (bif Nat.beq b id then .un else .pt (.own b) off) d
   cases Nat.beq b id
   ·exact h
   ·trivial
  |ext i=>exact h
 |clo f ws=>
  show Rep2 c (bif ws.any (W.toId id)then .un else .clo f ws) d
  cases ws.any (W.toId id)
  ·exact h
  ·trivial
 |rs b τ lo n=>
  show Rep2 c (bif Nat.beq b id then .un else .rs b τ lo n) d
  cases Nat.beq b id
  ·exact h
  ·trivial
 |ep b τ i o=>
  show Rep2 c (bif Nat.beq b id then .un else .ep b τ i o) d
  cases Nat.beq b id
  ·exact h
  ·trivial
 |_=>exact h
theorem kl_ne_ag {id:Nat} {w:W} (h:∀ws,w≠ .ag ws):w.kl1 id=w.kl0 id:=by
 cases w with
 |ag ws=>exact absurd rfl (h ws)
 |_=>rfl
theorem kl1_w {id:Nat} {w:W} {d:D} (h:Rep3 c w d):Rep3 c (w.kl1 id) d:=by
 by_cases hw:∃ws,w= .ag ws
 ·obtain⟨ws,rfl⟩:=hw
  obtain⟨cs,rfl,h2⟩:=h
  refine⟨cs,rfl,?_⟩
  have:=h2.map (f:=W.kl0 id) (g:=fun d=>d) (R':=Rep2 c) fun w d _ q=>kl0_w q
  simpa using this
 ·have hn:∀ws,w≠ .ag ws:=fun ws e=>hw ⟨ws,e⟩
  rw[kl_ne_ag hn]
  exact to3 (kl0_w (of3 h hn))
theorem kl2_w {id:Nat} {w:W} {d:D} (h:Rep4 c w d):Rep4 c (w.kl2 id) d:=by
 by_cases hw:∃ws,w= .tp ws
 ·obtain⟨ws,rfl⟩:=hw
  obtain⟨ds,rfl,h2⟩:=h
  refine⟨ds,rfl,?_⟩
  have:=h2.map (f:=W.kl1 id) (g:=fun d=>d) (R':=Rep3 c) fun w d _ q=>kl1_w q
  simpa using this
 ·have hn:∀ws,w≠ .tp ws:=fun ws e=>hw ⟨ws,e⟩
  have:w.kl2 id=w.kl1 id:=by
   cases w with
   |tp ws=>exact absurd rfl (hn ws)
   |_=>rfl
  rw[this]
  exact to4 (kl1_w (of4 h hn))
theorem of5 {w:W} {d:D} (h:Rep5 c e w d) (hn:∀p b v,w≠ .gd p b v):Rep4 c w d:=by
 cases w with
 |gd p b v=>exact absurd rfl (hn p b v)
 |_=>exact h
theorem kl3_ne {id:Nat} {w:W} (hn:∀p b v,w≠ .gd p b v):w.kl3 id=w.kl2 id:=by
 cases w with
 |gd p b v=>exact absurd rfl (hn p b v)
 |_=>rfl
theorem kl3_w {id:Nat} {w:W} {d:D} (h:Rep5 c e w d):Rep5 c e (w.kl3 id) d:=by
 by_cases hw:∃p b v,w= .gd p b v
 ·obtain⟨p,b,v,rfl⟩:=hw
  obtain⟨h1,h2,h3⟩:=h
  exact⟨h1,fun q=>kl2_w (h2 q),h3⟩
 ·have hn:∀p b v,w≠ .gd p b v:=fun p b v e=>hw ⟨p,b,v,e⟩
  rw[kl3_ne hn]
  exact Rep5_of (kl2_w (of5 h hn))
theorem u_kl (hc:c.ok) {τ:Ty} {x:τ.T} {id:Nat} {d:D} (h1:τ.one=true) (h:RepL c.P τ c.F x [d]):d.kl1 c.n id=d:=by
 cases τ with
 |i k=>obtain⟨rfl,h2⟩:=i_d h;rfl
 |b=>obtain rfl:=b_d h;rfl
 |s=>obtain⟨rfl,h2⟩:=s_d h;rfl
 |l m t=>obtain⟨hl,es,h3,rfl|⟨_,z,rfl⟩⟩:=l_d h<;>rfl
 |fn a r=>
  obtain⟨f,caps,rfl,h3,_⟩:=fn_d h
  show(if _ then _ else _)=_
  rw[if_neg]
  intro hv
  obtain⟨q,hq,hv⟩:=List.any_eq_true.1 hv
  cases q with
  |ptr f' b' o'=>
   obtain⟨y,h4,h5⟩:=h3 _ hq
   have:=(hc.fd y h4).1
   simp[D.toV]at hv
   omega
  |_=>cases hv
 |cl f r=>obtain⟨_,cs,rfl,h3⟩:=cl_d h;rfl
 |_=>cases h1
theorem kl0_s (hc:c.ok) {id:Nat} {w:W} {d:D} (h:Rep2 c w d):Rep2 c (w.kl0 id) (d.kl1 c.n id):=by
 cases w with
 |u τ x=>rw[u_kl hc h.1 h.2];exact h
 |nil=>obtain⟨z,rfl⟩:=h;exact⟨z,rfl⟩
 |np=>rw[show d= .v (.pointer none)from h];exact rfl
 |un=>trivial
 |pt b off=>cases b with
  |own b=>
   show Rep2 c (bif Nat.beq b id then .un else .pt (.own b) off) _
   by_cases e:b=id
   ·rw[e,Nat.beq_refl];trivial
   ·rw[nbeq_f e,show d= .ptr c.n b off from h]
    show(if _ then _ else _)=_
    rw[if_neg fun q=>e q.2]
  |ext i=>
   obtain⟨r,h1,h2⟩:=h
   have:=hc.lt r (List.mem_of_getElem? h1)
   rw[h2]
   refine⟨r,h1,?_⟩
   show(if _ then _ else _)=_
   rw[if_neg fun q=>by omega]
 |fp ws off=>obtain⟨q,rfl,h2⟩:=h;exact⟨q,rfl,h2⟩
 |clo f ws=>
  obtain⟨q,rfl,h2,h3⟩:=h
  show Rep2 c (bif ws.any (W.toId id)then .un else .clo f ws) (if q.any (D.toV c.n id)=true then .u else .clo f q)
  cases ha:ws.any (W.toId id)with
  |true=>trivial
  |false=>
   rw[if_neg]
   ·exact⟨q,rfl,h2,h3⟩
   ·intro hv
    obtain⟨d,hd,hv⟩:=List.any_eq_true.1 hv
    obtain⟨j,hj⟩:=List.getElem?_of_mem hd
    have hl:=h2.length
    have hlt:=getq_lt hj
    obtain⟨d',e1,e2⟩:=h2.get (List.getElem?_eq_getElem (show j<ws.length by omega))
    rw[hj]at e1
    injection e1 with e1
    subst e1
    have hna:(ws[j]'(by omega)).toId id=false:=by
     cases hx:(ws[j]'(by omega)).toId id with
     |false=>rfl
     |true=>rw[List.any_eq_true.2 ⟨_,List.getElem_mem _,hx⟩]at ha;cases ha
    have hcw:capW (ws[j]'(by omega))=true:=List.all_eq_true.1 h3 _ (List.getElem_mem _)
    generalize ws[j]'(by omega)=w at e2 hna hcw
    cases d with
    |ptr f' b' o'=>
     simp[D.toV]at hv
     obtain⟨rfl,rfl⟩:=hv
     cases w with
     |pt b off=>cases b with
      |own b=>
       injection(show D.ptr c.n b' o'= .ptr c.n b off from e2)with _ q1 _
       subst q1
       simp[W.toId]at hna
      |ext i=>
       obtain⟨r,r1,r2⟩:=e2
       have:=hc.lt r (List.mem_of_getElem? r1)
       injection r2 with r3
       omega
     |u τ x=>cases τ with
      |i k=>obtain⟨hz,_⟩:=i_d e2.2;cases hz
      |b=>have hz:=b_d e2.2;cases hz
      |s=>obtain⟨hz,_⟩:=s_d e2.2;cases hz
      |_=>cases hcw
     |un=>cases hcw
     |nil=>obtain⟨z,hz⟩:=e2;cases hz
     |np=>cases e2
     |fp ws off=>obtain⟨q,hz,_⟩:=e2;cases hz
     |rs b τ lo n=>obtain⟨_,hz|⟨_,z,hz⟩⟩:=e2<;>cases hz
     |ep b τ i o=>cases hcw
     |_=>exact False.elim (by simpa[Rep1,Rep0]using e2)
    |_=>cases hv
 |rs b τ lo n=>
  show Rep2 c (bif Nat.beq b id then .un else .rs b τ lo n) _
  by_cases e:b=id
  ·rw[e,Nat.beq_refl];trivial
  ·rw[nbeq_f e]
   obtain⟨h0,rfl|⟨h1,z,rfl⟩⟩:=h
   ·refine⟨h0,.inl ?_⟩
    show(if _ then _ else _)=_
    rw[if_neg fun q=>e q.2]
   ·exact⟨h0,.inr ⟨h1,z,rfl⟩⟩
 |ep b τ i o=>
  show Rep2 c (bif Nat.beq b id then .un else .ep b τ i o) _
  by_cases e:b=id
  ·rw[e,Nat.beq_refl];trivial
  ·rw[nbeq_f e]
   obtain⟨h0,rfl⟩:=h
   refine⟨h0,?_⟩
   show(if _ then _ else _)=_
   rw[if_neg fun q=>e q.2]
 |_=>exact False.elim (by simpa[Rep2,Rep1,Rep0]using h)
theorem kl1_s (hc:c.ok) {id:Nat} {w:W} {d:D} (h:Rep3 c w d):Rep3 c (w.kl1 id) (d.kl2 c.n id):=by
 by_cases hw:∃ws,w= .ag ws
 ·obtain⟨ws,rfl⟩:=hw
  obtain⟨cs,rfl,h2⟩:=h
  exact⟨_,rfl,h2.map fun w d _ q=>kl0_s hc q⟩
 ·have hn:∀ws,w≠ .ag ws:=fun ws e=>hw ⟨ws,e⟩
  rw[kl_ne_ag hn]
  have h2:=of3 h hn
  rcases ag_d h2 hn with q|q|q
  ·subst q;exact trivial
  ·subst q;exact False.elim (by simpa[Rep2,Rep1,Rep0]using h2)
  ·rw[Ev.kl2_ne q];exact to3 (kl0_s hc h2)
theorem kl2_s (hc:c.ok) {id:Nat} {w:W} {d:D} (h:Rep4 c w d):Rep4 c (w.kl2 id) (d.kl3 c.n id):=by
 by_cases hw:∃ws,w= .tp ws
 ·obtain⟨ws,rfl⟩:=hw
  obtain⟨ds,rfl,h2⟩:=h
  exact⟨_,rfl,h2.map fun w d _ q=>kl1_s hc q⟩
 ·have hn:∀ws,w≠ .tp ws:=fun ws e=>hw ⟨ws,e⟩
  have e1:w.kl2 id=w.kl1 id:=by
   cases w with
   |tp ws=>exact absurd rfl (hn ws)
   |_=>rfl
  rw[e1]
  have h3:=of4 h hn
  rcases tup_d h3 with q|q
  ·subst q;exact trivial
  ·rw[Ev.kl3_ne q];exact to4 (kl1_s hc h3)
theorem kl3_v {k id:Nat} {d:D} {x:Value}:d.kl3 k id= .v x↔d= .v x:=by
 constructor
 ·intro h
  cases d with
  |v y=>exact h
  |ptr f b o=>simp only[D.kl3,D.kl2,D.kl1,D.klP]at h;split at h<;>cases h
  |ref f b o n z=>simp only[D.kl3,D.kl2,D.kl1,D.klP]at h;split at h<;>cases h
  |clo f cs=>simp only[D.kl3,D.kl2,D.kl1]at h;split at h<;>cases h
  |_=>cases h
 ·intro h;subst h;rfl
theorem act_kl {k id:Nat} {p:Path}:act p (klE k id e)↔act p e:=
 ⟨fun h x hx=>by have:=h x hx;rw[get_kl,kl3_v]at this;exact this,fun h x hx=>by rw[get_kl,kl3_v];exact h x hx⟩
theorem kl3_s (hc:c.ok) {id:Nat} {w:W} {d:D} (h:Rep5 c e w d):Rep5 c (klE c.n id e) (w.kl3 id) (d.kl3 c.n id):=by
 by_cases hw:∃p b v,w= .gd p b v
 ·obtain⟨p,b,v,rfl⟩:=hw
  obtain⟨h1,h2,h3⟩:=h
  exact⟨h1.trans act_kl.symm,fun q=>kl2_s hc (h2 (act_kl.1 q)),fun q=>by rw[h3 fun r=>q (act_kl.2 r)];rfl⟩
 ·have hn:∀p b v,w≠ .gd p b v:=fun p b v e=>hw ⟨p,b,v,e⟩
  rw[kl3_ne hn]
  exact Rep5_of (kl2_s hc (of5 h hn))
theorem getW_kl {id t:Nat}:∀{es:List (Nat×W)},getW t (klEW id es)=(getW t es).kl3 id
 |[]=>rfl
 |(n,w)::r=>by
  have ih:=getW_kl (id:=id) (t:=t) (es:=r)
  simp only[klEW,List.map_cons,getW]at ih ⊢
  cases Nat.beq t n
  ·simpa using ih
  ·rfl
theorem lkW_rm {id b:Nat}:∀{L:List (Nat×List W)} {ws:List W},lkW b (rmW id L)=some ws->b≠id∧∃ws0,lkW b L=some ws0∧ws=ws0.map (W.kl0 id)
 |[],ws,h=>by cases h
 |(n,q)::r,ws,h=>by
  simp only[rmW]at h
  by_cases e:n=id
  ·rw[e,Nat.beq_refl,cond_true]at h
   obtain⟨h1,ws0,h2,h3⟩:=lkW_rm h
   refine⟨h1,ws0,?_,h3⟩
   simp only[lkW,nbeq_f (show b≠n from fun x=>h1 (x.trans e)),cond_false];exact h2
  ·rw[nbeq_f e,cond_false]at h
   simp only[lkW]at h
   by_cases e':b=n
   ·rw[e',Nat.beq_refl,cond_true]at h
    refine⟨by rw[e'];exact e,q,by simp only[lkW,e',Nat.beq_refl,cond_true],(Option.some.inj h).symm⟩
   ·rw[nbeq_f e',cond_false]at h
    obtain⟨h1,ws0,h2,h3⟩:=lkW_rm h
    exact⟨h1,ws0,by simp only[lkW,nbeq_f e',cond_false];exact h2,h3⟩
theorem brep_w {id:Nat} {ws:List W} {o:Option (List D)} (h:BRep c ws o):BRep c (ws.map (W.kl0 id)) o:=by
 by_cases hl:∃τ m xs,ws=[.lb τ m xs]
 ·obtain⟨τ,m,xs,rfl⟩:=hl;exact h
 ·have hn:notLb ws=some ws:=by
   unfold notLb
   split
   ·exact absurd ⟨_,_,_,rfl⟩ hl
   ·rfl
  obtain⟨-,ds,h1,h2⟩:=h.all hn
  rw[h1]
  have:=h2.map (f:=W.kl0 id) (g:=fun d=>d) (R':=Rep2 c) fun w d _ q=>kl0_w q
  exact BRep.of (by simpa using this)
theorem rf1_kl {k id:Nat} {d:D} (h:d.rf1=true):d.kl1 k id=d:=by
 cases d with
 |v y=>rfl
 |sl m z xs=>rfl
 |_=>cases h
theorem brep_s (hc:c.ok) {id:Nat} {ws:List W} {o:Option (List D)} (h:BRep c ws o):BRep c (ws.map (W.kl0 id)) (o.map fun ds=>ds.map (D.kl1 c.n id)):=by
 by_cases hl:∃τ m xs,ws=[.lb τ m xs]
 ·obtain⟨τ,m,xs,rfl⟩:=hl
  obtain⟨h1,h2,h3,h4,es,h5,h6⟩:=(show BRep c [.lb τ m xs] o from h)
  refine(show BRep c [.lb τ m xs] _ from⟨h1,h2,h3,h4,es,h5,?_⟩)
  rcases h6 with rfl|⟨h6,rfl⟩
  ·left
   have:(es.flatMap D.cells).map (D.kl1 c.n id)=es.flatMap D.cells:=by
    conv=>rhs;rw[<-List.map_id (es.flatMap D.cells)]
    refine List.map_congr_left fun d hd=>?_
    obtain⟨e,he,hd⟩:=List.mem_flatMap.1 hd
    exact rf1_kl (List.all_eq_true.1 (List.all_eq_true.1 (els_rf h1.2 h1.1 h5) e he) d hd)
   rw[Option.map_some,this]
  ·exact .inr ⟨h6,rfl⟩
 ·have hn:notLb ws=some ws:=by
   unfold notLb
   split
   ·exact absurd ⟨_,_,_,rfl⟩ hl
   ·rfl
  obtain⟨-,ds,h1,h2⟩:=h.all hn
  rw[h1]
  exact BRep.of (h2.map fun w d _ q=>kl0_s hc q)
theorem set_self {α:Type} {l:List α} {i:Nat} {x:α} (h:l[i]? =some x):l.set i x=l:=by
 apply List.ext_getElem?
 intro j
 rw[List.getElem?_set]
 split
 ·rename_i e;subst e;rw[h];simp[getq_lt h]
 ·rfl
theorem th_u (hS:RepS c s e l Y) {b k id:Nat} {s':SU} (h:(ghW (.th b k id) s).out s'):∃e' l',RepS c s' e' l' Y∧∀o:List Bx,o.length=c.n->evG1 (.th b k id) ⟨e,l,o⟩=some ⟨e',l',o⟩:=by
 simp only[ghW]at h
 split at h
 ·rename_i ws hws
  split at h
  ·rename_i τ xs hw
   cases hb:(hasN id s.m||Nat.beq b id|| !(eleOk τ&&τ.val&&mkOk τ))with
   |true=>rw[hb]at h;exact h.elim
   |false=>
    rw[hb,cond_false]at h
    have h:=out_r h
    subst h
    simp only[Bool.or_eq_false_iff,Bool.not_eq_false',Bool.and_eq_true]at hb
    obtain⟨⟨hn,hbi⟩,⟨hk,hv⟩,hm⟩:=hb
    have hbid:b≠id:=fun q=>by rw[q,Nat.beq_refl]at hbi;cases hbi
    have hnone:lk id l=none:=by
     cases hq:lk id l with
     |none=>rfl
     |some q=>rw[hS.nm id (by rw[hq];simp)]at hn;cases hn
    obtain⟨hws0,ds,d1,d2⟩:=own_box hS hws
    obtain⟨d,d3,d4⟩:=d2.get hw
    obtain⟨hl,es,ha,hd⟩:=flat_cells_l (to4x2 d4)
    have hinv:(0:Int)<=((xs.length:Nat):Int)∧((xs.length:Nat):Int)<=(maxLn:Int)∧(0:Int)<=(none:Option Int).getD 0:=⟨by omega,by omega,Int.le_refl _⟩
    have hnm:∀{L:Bx},(∀b',b'≠id->lk b' L≠none->lk b' l≠none)->∀b',lk b' L≠none->hasN b' (id::s.m)=true:=fun hL b' hb'=>by
     rw[hasN_c]
     by_cases e':b'=id
     ·rw[e',Nat.beq_refl];rfl
     ·rw[nbeq_f e',cond_false]
      exact hS.nm b' (hL b' e' hb')
    have hbox:∀{L:Bx} {ds':List D},(∀b',b'≠id->b'≠b->lk b' L=lk b' l)->lk b L=some ds'->All2 (Rep2 c) (ws.set k (.rs id τ none ((xs.length:Nat):Int))) ds'->BRep c [.lb τ ((xs.length:Nat):Int) xs] (lk id L)->
      ∀b' ws',lkW b' ((id,[.lb τ ((xs.length:Nat):Int) xs])::sbW b (ws.set k (.rs id τ none ((xs.length:Nat):Int))) s.l)=some ws'->BRep c ws' (lk b' L):=fun hL hLb hset h0 b' ws' hb'=>by
     simp only[lkW]at hb'
     by_cases e':b'=id
     ·rw[e',Nat.beq_refl,cond_true]at hb'
      have:=Option.some.inj hb'
      subst this
      rw[e'];exact h0
     ·rw[nbeq_f e',cond_false,lkW_sbW]at hb'
      by_cases e2:b'=b
      ·rw[if_pos e2,hws0]at hb'
       have:=Option.some.inj hb'
       subst this
       rw[e2,hLb]
       exact BRep.of hset
      ·rw[if_neg e2]at hb'
       rw[hL b' e' e2];exact hS.box b' ws' hb'
    rcases hd with rfl|⟨rfl,z,rfl⟩
    ·have hsbn:lk id (sb b (ds.set k (.ref c.n id 0 es.length (csz τ))) l)=none:=by rw[lk_sb,if_neg (Ne.symm hbid)];exact hnone
     refine⟨e,ins id (es.flatMap D.cells) (sb b (ds.set k (.ref c.n id 0 es.length (csz τ))) l),⟨hS.env,hbox (fun b' h1 h2=>?_) ?_ (d2.set k (show Rep2 c (.rs id τ none _) (.ref c.n id 0 es.length (csz τ))from⟨hinv,.inl ?_⟩)) ?_,hnm fun b' h1 h2=>?_,hS.ext,hS.wr,hS.len,hS.ro⟩,fun o ho=>?_⟩
     ·rw[lk_ins hsbn,if_neg h1,lk_sb,if_neg h2]
     ·rw[lk_ins hsbn,if_neg hbid,lk_sb,if_pos rfl,d1];rfl
     ·rw[ha.length];simp
     ·rw[lk_ins hsbn,if_pos rfl]
      exact(show BRep c [.lb τ _ xs] _ from⟨⟨hk,hv⟩,hm,rfl,hl,es,ha,.inl rfl⟩)
     ·rw[lk_ins hsbn,if_neg h1,lk_sb]at h2
      split at h2
      ·rename_i e2;rw[e2,d1];simp
      ·exact h2
     ·simp only[evG1,d1,d3]
      rw[if_pos ⟨by rw[hnone];rfl,els_rf hv hk ha⟩,ho]
      rfl
    ·have hx:=ha.nil_r
     subst hx
     refine⟨e,l,⟨hS.env,hbox (fun _ _ _=>rfl) d1 ?_ ?_,hnm fun _ _ h=>h,hS.ext,hS.wr,hS.len,hS.ro⟩,fun o ho=>?_⟩
     ·have:=d2.set k (show Rep2 c (.rs id τ none (((([]:List τ.T)).length:Nat):Int)) (.sl .nl z [])from⟨hinv,.inr ⟨rfl,z,rfl⟩⟩)
      rw[set_self d3]at this
      exact this
     ·rw[hnone]
      exact(show BRep c [.lb τ _ []] _ from⟨⟨hk,hv⟩,hm,rfl,hl,[],ha,.inr ⟨rfl,rfl⟩⟩)
     ·simp only[evG1,d1,d3]
  ·exact h.elim
 ·exact h.elim
theorem ufc_u (hc:c.ok) (hS:RepS c s e l Y) {b k id:Nat} {s':SU} (h:(ghW (.ufc b k id) s).out s'):∃e' l',RepS c s' e' l' Y∧∀o:List Bx,o.length=c.n->evG1 (.ufc b k id) ⟨e,l,o⟩=some ⟨e',l',o⟩:=by
 simp only[ghW]at h
 split at h
 ·rename_i ws τ' m xs0 hws h2
  split at h
  ·rename_i b' τ n hw
   split at h
   ·rename_i xs hcast
    split at h
    ·rename_i hcond
     obtain⟨rfl,hne⟩:=hcond
     obtain⟨v,o1,o2⟩:=out_b h
     subst o2
     obtain⟨e1,e2⟩:=mu_cast hcast
     subst e1
     subst e2
     have hnm:n=m:=by
      unfold eqI at o1
      split at o1
      ·assumption
      ·cases o1
     obtain⟨hws0,ds,d1,d2⟩:=own_box hS hws
     obtain⟨d,d3,d4⟩:=d2.get hw
     obtain⟨⟨n0,n1,_⟩,hd⟩:=(show Rep2 c (.rs b' τ' none n) d from d4)
     obtain⟨⟨hk,hv⟩,hmk,hlen,hl,es,ha,hb⟩:=(show BRep c [.lb τ' m xs0] (lk b' l)from hS.box b' _ h2)
     have hel:=ha.length
     have hn:n.toNat=es.length:=by omega
     have boxw:∀{L:Bx} {ds':List D},lk b L=some ds'->All2 (Rep2 c) ((ws.map (W.kl0 b')).set k (.u (.l .mu τ') xs0)) ds'->(∀b'' ws'',b''≠b->lkW b'' (rmW b' s.l)=some ws''->BRep c ws'' (lk b'' L))->
       ∀b'' ws'',lkW b'' (sbW b ((ws.map (W.kl0 b')).set k (.u (.l .mu τ') xs0)) (rmW b' s.l))=some ws''->BRep c ws'' (lk b'' L):=fun hLb hset hL b'' ws'' hb''=>by
      rw[lkW_sbW]at hb''
      by_cases e2:b''=b
      ·rw[if_pos e2]at hb''
       obtain⟨_,_,q2⟩:=Option.map_eq_some_iff.1 hb''
       subst q2
       rw[e2,hLb]
       exact BRep.of hset
      ·rw[if_neg e2]at hb''
       exact hL b'' ws'' e2 hb''
     have envw:∀t,Rep5 c e (getW t (klEW b' s.e)) (get t e):=fun t=>by rw[getW_kl];exact kl3_w (hS.env t)
     have oldw:∀b'' ws'',b''≠b->lkW b'' (rmW b' s.l)=some ws''->BRep c ws'' (lk b'' l):=fun b'' ws'' _ hb''=>by
      obtain⟨_,ws0,q1,rfl⟩:=lkW_rm hb''
      exact brep_w (hS.box b'' ws0 q1)
     have mapw:All2 (Rep2 c) (ws.map (W.kl0 b')) ds:=by
      have:=d2.map (f:=W.kl0 b') (g:=fun d=>d) (R':=Rep2 c) fun w d _ q=>kl0_w q
      simpa using this
     rcases hd with rfl|⟨h0,z,rfl⟩
     ·rcases hb with hb|⟨rfl,hb⟩
      ·have hch:=chunks_flat (els_mk hv hk hmk ha)
       have hlkb:lk b (klL c.n b' (rmL b' l))=some (ds.map (D.kl1 c.n b')):=by rw[lk_kl,lk_rm,if_neg hne,d1];rfl
       refine⟨klE c.n b' e,sb b ((ds.map (D.kl1 c.n b')).set k (.sl .mu (csz τ') es)) (klL c.n b' (rmL b' l)),⟨fun t=>?_,boxw (ds':=(ds.map (D.kl1 c.n b')).set k (.sl .mu (csz τ') es)) ?_ ?_ fun b'' ws'' h1 hb''=>?_,fun b'' hb''=>hS.nm b'' fun q=>hb'' ?_,hS.ext,hS.wr,hS.len,hS.ro⟩,fun o ho=>?_⟩
       ·rw[getW_kl,get_kl];exact kl3_s hc (hS.env t)
       ·rw[lk_sb,if_pos rfl,hlkb];rfl
       ·exact(d2.map (R':=Rep2 c) fun w d _ q=>kl0_s hc q).set k (show Rep2 c (.u (.l .mu τ') xs0) _ from⟨rfl,hl,es,ha,.inl rfl⟩)
       ·obtain⟨q0,ws0,q1,rfl⟩:=lkW_rm hb''
        rw[lk_sb,if_neg h1,lk_kl,lk_rm,if_neg q0]
        exact brep_s hc (hS.box b'' ws0 q1)
       ·rw[lk_sb]
        by_cases e2:b''=b
        ·rw[e2]at q;rw[d1]at q;cases q
        ·rw[if_neg e2,lk_kl,lk_rm,q];split<;>rfl
       ·have hrf:(es.flatMap D.cells).all D.rf1=true:=by
         refine List.all_eq_true.2 fun d hd=>?_
         obtain⟨e,he,hd⟩:=List.mem_flatMap.1 hd
         exact List.all_eq_true.1 (List.all_eq_true.1 (els_rf hv hk ha) e he) d hd
        simp only[evG1,hb,d1,d3]
        rw[if_pos ⟨ho.symm,trivial,by simp,by rw[hn];exact(flat_len fun i d hi=>els_len hv ha d (List.mem_of_getElem? hi)).symm,hrf,hne⟩,hn,hch,ho]
      ·refine⟨e,sb b (ds.set k (.sl .mu (csz τ') [])) l,⟨envw,boxw (ds':=ds.set k (.sl .mu (csz τ') [])) ?_ (mapw.set k (show Rep2 c (.u (.l .mu τ') xs0) _ from⟨rfl,hl,[],ha,.inl rfl⟩)) fun b'' ws'' h1 hb''=>?_,fun b'' hb''=>hS.nm b'' fun q=>hb'' ?_,hS.ext,hS.wr,hS.len,hS.ro⟩,fun o ho=>?_⟩
       ·rw[lk_sb,if_pos rfl,d1];rfl
       ·rw[lk_sb,if_neg h1];exact oldw b'' ws'' h1 hb''
       ·rw[lk_sb]
        by_cases e2:b''=b
        ·rw[e2]at q;rw[d1]at q;cases q
        ·rw[if_neg e2];exact q
       ·simp only[evG1,hb,d1,Option.bind_some,d3]
        rw[if_pos ⟨ho.symm,trivial⟩]
        rfl
     ·have he0:es=[]:=List.eq_nil_of_length_eq_zero (by omega)
      have hset:=mapw.set k (show Rep2 c (.u (.l .mu τ') xs0) (.sl .nl z [])from⟨rfl,hl,es,ha,.inr ⟨he0,z,rfl⟩⟩)
      rw[set_self d3]at hset
      refine⟨e,l,⟨envw,boxw d1 hset oldw,hS.nm,hS.ext,hS.wr,hS.len,hS.ro⟩,fun o ho=>?_⟩
      simp only[evG1,d1,Option.bind_some,d3]
      split<;>rfl
    ·exact h.elim
   ·exact h.elim
  ·exact h.elim
 ·exact h.elim
theorem dg_u (hS:RepS c s e l Y) {b k:Nat} {s':SU} (h:(ghW (.dg b k) s).out s'):∃e' l',RepS c s' e' l' Y∧∀o:List Bx,o.length=c.n->evG1 (.dg b k) ⟨e,l,o⟩=some ⟨e',l',o⟩:=by
 simp only[ghW]at h
 split at h
 ·rename_i ws hws
  split at h
  ·rename_i w hw
   have h:=out_r h
   subst h
   obtain⟨hws0,ds,d1,d2⟩:=own_box hS hws
   obtain⟨d,d3,d4⟩:=d2.get hw
   have hd:=dwn1_ok d4
   have hset:All2 (Rep2 c) (ws.set k w.dwn1) (ds.set k d.dwn1):=d2.set k hd
   refine⟨e,sb b (ds.set k d.dwn1) l,⟨hS.env,fun b' ws' hb'=>?_,fun b' hb'=>hS.nm b' fun q=>hb' ?_,hS.ext,hS.wr,hS.len,hS.ro⟩,fun o ho=>?_⟩
   ·simp only[lkW_sbW]at hb'
    rw[lk_sb]
    by_cases e:b'=b
    ·rw[if_pos e,hws0]at hb'
     rw[if_pos e,d1]
     have:=Option.some.inj hb'
     subst this
     exact BRep.of hset
    ·rw[if_neg e]at hb' ⊢
     exact hS.box b' ws' hb'
   ·rw[lk_sb]
    by_cases e:b'=b
    ·rw[e]at q;rw[d1]at q;cases q
    ·rw[if_neg e];exact q
   ·have self:d.dwn1=d->sb b (ds.set k d.dwn1) l=l:=fun h=>by
     rw[h,show ds.set k d=ds from by
      apply List.ext_getElem?
      intro i
      rw[List.getElem?_set]
      split
      ·rename_i e;subst e;rw[d3];simp[getq_lt d3]
      ·rfl]
     exact sb_id d1
    simp only[evG1,d1,d3]
    cases d with
    |sl m z xs=>cases m with
     |mu=>rfl
     |_=>exact congrArg some (by rw[self rfl])
    |_=>exact congrArg some (by rw[self rfl])
  ·exact h.elim
 ·exact h.elim
theorem gh1_ok (hc:c.ok) (hS:RepS c s e l Y) {p:Gc} {s':SU} (h:(ghW p s).out s'):∃e' l',RepS c s' e' l' Y∧∀o:List Bx,o.length=c.n->evG1 p ⟨e,l,o⟩=some ⟨e',l',o⟩:=by
 cases p with
 |dg b k=>exact dg_u hS h
 |th b k id=>exact th_u hS h
 |ufc b k id=>exact ufc_u hc hS h
theorem evGs_ok (hc:c.ok) {ρ:Type} {K:SU->Option ρ} {ans:ρ}:∀{L:List Gc} {s:SU} {e:Env} {l:Bx},RepS c s e l Y->evGs L s K=some ans->∃s' e' l',RepS c s' e' l' Y∧K s'=some ans∧∀o:List Bx,o.length=c.n->evG L ⟨e,l,o⟩=some ⟨e',l',o⟩
 |[],s,e,l,hS,h=>⟨s,e,l,hS,h,fun _ _=>rfl⟩
 |p::L,s,e,l,hS,h=>by
  simp only[evGs]at h
  have key:∀{s1:SU},(ghW p s).out s1->evGs L s1 K=some ans->∃s' e' l',RepS c s' e' l' Y∧K s'=some ans∧∀o:List Bx,o.length=c.n->evG (p::L) ⟨e,l,o⟩=some ⟨e',l',o⟩:=by
   intro s1 h1 h2
   obtain⟨e1,l1,q1,q2⟩:=gh1_ok hc hS h1
   obtain⟨s',e',l',q3,q4,q5⟩:=evGs_ok hc q1 h2
   exact⟨s',e',l',q3,q4,fun o ho=>by simp only[evG,q2 o ho,Option.bind_some];exact q5 o ho⟩
  split at h
  ·cases h
  ·rename_i s1 hg
   exact key (by rw[hg];rfl) h
  ·rename_i τ o d k hg
   obtain⟨x,h1,h2⟩:=Option.bind_eq_some_iff.1 h
   exact key (by rw[hg];exact⟨x,h1,rfl⟩) h2
end
end Go.Proofs.Ytfopbiiffiickaa.Ev.U
