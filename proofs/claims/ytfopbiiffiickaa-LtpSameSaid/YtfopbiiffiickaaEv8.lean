/- From a call that a claim makes to the evaluator. Conditions: none. -/
import Derived.Test.YtfopbiiffiickaaUl
import Derived.Test.YtfopbiiffiickaaU1
import Derived.Test.YtfopbiiffiickaaEvS
import Derived.ProofKit
import Derived.WalkKit
import Derived.OpenShut
import Derived.ShutString
import Derived.ChangeOld
import Derived.Below
import Derived.SizedLaws
set_option linter.all false
namespace Go.Proofs.Ytfopbiiffiickaa.Ev.U
open Go
def Post (c:Cx) (rs:RS) {ρ:Type} (x:Ex) (s':SU) (K:SU->Option ρ) (E:Nat->SU->Option ρ) (R:rs.sg.oT.T->Option ρ) (ans:ρ):Prop:=match x with
 | .nm=>K s'=some ans
 | .ex i=>i≠999999∧E i s'=some ans
 | .rt=>(rs.pack s').bind R=some ans∨E 999999 s'=some ans
def CR (c:Cx) (rs:RS) (t:Cd) {ρ:Type} (e:Env) (l:Bx) (Y:List (List D)) (K:SU->Option ρ) (E:Nat->SU->Option ρ) (R:rs.sg.oT.T->Option ρ) (ans:ρ):Prop:=
 ∃x s' e' l' Y',RepS c s' e' l' Y'∧(∀B,Fam c B->evC c.P t ⟨e,l,upd c.rg Y B⟩=some (x,⟨e',l',upd c.rg Y' B⟩))∧Post c rs x s' K E R ans
def RndOk (P:Caller):Tc->Prop
 | .sq a b=>RndOk P a∧RndOk P b
 | .ff _ a b=>RndOk P a∧RndOk P b
 | .bl _ a=>RndOk P a
 | .lp _ _ _ a=>RndOk P a
 | .jn _ _ _ a=>RndOk P a
 | .gs _ a=>RndOk P a
 |_=>True
def noRf:Tc->Bool
 | .sq a b=>noRf a&&noRf b
 | .ff _ a b=>noRf a&&noRf b
 | .bl _ a=>noRf a
 | .lp _ _ _ a=>noRf a
 | .jn _ _ _ a=>noRf a
 | .gs _ a=>noRf a
 |_=>true
theorem rndOk_of {P:Caller}:∀{t:Tc},noRf t=true->RndOk P t:=by
 intro t
 induction t with
 |sq a b iha ihb=>intro h;simp only[noRf,Bool.and_eq_true]at h;exact⟨iha h.1,ihb h.2⟩
 |ff x a b iha ihb=>intro h;simp only[noRf,Bool.and_eq_true]at h;exact⟨iha h.1,ihb h.2⟩
 |bl i a ih=>intro h;exact ih h
 |lp _ _ _ a ih=>intro h;exact ih h
 |jn _ _ _ a ih=>intro h;exact ih h
 |gs _ a ih=>intro h;exact ih h
 |_=>intro h;trivial
theorem sb_comm {b b':Nat} {x y:List D} (h:b≠b'):∀{l:Bx},sb b x (sb b' y l)=sb b' y (sb b x l)
 |[]=>rfl
 |(k,q)::r=>by
  by_cases e1:b'=k
  ·by_cases e2:b=k
   ·exact absurd (e2.trans e1.symm) h
   ·simp only[sb,if_pos e1,if_neg e2]
  ·by_cases e2:b=k
   ·simp only[sb,if_neg e1,if_pos e2]
   ·simp only[sb,if_neg e1,if_neg e2,sb_comm h]
end Go.Proofs.Ytfopbiiffiickaa.Ev.U
namespace Go.Proofs.Ytfopbiiffiickaa.Ev.U
open Go
theorem castT_id (a:Ty) (x:a.T):castT a a x=some x:=by simp[castT]
theorem dsp_inj {ρ:Type}:∀{L:List Ty} {j:Nat} {τ:Ty} {x:τ.T} {y:(XTy L).T} (h:Nat->(τ:Ty)->τ.T->Option ρ),injX L j τ x=some y->dspX L y h=h j τ x
 |[],j,τ,x,y,h,hi=>by cases hi
 |[a],0,τ,x,y,h,hi=>by
  obtain⟨e,hi⟩:=castT_eq (show castT τ a x=some y from hi)
  subst e;subst hi;rfl
 |[a],j+1,τ,x,y,h,hi=>by cases hi
 |a::b::L,0,τ,x,y,h,hi=>by
  obtain⟨z,h1,h2⟩:=Option.map_eq_some_iff.1 (show(castT τ a x).map Sum.inl=some y from hi)
  obtain⟨e,h1⟩:=castT_eq h1
  subst e;subst h1;subst h2;rfl
 |a::b::L,j+1,τ,x,y,h,hi=>by
  obtain⟨z,h1,h2⟩:=Option.map_eq_some_iff.1 (show(injX (b::L) j τ x).map Sum.inr=some y from hi)
  subst h2
  exact dsp_inj (L:=b::L) (fun i=>h (i+1)) h1
theorem fEx_get {i:Nat}:∀{ex:List (Nat×Sh)} {k j:Nat} {h:Sh},fEx i ex k=some (j,h)->k<=j∧ex[j-k]? =some (i,h)
 |[],k,j,h,hf=>by cases hf
 |(n,h')::r,k,j,h,hf=>by
  unfold fEx at hf
  by_cases e:i=n
  ·subst e
   rw[Nat.beq_refl,cond_true]at hf
   have:=Option.some.inj hf
   injection this with h1 h2
   subst h1 h2
   exact⟨Nat.le_refl _,by simp⟩
  ·rw[nbeq_f e,cond_false]at hf
   obtain⟨h1,h2⟩:=fEx_get hf
   exact⟨by omega,by rw[show j-k=(j-(k+1))+1 by omega];simpa using h2⟩
section
variable {c:Cx}
theorem in0_ok {bs:List Nat} {w:W} {d:D} (hc:c.ok) (h:Rep1 c w d) (hw:inW0 bs w=true):d.in1 c.n bs=true:=by
 have hasC:∀{L:List Nat} {b:Nat},hasN b L=true->L.contains b=true:=by
  intro L b
  induction L with
  |nil=>intro h;cases h
  |cons m L ih=>
   intro h
   rw[hasN_c]at h
   by_cases e:b=m
   ·subst e;simp
   ·rw[nbeq_f e,cond_false]at h
    simp only[List.contains_cons,ih h,Bool.or_true]
 cases w with
 |u τ x=>
  have h1:=h.1
  have h2:=h.2
  cases τ with
  |i k=>exact(flat_u (τ:=.i k) h2 rfl).inn _ _
  |b=>exact(flat_u (τ:=.b) h2 rfl).inn _ _
  |s=>exact(flat_u (τ:=.s) h2 rfl).inn _ _
  |l m t=>exact(flat_u (τ:=.l m t) h2 rfl).inn _ _
  |fn a r=>
   obtain⟨f,caps,rfl,h3,_⟩:=fn_d h2
   refine List.all_eq_true.2 fun d hd=>?_
   have:=h3 d hd
   cases d with
   |ptr f b o=>
    obtain⟨x,x1,x2⟩:=this
    have:=(hc.fd x x1).1
    rw[x2]at this
    simp[this]
   |v=>rfl
   |fptr=>rfl
   |_=>exact this.elim
  |cl f r=>
   obtain⟨_,cs,rfl,h3⟩:=cl_d h2
   rfl
  |_=>cases h1
 |nil=>obtain⟨z,rfl⟩:=h;rfl
 |np=>rw[show d= .v (.pointer none)from h];rfl
 |pt b off=>cases b with
  |own b=>
   rw[show d= .ptr c.n b off from h]
   have:=hasC (show hasN b bs=true from hw)
   simp only[D.in1,beq_self_eq_true,this,Bool.and_self,Bool.or_true]
  |ext i=>
   obtain⟨r,h1,rfl⟩:=h
   have:=hc.lt r (List.mem_of_getElem? h1)
   simp[D.in1,this]
 |fp ws off=>obtain⟨_,rfl,_⟩:=h;rfl
 |_=>cases hw
theorem in1_ok {bs:List Nat} {w:W} {d:D} (hc:c.ok) (h:Rep2 c w d) (hw:inW1 bs w=true):d.in1 c.n bs=true:=by
 cases w with
 |clo f ws=>
  obtain⟨cs,rfl,h2,h3⟩:=h
  have key:∀{ws:List W} {cs:List D},All2 (Rep1 c) ws cs->ws.all (inW0 bs)=true->ws.all capW=true->(cs.all fun| .ptr f s _=>decide (f<c.n)||(f==c.n&&bs.contains s)| .v _=>true| .fptr _ _=>true|_=>false)=true:=fun ha h1 h2=>All2.all_r (fun w d hm q=>by
   have k:=in0_ok hc q (List.all_eq_true.1 h1 w hm)
   have k2:=List.all_eq_true.1 h2 w hm
   cases w with
   |pt b off=>cases b with
    |own b=>rw[show d= .ptr c.n b off from q]at k ⊢;exact k
    |ext i=>obtain⟨r,_,rfl⟩:=q;exact k
   |fp=>obtain⟨_,rfl,_⟩:=q;rfl
   |u τ x=>cases τ with
    |i k=>rw[(i_d q.2).1]
    |b=>rw[b_d q.2]
    |s=>rw[(s_d q.2).1]
    |_=>cases k2
   |_=>cases k2) ha
  exact key h2 hw h3
 |u τ x=>exact in0_ok hc (w:=.u τ x) h hw
 |nil=>exact in0_ok hc (w:=.nil) h hw
 |np=>exact in0_ok hc (w:=.np) h hw
 |pt b o=>exact in0_ok hc (w:=.pt b o) h hw
 |fp ws o=>exact in0_ok hc (w:=.fp ws o) h hw
 |_=>cases hw
theorem in_ok {bs:List Nat} {w:W} {d:D} (hc:c.ok) (h:Rep4 c w d) (hw:inW bs w=true):d.inn c.n bs=true:=by
 cases w with
 |ag ws=>
  obtain⟨cs,rfl,h2⟩:=h
  exact All2.all_r (fun w d hm q=>in1_ok hc q (List.all_eq_true.1 hw w hm)) h2
 |tp=>cases hw
 |un=>cases hw
 |gd=>cases hw
 |_=>
  have h2:=of3 (of4 h (fun _ q=>by cases q)) (fun _ q=>by cases q)
  have k:d.in1 c.n bs=true:=in1_ok hc h2 (by exact hw)
  rcases ag_d h2 (fun _ q=>by cases q)with q|q|q
  ·cases q
  ·cases q
  rcases tup_d (to3 h2)with q'|q'
  ·cases q'
  have:∀{d:D},d.aggB=false->d.tupB=false->d.inn c.n bs=d.in1 c.n bs:=fun{d} h h'=>by cases d<;>first|rfl|(cases h;done)|(cases h';done)
  rw[this q q'];exact k
variable {e:Env} {l:Bx} {Y:List (List D)} {s:SU}
theorem fillE_names:∀{ks:List (Nat×Kd)} {ws:List W},(fillE ks ws).1.map (·.1)=ks.map (·.1)
 |[],ws=>rfl
 |(n,k)::r,ws=>by simp only[fillE,List.map_cons,fillE_names]
theorem fillB_names:∀{ks:List (Nat×List Kd)} {ws:List W},(fillB ks ws).1.map (·.1)=ks.map (·.1)
 |[],ws=>rfl
 |(n,k)::r,ws=>by simp only[fillB,List.map_cons,fillB_names]
theorem getW_mem {t:Nat}:∀{E:List (Nat×W)},t∈E.map (·.1)->(t,getW t E)∈E
 |[],h=>by simp at h
 |(n,w)::r,h=>by
  by_cases e:t=n
  ·subst e;simp[getW,Nat.beq_refl]
  ·simp only[getW,nbeq_f e,cond_false]
   simp only[List.map_cons,List.mem_cons]at h
   exact List.mem_cons_of_mem _ (getW_mem (h.resolve_left e))
theorem getW_none {t:Nat}:∀{E:List (Nat×W)},t∉E.map (·.1)->getW t E= .un
 |[],h=>rfl
 |(n,w)::r,h=>by
  simp only[List.map_cons,List.mem_cons,not_or]at h
  simp only[getW,nbeq_f h.1,cond_false]
  exact getW_none h.2
theorem lkW_mem {t:Nat}:∀{E:List (Nat×List W)},t∈E.map (·.1)->∃ws,lkW t E=some ws∧(t,ws)∈E
 |[],h=>by simp at h
 |(n,w)::r,h=>by
  by_cases e:t=n
  ·subst e;exact⟨w,by simp[lkW,Nat.beq_refl],by simp⟩
  ·simp only[List.map_cons,List.mem_cons]at h
   obtain⟨ws,h1,h2⟩:=lkW_mem (h.resolve_left e)
   exact⟨ws,by simp only[lkW,nbeq_f e,cond_false];exact h1,List.mem_cons_of_mem _ h2⟩
theorem lkW_none {t:Nat}:∀{E:List (Nat×List W)},t∉E.map (·.1)->lkW t E=none
 |[],h=>rfl
 |(n,w)::r,h=>by
  simp only[List.map_cons,List.mem_cons,not_or]at h
  simp only[lkW,nbeq_f h.1,cond_false]
  exact lkW_none h.2
theorem carE_ok {k:Nat} {bs:List Nat} {e:Env}:∀{ks:List Nat},(∀t∈ks,(get t e).inn k bs=true)->∃e1,carE k bs e ks=some e1∧∀t,get t e1=if t∈ks then get t e else .u
 |[],_=>⟨[],rfl,fun t=>by simp[get]⟩
 |n::r,h=>by
  obtain⟨e1,h1,h2⟩:=carE_ok fun t ht=>h t (List.mem_cons_of_mem _ ht)
  refine⟨(n,get n e)::e1,by simp only[carE,if_pos (h n (by simp)),h1,Option.map_some],fun t=>?_⟩
  rw[get_put,h2]
  by_cases e':t=n
  ·subst e';simp
  ·simp[e']
theorem carL_ok {k:Nat} {bs:List Nat} {l:Bx}:∀{ks:List Nat},(∀t∈ks,∃ds,lk t l=some ds∧ds.all (D.in1 k bs)=true)->∃l1,carL k bs l ks=some l1∧∀t,lk t l1=if t∈ks then lk t l else none
 |[],_=>⟨[],rfl,fun t=>by simp[lk]⟩
 |n::r,h=>by
  obtain⟨l1,h1,h2⟩:=carL_ok fun t ht=>h t (List.mem_cons_of_mem _ ht)
  obtain⟨ds,q1,q2⟩:=h n (by simp)
  refine⟨(n,ds)::l1,by simp only[carL,q1,if_pos q2,h1,Option.map_some],fun t=>?_⟩
  simp only[lk]
  by_cases e':t=n
  ·subst e';simp[q1]
  ·rw[if_neg e',h2]
   simp[e']
theorem carry_ok (hc:c.ok) {h:Sh} {x:h.ty.T} (hS:RepS c s e l Y) (hp:h.pack0 s=some x) (hl:lokS h (h.fill x)=true):∃e1 l1,RepS c (h.fill x) e1 l1 Y∧∀o:List Bx,o.length=c.n->carry (h.ks.map (·.1)) (h.bs.map (·.1)) ⟨e,l,o⟩=some ⟨e1,l1,o⟩:=by
 obtain⟨p1,p2,p3,p4,p5⟩:=shp0_ok hS hp
 simp only[lokS,Bool.and_eq_true]at hl
 obtain⟨⟨l1,l2⟩,l3⟩:=hl
 have ne:(h.fill x).e.map (·.1)=h.ks.map (·.1):=fillE_names
 have nb:(h.fill x).l.map (·.1)=h.bs.map (·.1):=fillB_names
 have env4:∀t∈h.ks.map (·.1),Rep4 c (getW t (h.fill x).e) (get t e)∧inW (h.bs.map (·.1)) (getW t (h.fill x).e)=true:=by
  intro t ht
  rw[<-ne]at ht
  have hm:=getW_mem ht
  have hi:=List.all_eq_true.1 l1 _ hm
  exact⟨p1 t,hi⟩
 obtain⟨e1,c1,c2⟩:=carE_ok (k:=c.n) (bs:=h.bs.map (·.1)) (e:=e) (ks:=h.ks.map (·.1)) fun t ht=>in_ok hc (env4 t ht).1 (env4 t ht).2
 have box4:∀b∈h.bs.map (·.1),∃ws ds,lkW b (h.fill x).l=some ws∧lk b l=some ds∧All2 (Rep2 c) ws ds∧ds.all (D.in1 c.n (h.bs.map (·.1)))=true:=by
  intro b hb
  rw[<-nb]at hb
  obtain⟨ws,h1,h2⟩:=lkW_mem hb
  obtain⟨ds,h3,h4⟩:=p2 b ws h1
  have hi:=List.all_eq_true.1 l2 _ h2
  exact⟨ws,ds,h1,h3,h4,All2.all_r (fun w d hm q=>in1_ok hc q (List.all_eq_true.1 hi w hm)) h4⟩
 obtain⟨L1,d1,d2⟩:=carL_ok (k:=c.n) (bs:=h.bs.map (·.1)) (l:=l) (ks:=h.bs.map (·.1)) fun b hb=>by
  obtain⟨ws,ds,_,q1,_,q2⟩:=box4 b hb
  exact⟨ds,q1,q2⟩
 refine⟨e1,L1,⟨fun t=>?_,fun b ws hb=>?_,fun b hb=>?_,p3,p4,hS.len,hS.ro⟩,fun o ho=>?_⟩
 ·rw[c2]
  by_cases ht:t∈h.ks.map (·.1)
  ·rw[if_pos ht];exact Rep5_of (env4 t ht).1
  ·rw[if_neg ht,getW_none (by rw[ne];exact ht)];trivial
 ·rw[d2]
  by_cases ht:b∈h.bs.map (·.1)
  ·rw[if_pos ht];obtain⟨ds,q1,q2⟩:=p2 b ws hb;rw[q1];exact BRep.of q2
  ·rw[lkW_none (by rw[nb];exact ht)]at hb;cases hb
 ·rw[d2]at hb
  by_cases ht:b∈h.bs.map (·.1)
  ·obtain⟨y,hy,rfl⟩:=List.mem_map.1 ht
   rw[p5];exact List.all_eq_true.1 l3 y hy
  ·rw[if_neg ht]at hb;exact absurd rfl hb
 ·simp only[carry,ho,c1,d1]
theorem exE_ok {X:Type} {L:List Ty} {ex:List (Nat×Sh)} {k:Nat} {w:(XTy L).T->X} {i:Nat} {a:X} (h:exE L ex k w i s=some a):∃j h' γ y,ex[j]? =some (i,h')∧h'.pack s=some γ∧injX L (j+k) h'.ty γ=some y∧w y=a:=by
 unfold exE at h
 split at h
 ·rename_i j h' hf
  obtain⟨q1,q2⟩:=fEx_get hf
  obtain⟨γ,g1,g2⟩:=Option.bind_eq_some_iff.1 h
  obtain⟨y,g3,g4⟩:=Option.map_eq_some_iff.1 g2
  exact⟨j,h',γ,y,by simpa using q2,g1,g3,g4⟩
 ·cases h
theorem exR_ok {X:Type} {rs:RS} {L:List Ty} {ex:List (Nat×Sh)} {rt:Bool} {k:Nat} {w:(XTy L).T->X} {r:rs.sg.oT.T} {a:X} (h:exR rs L ex rt k w r=some a):∃y,injX L (ex.length+k) rs.sg.oT r=some y∧w y=a:=by
 unfold exR at h
 cases rt with
 |false=>cases h
 |true=>
  obtain⟨y,g3,g4⟩:=Option.map_eq_some_iff.1 h
  exact⟨y,g3,g4⟩
theorem exD_ex {ρ:Type} {rs:RS} {ex:List (Nat×Sh)} {E:Nat->SU->Option ρ} {R:rs.sg.oT.T->Option ρ} {j i:Nat} {h:Sh} {γ:h.ty.T} (hj:ex[j]? =some (i,h)):exD rs ex E R j h.ty γ=E i (h.fill γ):=by
 unfold exD
 rw[hj]
 simp only[castT_id,Option.bind_some]
theorem exD_rt {ρ:Type} {rs:RS} {ex:List (Nat×Sh)} {E:Nat->SU->Option ρ} {R:rs.sg.oT.T->Option ρ} {r:rs.sg.oT.T}:exD rs ex E R ex.length rs.sg.oT r=R r:=by
 unfold exD
 rw[List.getElem?_eq_none (Nat.le_refl _)]
 simp only[castT_id,Option.bind_some]
theorem evT_ok {T:Tab} (rs:RS):∀(t:Tc) {c:Cx},c.ok->TabOk c.P T->RndOk c.P t->∀{ρ:Type} {s:SU} {e:Env} {l:Bx} {Y:List (List D)} {K:SU->Option ρ} {E:Nat->SU->Option ρ} {R:rs.sg.oT.T->Option ρ} {ans:ρ},RepS c s e l Y->evT T rs t s K E R=some ans->CR c rs t.er e l Y K E R ans:=by
 intro t
 induction t with
 |sk=>intro c hc hT hR ρ s e l Y K E R ans hS h;exact⟨.nm,s,e,l,Y,hS,fun B hB=>rfl,h⟩
 |rg L=>
  intro c hc hT hR ρ s e l Y K E R ans hS h
  obtain⟨s',e',l',Y',h1,h2,h3⟩:=evS_ok hc hT hS h
  exact⟨.nm,s',e',l',Y',h1,fun B hB=>by simp only[Tc.er,evC,h3 B hB,Option.map_some],h2⟩
 |dr L=>
  intro c hc hT hR ρ s e l Y K E R ans hS h
  obtain⟨s',e',l',Y',h1,h2,h3⟩:=evD_ok hc hT hS h
  exact⟨.nm,s',e',l',Y',h1,fun B hB=>by simp only[Tc.er,evC,h3 B hB [] trivial,Option.map_some],h2⟩
 |ex i=>
  intro c hc hT hR ρ s e l Y K E R ans hS h
  simp only[evT]at h
  by_cases q:i=999999
  ·subst q;rw[Nat.beq_refl,cond_true]at h;cases h
  ·rw[nbeq_f q,cond_false]at h
   exact⟨.ex i,s,e,l,Y,hS,fun B hB=>rfl,q,h⟩
 |rt=>intro c hc hT hR ρ s e l Y K E R ans hS h;exact⟨.rt,s,e,l,Y,hS,fun B hB=>rfl,.inl h⟩
 |rtx=>intro c hc hT hR ρ s e l Y K E R ans hS h;exact⟨.rt,s,e,l,Y,hS,fun B hB=>rfl,.inr h⟩
 |sq a b iha ihb=>
  intro c hc hT hR ρ s e l Y K E R ans hS h
  obtain⟨x,s1,e1,l1,Y1,h1,h2,h3⟩:=iha hc hT hR.1 hS h
  cases x with
  |nm=>
   obtain⟨x,s2,e2,l2,Y2,k1,k2,k3⟩:=ihb hc hT hR.2 h1 h3
   exact⟨x,s2,e2,l2,Y2,k1,fun B hB=>by simp only[Tc.er,evC,h2 B hB,k2 B hB],k3⟩
  |ex i=>exact⟨.ex i,s1,e1,l1,Y1,h1,fun B hB=>by simp only[Tc.er,evC,h2 B hB],h3⟩
  |rt=>exact⟨.rt,s1,e1,l1,Y1,h1,fun B hB=>by simp only[Tc.er,evC,h2 B hB],h3⟩
 |ff x a b iha ihb=>
  intro c hc hT hR ρ s e l Y K E R ans hS h
  have hx:=rdW_ok hS (act_nil e) x
  simp only[evT]at h
  split at h
  ·rename_i q hq
   rw[hq]at hx
   have hd:rdE e x= .v (.bool q):=b_d hx.2
   cases q with
   |true=>
    rw[if_pos rfl]at h
    obtain⟨x',s1,e1,l1,Y1,h1,h2,h3⟩:=iha hc hT hR.1 hS h
    exact⟨x',s1,e1,l1,Y1,h1,fun B hB=>by simp only[Tc.er,evC,rd_fst,hd,if_true,h2 B hB],h3⟩
   |false=>
    rw[if_neg (by simp)]at h
    obtain⟨x',s1,e1,l1,Y1,h1,h2,h3⟩:=ihb hc hT hR.2 hS h
    exact⟨x',s1,e1,l1,Y1,h1,fun B hB=>by simp only[Tc.er,evC,rd_fst,hd,Bool.false_eq_true,if_false,h2 B hB],h3⟩
  ·cases h
 |bl id a iha=>
  intro c hc hT hR ρ s e l Y K E R ans hS h
  obtain⟨x,s1,e1,l1,Y1,h1,h2,h3⟩:=iha hc hT hR hS h
  cases x with
  |nm=>exact⟨.nm,s1,e1,l1,Y1,h1,fun B hB=>by simp only[Tc.er,evC,h2 B hB],h3⟩
  |rt=>exact⟨.rt,s1,e1,l1,Y1,h1,fun B hB=>by simp only[Tc.er,evC,h2 B hB],h3⟩
  |ex i=>
   obtain⟨hi9,h3⟩:=h3
   have h3:(bif Nat.beq i 999999 then E i s1 else bif Nat.beq i id then K s1 else E i s1)=some ans:=h3
   rw[nbeq_f hi9,cond_false]at h3
   by_cases e:i=id
   ·subst e
    rw[Nat.beq_refl,cond_true]at h3
    exact⟨.nm,s1,e1,l1,Y1,h1,fun B hB=>by simp only[Tc.er,evC,h2 B hB,if_true],h3⟩
   ·rw[nbeq_f e,cond_false]at h3
    exact⟨.ex i,s1,e1,l1,Y1,h1,fun B hB=>by simp only[Tc.er,evC,h2 B hB,if_neg e],hi9,h3⟩
 |gs L a iha=>
  intro c hc hT hR ρ s e l Y K E R ans hS h
  simp only[evT]at h
  obtain⟨s1,e1,l1,g1,g3,g2⟩:=evGs_ok hc hS h
  obtain⟨x,s2,e2,l2,Y2,k1,k2,k3⟩:=iha hc hT hR g1 g3
  exact⟨x,s2,e2,l2,Y2,k1,fun B hB=>by simp only[Tc.er,evC,g2 _ (fam_len hB Y),k2 B hB],k3⟩
 |jn h0 ex rt a iha=>
  intro c hc hT hR ρ s e l Y K E R ans hS h
  simp only[evT]at h
  obtain⟨y,g1,g2⟩:=Option.bind_eq_some_iff.1 h
  obtain⟨x,s1,e1,l1,Y1,h1,h2,h3⟩:=iha hc hT hR hS g1
  cases x with
  |nm=>
   obtain⟨γ,p1,p2⟩:=Option.bind_eq_some_iff.1 h3
   rw[dsp_inj _ p2]at g2
   simp only[castT_id,Option.bind_some]at g2
   exact⟨.nm,_,e1,l1,Y1,shp_ok h1 p1,h2,g2⟩
  |ex i=>
   obtain⟨hi9,h3⟩:=h3
   obtain⟨j,h',γ,z,j1,j2,j3,j4⟩:=exE_ok h3
   have j4:z=y:=j4
   subst j4
   rw[dsp_inj _ j3]at g2
   have g2:exD rs ex E R j h'.ty γ=some ans:=g2
   rw[exD_ex j1]at g2
   exact⟨.ex i,_,e1,l1,Y1,shp_ok h1 j2,h2,hi9,g2⟩
  |rt=>
   rcases h3 with h3|h3
   rotate_left
   ·obtain⟨j,h',γ,z,j1,j2,j3,j4⟩:=exE_ok h3
    have j4:z=y:=j4
    subst j4
    rw[dsp_inj _ j3]at g2
    have g2:exD rs ex E R j h'.ty γ=some ans:=g2
    rw[exD_ex j1]at g2
    exact⟨.rt,_,e1,l1,Y1,shp_ok h1 j2,h2,.inr g2⟩
   ·obtain⟨r,r1,r2⟩:=Option.bind_eq_some_iff.1 h3
    obtain⟨z,j3,j4⟩:=exR_ok r2
    have j4:z=y:=j4
    subst j4
    rw[dsp_inj _ j3]at g2
    have g2:exD rs ex E R ex.length rs.sg.oT r=some ans:=g2
    rw[exD_rt]at g2
    exact⟨.rt,s1,e1,l1,Y1,h1,h2,.inl (by show(rs.pack s1).bind R=some ans;rw[r1];exact g2)⟩
 |lp h0 ex rt a iha=>
  intro c hc hT hR ρ s e l Y K E R ans hS h
  simp only[evT]at h
  split at h
  ·cases h
  ·rename_i x0 hx0
   obtain⟨y,g1,g2⟩:=Option.bind_eq_some_iff.1 h
   obtain⟨n,hn⟩:=lim_ex g1
   clear h g1
   have key:∀(n:Nat) {s:SU} {e:Env} {l:Bx} {Y:List (List D)} {x0:h0.ty.T},RepS c s e l Y->h0.pack0 s=some x0->
     itU (fun x=>bif !(lokS h0 (h0.fill x))then none else evT T rs a (h0.fill x) (fun s'=>(h0.pack0 s').map Sum.inl) (exE (exTys rs ex rt) ex 0 Sum.inr) (exR rs (exTys rs ex rt) ex rt 0 Sum.inr)) n x0=some y->
     ∃x s' e' l' Y',RepS c s' e' l' Y'∧(∀B,Fam c B->evC c.P (Tc.lp h0 ex rt a).er ⟨e,l,upd c.rg Y B⟩=some (x,⟨e',l',upd c.rg Y' B⟩))∧
      (match x with
       | .nm=>False
       | .ex i=>i≠999999∧∃j h' γ,ex[j]? =some (i,h')∧h'.pack s'=some γ∧injX (exTys rs ex rt) j h'.ty γ=some y
       | .rt=>(∃r,rs.pack s'=some r∧injX (exTys rs ex rt) ex.length rs.sg.oT r=some y)∨∃j h' γ,ex[j]? =some (999999,h')∧h'.pack s'=some γ∧injX (exTys rs ex rt) j h'.ty γ=some y):=by
    intro n
    induction n with
    |zero=>intro s e l Y x0 _ _ h;cases h
    |succ n ih=>
     intro s e l Y x0 hS hp h
     simp only[itU]at h
     cases hl:lokS h0 (h0.fill x0)with
     |false=>rw[hl]at h;cases h
     |true=>
      obtain⟨e1,l1,c1,c2⟩:=carry_ok hc hS hp hl
      simp only[hl,Bool.not_true,cond_false]at h
      split at h
      ·cases h
      ·rename_i x1 hb
       obtain⟨x,s2,e2,l2,Y2,h1,h2,h3⟩:=iha hc hT hR c1 hb
       have step:∀B,Fam c B->evC c.P (Tc.lp h0 ex rt a).er ⟨e,l,upd c.rg Y B⟩=match x with
         | .nm=>evC c.P (Tc.lp h0 ex rt a).er ⟨e2,l2,upd c.rg Y2 B⟩
         |x=>some (x,⟨e2,l2,upd c.rg Y2 B⟩):=fun B hB=>by
        simp only[Tc.er]
        rw[evC_lp,c2 _ (fam_len hB Y)]
        simp only[h2 B hB]
        cases x<;>rfl
       cases x with
       |nm=>
        obtain⟨γ,p1,p2⟩:=Option.map_eq_some_iff.1 h3
        injection p2 with p2
        subst p2
        obtain⟨x,s3,e3,l3,Y3,k1,k2,k3⟩:=ih h1 p1 h
        exact⟨x,s3,e3,l3,Y3,k1,fun B hB=>(step B hB).trans (k2 B hB),k3⟩
       |ex i=>obtain⟨j,h',γ,z,j1,j2,j3,j4⟩:=exE_ok h3.2;exact absurd j4 (by simp)
       |rt=>
        rcases h3 with h3|h3
        ·obtain⟨r,r1,r2⟩:=Option.bind_eq_some_iff.1 h3
         obtain⟨z,j3,j4⟩:=exR_ok r2
         exact absurd j4 (by simp)
        ·obtain⟨j,h',γ,z,j1,j2,j3,j4⟩:=exE_ok h3;exact absurd j4 (by simp)
      ·rename_i x1 hb
       have:=Option.some.inj h
       subst this
       obtain⟨x,s2,e2,l2,Y2,h1,h2,h3⟩:=iha hc hT hR c1 hb
       have step:∀B,Fam c B->x≠ .nm->evC c.P (Tc.lp h0 ex rt a).er ⟨e,l,upd c.rg Y B⟩=some (x,⟨e2,l2,upd c.rg Y2 B⟩):=fun B hB hx=>by
        simp only[Tc.er]
        rw[evC_lp,c2 _ (fam_len hB Y)]
        simp only[h2 B hB]
        all_goals(cases x<;>first|rfl|exact absurd rfl hx)
       cases x with
       |nm=>obtain⟨γ,p1,p2⟩:=Option.map_eq_some_iff.1 h3;first|(cases p2;done)|skip
       |ex i=>
        obtain⟨hi9,h3⟩:=h3
        obtain⟨j,h',γ,z,j1,j2,j3,j4⟩:=exE_ok h3
        injection j4 with j4
        subst j4
        exact⟨.ex i,s2,e2,l2,Y2,h1,fun B hB=>step B hB (by simp),hi9,j,h',γ,j1,j2,j3⟩
       |rt=>
        rcases h3 with h3|h3
        ·obtain⟨r,r1,r2⟩:=Option.bind_eq_some_iff.1 h3
         obtain⟨z,j3,j4⟩:=exR_ok r2
         injection j4 with j4
         subst j4
         exact⟨.rt,s2,e2,l2,Y2,h1,fun B hB=>step B hB (by simp),.inl ⟨r,r1,j3⟩⟩
        ·obtain⟨j,h',γ,z,j1,j2,j3,j4⟩:=exE_ok h3
         injection j4 with j4
         subst j4
         exact⟨.rt,s2,e2,l2,Y2,h1,fun B hB=>step B hB (by simp),.inr ⟨j,h',γ,j1,j2,j3⟩⟩
   obtain⟨x,s2,e2,l2,Y2,k1,k2,k3⟩:=key n hS hx0 hn
   cases x with
   |nm=>exact k3.elim
   |ex i=>
    obtain⟨hi9,j,h',γ,j1,j2,j3⟩:=k3
    rw[dsp_inj _ j3,exD_ex j1]at g2
    exact⟨.ex i,_,e2,l2,Y2,shp_ok k1 j2,k2,hi9,g2⟩
   |rt=>
    rcases k3 with⟨r,r1,j3⟩|⟨j,h',γ,j1,j2,j3⟩
    ·rw[dsp_inj _ j3,exD_rt]at g2
     exact⟨.rt,s2,e2,l2,Y2,k1,k2,.inl (by show(rs.pack s2).bind R=some ans;rw[r1];exact g2)⟩
    ·rw[dsp_inj _ j3,exD_ex j1]at g2
     exact⟨.rt,_,e2,l2,Y2,shp_ok k1 j2,k2,.inr g2⟩
end
end Go.Proofs.Ytfopbiiffiickaa.Ev.U
namespace Go.Proofs.Ytfopbiiffiickaa.Ev.U
open Go
section
variable {c:Cx} {e:Env} {l:Bx} {Y:List (List D)} {s:SU}
theorem resLW_ok (hc:c.ok):∀{rs:List Res} {s:SU} {e:Env} {l:Bx} {Y:List (List D)} {q:List W×SU},RepS c s e l Y->resLW rs s=some q->∃ds e' l' Y',RepS c q.2 e' l' Y'∧All2 (Rep4 c) q.1 ds∧∀B,Fam c B->resL c.P rs ⟨e,l,upd c.rg Y B⟩=some (ds,⟨e',l',upd c.rg Y' B⟩)
 |[],s,e,l,Y,q,hS,h=>by
  have:=Option.some.inj h
  subst this
  exact⟨[],e,l,Y,hS,trivial,fun B hB=>rfl⟩
 | .t n::r,s,e,l,Y,q,hS,h=>by
  simp only[resLW]at h
  obtain⟨q1,h1,h2⟩:=Option.map_eq_some_iff.1 h
  subst h2
  obtain⟨ds,e',l',Y',g1,g2,g3⟩:=resLW_ok hc (rdW_st hS (.m n)) h1
  refine⟨rdE e (.m n)::ds,e',l',Y',g1,⟨rdW_ok hS (act_nil e) (.m n),g2⟩,fun B hB=>?_⟩
  have g3:=g3 B hB
  simp only[resL,res1,Option.bind_some,rd_fst,rd_snd,g3,Option.map_some]
 | .c n k::r,s,e,l,Y,q,hS,h=>by
  simp only[resLW]at h
  split at h
  ·rename_i w s1 hw
   obtain⟨q1,h1,h2⟩:=Option.map_eq_some_iff.1 h
   subst h2
   obtain⟨d,e1,l1,Y1,k1,k2,k3⟩:=opLdm (T:=fun _=>none) (a:=.n) (t:=none) hc hS (show(evOpW _ [] none .n (.ldm k (.t n)) s).out (some (w,s1))from by rw[hw];rfl)
   obtain⟨ds,e',l',Y',g1,g2,g3⟩:=resLW_ok hc k1 h1
   refine⟨d::ds,e',l',Y',g1,⟨k2,g2⟩,fun B hB=>?_⟩
   simp only[resL,res1,k3 B hB,Option.bind_some,g3 B hB,Option.map_some]
  ·cases h
theorem okR_flat {w:W} {d:D} (h:Rep4 c w d) (hw:w.okR=true):Flat d:=by
 cases w with
 |u τ x=>
  have h1:=h.1
  have h2:=h.2
  cases τ with
  |i k=>exact flat_u h2 rfl
  |b=>exact flat_u (τ:=.b) h2 rfl
  |s=>exact flat_u (τ:=.s) h2 rfl
  |l m t=>exact flat_u h2 rfl
  |fn a r=>cases hw
  |cl a r=>cases hw
  |_=>cases h1
 |nil=>obtain⟨z,rfl⟩:=h;exact flat_sl
 |_=>cases hw
theorem okR2_ok {w:W} {d:D} (h:Rep4 c w d) (hw:w.okR2=true):(∀k l,d.frz2 k l=d)∧(∀k,d.bnd2 k=true)∧Rep3 c w d:=by
 cases w with
 |ag ws=>
  obtain⟨cs,rfl,h2⟩:=h
  have key:∀{ws:List W} {cs:List D},All2 (Rep2 c) ws cs->ws.all W.okR=true->(∀k l,cs.map (D.frz1 k l)=cs)∧∀k,cs.all (D.bnd1 k)=true:=by
   intro ws
   induction ws with
   |nil=>intro cs h _;obtain rfl:=h.nil_l;exact⟨fun _ _=>rfl,fun _=>rfl⟩
   |cons w ws ih=>
    intro cs h hk
    obtain⟨d,q,rfl,a1,a2⟩:=h.cons_l
    simp only[List.all_cons,Bool.and_eq_true]at hk
    have f:=okR_flat (to4x2 a1) hk.1
    obtain⟨i1,i2⟩:=ih a2 hk.2
    exact⟨fun k l=>by simp only[List.map_cons,f.frz,i1],fun k=>by simp only[List.all_cons,f.bnd,i2,Bool.and_self]⟩
  obtain⟨k1,k2⟩:=key h2 hw
  exact⟨fun k l=>by simp only[D.frz2,k1],k2,cs,rfl,h2⟩
 |u τ x=>
  have f:=okR_flat h hw
  have e1:∀{d:D},d.aggB=false->(∀k l,d.frz2 k l=d.frz1 k l)∧∀k,d.bnd2 k=d.bnd1 k:=fun{d} h=>by cases d<;>first|exact⟨fun _ _=>rfl,fun _=>rfl⟩|cases h
  obtain⟨k1,k2⟩:=e1 f.agg
  exact⟨fun k l=>by rw[k1,f.frz],fun k=>by rw[k2,f.bnd],h⟩
 |nil=>
  have f:=okR_flat h hw
  have e1:∀{d:D},d.aggB=false->(∀k l,d.frz2 k l=d.frz1 k l)∧∀k,d.bnd2 k=d.bnd1 k:=fun{d} h=>by cases d<;>first|exact⟨fun _ _=>rfl,fun _=>rfl⟩|cases h
  obtain⟨k1,k2⟩:=e1 f.agg
  exact⟨fun k l=>by rw[k1,f.frz],fun k=>by rw[k2,f.bnd],h⟩
 |_=>cases hw
theorem out_ok {r:Ty} {L:List Ty} {w:W} {ws:List W} {d:D} {ds:List D} {y:(oTy r L).T} (h:outT r L w ws=some y) (hr:r.fo=true) (hL:L=[]∨(tyOf L).fo=true) (hd:Rep4 c w d) (hds:All2 (Rep4 c) ws ds):
  Rep4 (c0 c.P) (outW r L y).1 d∧(L≠[]->All2 (Rep3 (c0 c.P)) (outW r L y).2 ds):=by
 have one:∀{r:Ty} {y:r.T},r.fo=true->resT r w=some y->Rep4 (c0 c.P) (resW r y) d:=fun hr h=>by
  obtain⟨k1,q,k2,k3⟩:=resT_ok h hd
  exact resW_ok (c:=c0 c.P) k1 ⟨q,k2,RepL.fo hr k3⟩
 have rows:∀{L:List Ty} {z:(tyOf L).T},(tyOf L).fo=true->tupT (tyOf L) ws=some z->All2 (Rep3 (c0 c.P)) (tupW (tyOf L) z) ds:=fun hf h=>by
  obtain⟨k1,k2⟩:=tupT_ok h hds
  exact tupW_ok (c:=c0 c.P) k1 (RepL.fo hf k2)
 cases L with
 |nil=>cases r<;>exact⟨one hr h,fun q=>absurd rfl q⟩
 |cons a L=>
  have hf:(tyOf (a::L)).fo=true:=hL.resolve_left (by simp)
  cases r with
  |n=>
   obtain⟨u,h1,h2⟩:=Option.bind_eq_some_iff.1 (show(resT .n w).bind (fun _=>tupT (tyOf (a::L)) ws)=some y from h)
   exact⟨one (r:=.n) rfl h1,fun _=>rows hf h2⟩
  |t p q=>
   obtain⟨x,h1,h2⟩:=Option.bind_eq_some_iff.1 (show(resT (.t p q) w).bind (fun x=>(tupT (tyOf (a::L)) ws).map fun y=>(x,y))=some y from h)
   obtain⟨z,h3,h4⟩:=Option.map_eq_some_iff.1 h2
   subst h4
   exact⟨one hr h1,fun _=>rows hf h3⟩
  |i k=>
   obtain⟨x,h1,h2⟩:=Option.bind_eq_some_iff.1 (show(resT (.i k) w).bind (fun x=>(tupT (tyOf (a::L)) ws).map fun y=>(x,y))=some y from h)
   obtain⟨z,h3,h4⟩:=Option.map_eq_some_iff.1 h2
   subst h4
   exact⟨one hr h1,fun _=>rows hf h3⟩
  |b=>
   obtain⟨x,h1,h2⟩:=Option.bind_eq_some_iff.1 (show(resT .b w).bind (fun x=>(tupT (tyOf (a::L)) ws).map fun y=>(x,y))=some y from h)
   obtain⟨z,h3,h4⟩:=Option.map_eq_some_iff.1 h2
   subst h4
   exact⟨one (r:=.b) hr h1,fun _=>rows hf h3⟩
  |s=>
   obtain⟨x,h1,h2⟩:=Option.bind_eq_some_iff.1 (show(resT .s w).bind (fun x=>(tupT (tyOf (a::L)) ws).map fun y=>(x,y))=some y from h)
   obtain⟨z,h3,h4⟩:=Option.map_eq_some_iff.1 h2
   subst h4
   exact⟨one (r:=.s) hr h1,fun _=>rows hf h3⟩
  |l m q=>
   obtain⟨x,h1,h2⟩:=Option.bind_eq_some_iff.1 (show(resT (.l m q) w).bind (fun x=>(tupT (tyOf (a::L)) ws).map fun y=>(x,y))=some y from h)
   obtain⟨z,h3,h4⟩:=Option.map_eq_some_iff.1 h2
   subst h4
   exact⟨one hr h1,fun _=>rows hf h3⟩
  |p p q=>
   obtain⟨x,h1,h2⟩:=Option.bind_eq_some_iff.1 (show(resT (.p p q) w).bind (fun x=>(tupT (tyOf (a::L)) ws).map fun y=>(x,y))=some y from h)
   obtain⟨z,h3,h4⟩:=Option.map_eq_some_iff.1 h2
   subst h4
   exact⟨one hr h1,fun _=>rows hf h3⟩
  |g q=>
   obtain⟨x,h1,h2⟩:=Option.bind_eq_some_iff.1 (show(resT (.g q) w).bind (fun x=>(tupT (tyOf (a::L)) ws).map fun y=>(x,y))=some y from h)
   obtain⟨z,h3,h4⟩:=Option.map_eq_some_iff.1 h2
   subst h4
   exact⟨one hr h1,fun _=>rows hf h3⟩
  |o p q=>
   obtain⟨x,h1,h2⟩:=Option.bind_eq_some_iff.1 (show(resT (.o p q) w).bind (fun x=>(tupT (tyOf (a::L)) ws).map fun y=>(x,y))=some y from h)
   obtain⟨z,h3,h4⟩:=Option.map_eq_some_iff.1 h2
   subst h4
   exact⟨one hr h1,fun _=>rows hf h3⟩
  |fn p q=>cases hr
  |cl p q=>
   obtain⟨x,h1,h2⟩:=Option.bind_eq_some_iff.1 (show(resT (.cl p q) w).bind (fun x=>(tupT (tyOf (a::L)) ws).map fun y=>(x,y))=some y from h)
   obtain⟨z,h3,h4⟩:=Option.map_eq_some_iff.1 h2
   subst h4
   exact⟨one hr h1,fun _=>rows hf h3⟩
theorem rows_ok:∀{ak:List AK} {ws:List W} {ds:List D} {rg:List Rg} {Y0:List (List D)} {xs:List (List W)} {Y:List (List D)},ArgL c ak ws ds rg Y0->All2 (All2 (Rep2 c)) xs Y->(∀(i:Nat) r ys,rg[i]? =some r->Y[i]? =some ys->ys.length=r.z)->Y.length=rg.length->
  ∃dx,All2 (Rep4 c) (RS.pack.xRows ak xs) dx∧∀{os:List W} {P:Caller},os.all W.pf1=true->All2 (Rep3 (c0 P)) os dx->OutL (c0 P) ak os Y
 |[],ws,ds,rg,Y0,xs,Y,ha,hx,hl,hn=>by
  cases ws<;>cases ds<;>cases rg<;>cases Y0<;>first|exact ha.elim|skip
  cases Y with
  |cons=>simp at hn
  |nil=>
   refine⟨[],by cases xs<;>exact trivial,fun{os P} hp h=>?_⟩
   obtain rfl:=h.nil_r
   trivial
 | .v τ::ak,ws,ds,rg,Y0,xs,Y,ha,hx,hl,hn=>by
  cases ws with
  |nil=>cases ds<;>cases rg<;>cases Y0<;>exact ha.elim
  |cons w ws=>cases ds with
   |nil=>cases rg<;>cases Y0<;>exact ha.elim
   |cons d ds=>
    have ha':ArgL c ak ws ds rg Y0:=by cases rg<;>cases Y0<;>exact ha.2
    obtain⟨dx,h1,h2⟩:=rows_ok ha' hx hl hn
    exact⟨dx,by cases xs<;>exact h1,fun{os P} hp h=>by cases os<;>cases Y<;>exact h2 hp h⟩
 | .x τ::ak,ws,ds,rg,Y0,xs,Y,ha,hx,hl,hn=>by
  cases ws with
  |nil=>cases ds<;>cases rg<;>cases Y0<;>exact ha.elim
  |cons w ws=>cases ds with
   |nil=>cases rg<;>cases Y0<;>exact ha.elim
   |cons d ds=>cases rg with
    |nil=>cases Y0<;>exact ha.elim
    |cons g rg=>cases Y0 with
     |nil=>exact ha.elim
     |cons y0 Y0=>cases Y with
      |nil=>simp at hn
      |cons y Y=>cases xs with
       |nil=>exact hx.elim
       |cons x xs=>
        obtain⟨⟨a1,a2,a3,a4,a5⟩,a6⟩:=ha
        obtain⟨dx,h1,h2⟩:=rows_ok a6 hx.2 (fun i r ys p q=>hl (i+1) r ys (by simpa using p) (by simpa using q)) (by simpa using hn)
        refine⟨.agg y::dx,⟨⟨y,rfl,hx.1⟩,h1⟩,fun{os P} hp h=>?_⟩
        cases os with
        |nil=>exact h.elim
        |cons o os=>
         simp only[List.all_cons,Bool.and_eq_true]at hp
         refine⟨⟨by rw[hl 0 g y rfl rfl];exact a3,?_⟩,h2 hp.2 h.2⟩
         have:=h.1
         have hp:=hp.1
         cases o with
         |ag cs=>obtain⟨q,q1,q2⟩:=this;injection q1 with q1;subst q1;exact q2
         |u τ x=>have h2:=this.2;have h1:=this.1;cases τ with
          |i k=>cases(i_d h2).1
          |b=>cases b_d h2
          |s=>cases(s_d h2).1
          |l m t=>obtain⟨_,es,_,q|⟨_,z,q⟩⟩:=l_d h2<;>cases q
          |fn a r=>obtain⟨f,cs,q,_⟩:=fn_d h2;cases q
          |cl f r=>obtain⟨_,cs,q,_⟩:=cl_d h2;cases q
          |_=>cases h1
         |nil=>obtain⟨z,q⟩:=this;cases q
         |_=>cases hp
 | .o τ::ak,ws,ds,rg,Y0,xs,Y,ha,hx,hl,hn=>by
  cases ws with
  |nil=>cases ds<;>cases rg<;>cases Y0<;>exact ha.elim
  |cons w ws=>cases ds with
   |nil=>cases rg<;>cases Y0<;>exact ha.elim
   |cons d ds=>cases rg with
    |nil=>cases Y0<;>exact ha.elim
    |cons g rg=>cases Y0 with
     |nil=>exact ha.elim
     |cons y0 Y0=>cases Y with
      |nil=>simp at hn
      |cons y Y=>cases xs with
       |nil=>exact hx.elim
       |cons x xs=>
        obtain⟨⟨a1,a2,a3,a4,a5⟩,a6⟩:=ha
        obtain⟨dx,h1,h2⟩:=rows_ok a6 hx.2 (fun i r ys p q=>hl (i+1) r ys (by simpa using p) (by simpa using q)) (by simpa using hn)
        exact⟨dx,h1,fun{os P} hp h=>by cases os<;>exact h2 hp h⟩
theorem su0_ok {c:Cx}:∀{ak:List AK} {ws:List W} {ds:List D} {rg0 rg:List Rg} {Y:List (List D)} {i:Nat},c.rg=rg0++rg->ArgL c ak ws ds rg Y->
  (∀t,Rep4 c (getW t (su0 ak ws i rg0.length).1) (get t (argE i ds)))∧All2 (All2 (Rep2 c)) (su0 ak ws i rg0.length).2 Y∧wrs ak=rg.map Rg.w∧Y.length=rg.length
 |[],ws,ds,rg0,rg,Y,i,hrg,ha=>by
  cases ws<;>cases ds<;>cases rg<;>cases Y<;>first|exact ha.elim|exact⟨fun t=>trivial,trivial,rfl,rfl⟩
 |a::ak,[],ds,rg0,rg,Y,i,hrg,ha=>by cases a<;>cases ds<;>cases rg<;>cases Y<;>exact ha.elim
 |a::ak,w::ws,[],rg0,rg,Y,i,hrg,ha=>by cases a<;>cases rg<;>cases Y<;>exact ha.elim
 | .v τ::ak,w::ws,d::ds,rg0,rg,Y,i,hrg,ha=>by
  have ha1:Rep3 c w d∧ArgL c ak ws ds rg Y:=by cases rg<;>cases Y<;>exact ha
  obtain⟨i1,i2,i3,i4⟩:=su0_ok (i:=i+1) hrg ha1.2
  refine⟨fun t=>?_,i2,i3,i4⟩
  simp only[su0,argE,get_put]
  by_cases e:t=i
  ·subst e
   simp only[getW,Nat.beq_refl,cond_true,if_true]
   exact to4 ha1.1
  ·simp only[getW,nbeq_f e,cond_false,if_neg e]
   exact i1 t
 | .x τ::ak,w::ws,d::ds,rg0,[],Y,i,hrg,ha=>by cases Y<;>exact ha.elim
 | .x τ::ak,w::ws,d::ds,rg0,g::rg,[],i,hrg,ha=>ha.elim
 | .x τ::ak,w::ws,d::ds,rg0,g::rg,y::Y,i,hrg,ha=>by
  obtain⟨⟨a1,a2,a3,a4,a5⟩,a6⟩:=ha
  obtain⟨i1,i2,i3,i4⟩:=su0_ok (rg0:=rg0++[g]) (i:=i+1) (by rw[hrg];simp) a6
  simp only[List.length_append,List.length_cons,List.length_nil,Nat.zero_add]at i1 i2
  refine⟨fun t=>?_,⟨a5,i2⟩,by simp only[wrs,List.map_cons,i3,a1],by simp[i4]⟩
  simp only[su0,argE,get_put]
  by_cases e:t=i
  ·subst e
   simp only[getW,Nat.beq_refl,cond_true,if_true]
   exact⟨g,by rw[hrg];simp,a2⟩
  ·simp only[getW,nbeq_f e,cond_false,if_neg e]
   exact i1 t
 | .o τ::ak,w::ws,d::ds,rg0,[],Y,i,hrg,ha=>by cases Y<;>exact ha.elim
 | .o τ::ak,w::ws,d::ds,rg0,g::rg,[],i,hrg,ha=>ha.elim
 | .o τ::ak,w::ws,d::ds,rg0,g::rg,y::Y,i,hrg,ha=>by
  obtain⟨⟨a1,a2,a3,a4,a5⟩,a6⟩:=ha
  obtain⟨i1,i2,i3,i4⟩:=su0_ok (rg0:=rg0++[g]) (i:=i+1) (by rw[hrg];simp) a6
  simp only[List.length_append,List.length_cons,List.length_nil,Nat.zero_add]at i1 i2
  refine⟨fun t=>?_,⟨a5,i2⟩,by simp only[wrs,List.map_cons,i3,a1],by simp[i4]⟩
  simp only[su0,argE,get_put]
  by_cases e:t=i
  ·subst e
   simp only[getW,Nat.beq_refl,cond_true,if_true]
   exact⟨g,by rw[hrg];simp,a2⟩
  ·simp only[getW,nbeq_f e,cond_false,if_neg e]
   exact i1 t
theorem args_flat {c:Cx}:∀{ak:List AK} {ws:List W} {ds:List D} {rg:List Rg} {Y:List (List D)},ArgL c ak ws ds rg Y->ws.all W.pf1=true->ds.length=ak.length∧ds.all (fun d=> !d.tupB)=true
 |[],ws,ds,rg,Y,ha,hp=>by
  cases ws<;>cases ds<;>cases rg<;>cases Y<;>first|exact ha.elim|exact⟨rfl,rfl⟩
 |a::ak,[],ds,rg,Y,ha,hp=>by cases a<;>cases ds<;>cases rg<;>cases Y<;>exact ha.elim
 |a::ak,w::ws,[],rg,Y,ha,hp=>by cases a<;>cases rg<;>cases Y<;>exact ha.elim
 | .v τ::ak,w::ws,d::ds,rg,Y,ha,hp=>by
  have ha1:Rep3 c w d∧ArgL c ak ws ds rg Y:=by cases rg<;>cases Y<;>exact ha
  simp only[List.all_cons,Bool.and_eq_true]at hp
  obtain⟨i1,i2⟩:=args_flat ha1.2 hp.2
  refine⟨by simp[i1],?_⟩
  rcases tup_d ha1.1 with q|q
  ·subst q;cases hp.1
  ·simp[q,i2]
 | .x τ::ak,w::ws,d::ds,[],Y,ha,hp=>by cases Y<;>exact ha.elim
 | .x τ::ak,w::ws,d::ds,g::rg,[],ha,hp=>ha.elim
 | .x τ::ak,w::ws,d::ds,g::rg,y::Y,ha,hp=>by
  simp only[List.all_cons,Bool.and_eq_true]at hp
  obtain⟨i1,i2⟩:=args_flat ha.2 hp.2
  rw[ha.1.2.1]
  exact⟨by simp[i1],by simp only[List.all_cons,i2];rfl⟩
 | .o τ::ak,w::ws,d::ds,[],Y,ha,hp=>by cases Y<;>exact ha.elim
 | .o τ::ak,w::ws,d::ds,g::rg,[],ha,hp=>ha.elim
 | .o τ::ak,w::ws,d::ds,g::rg,y::Y,ha,hp=>by
  simp only[List.all_cons,Bool.and_eq_true]at hp
  obtain⟨i1,i2⟩:=args_flat ha.2 hp.2
  rw[ha.1.2.1]
  exact⟨by simp[i1],by simp only[List.all_cons,i2];rfl⟩
theorem xsOf_fo:∀{ak:List AK},(ak.all fun| .v τ=>τ.val| .x r=>r.rowk&&r.fo| .o r=>r.rowk&&r.fo)=true->∀τ∈xsOf ak,τ.fo=true
 |[],_,τ,h=>by cases h
 | .v _::ak,hk,τ,h=>by
  simp only[List.all_cons,Bool.and_eq_true]at hk
  exact xsOf_fo (ak:=ak) hk.2 τ h
 | .o _::ak,hk,τ,h=>by
  simp only[List.all_cons,Bool.and_eq_true]at hk
  exact xsOf_fo (ak:=ak) hk.2 τ h
 | .x r::ak,hk,τ,h=>by
  simp only[List.all_cons,Bool.and_eq_true]at hk
  rcases List.mem_cons.1 h with rfl|h
  ·exact hk.1.2
  ·exact xsOf_fo (ak:=ak) hk.2 τ h
noncomputable def run1 (F:Fn) (call:Caller) (ds:List D) (B:List Bx):Option (D×List Bx):=
 if ds.length<=F.nt∧ds.all (fun d=> !d.tupB)=true then match evC call F.body ⟨argE 0 ds,[],B⟩with
  |some (.ex _,_)=>none
  |some (_,s)=>(resL call F.res s).bind fun a=>
   let ds:=a.1.map (D.frz2 B.length a.2.l)
   if ds.all (D.bnd2 B.length)then some (if F.keep then mkRes ds else(mkRes ds).strip,a.2.o)else none
  |none=>none
 else none
theorem EF_run1 {pg:Nat->Option Fn} {k:Nat} {F:Fn} (hp:pg k=some F) (hr:F.rnd=none) (ds:List D) (B:List Bx):EF pg k ds B=run1 F (EF pg) ds B:=by
 rw[EF_eq]
 unfold runF run1
 rw[hp]
 simp only[hr]
 rfl
def TOK1 (P:Caller) (R:List D->List Bx->Option (D×List Bx)) (tf:TF):Prop:=∀F n rg K Y,Cx.ok ⟨P,F,n,rg,K⟩->(∀(i:Nat) r ys,rg[i]? =some r->Y[i]? =some ys->r.w=false->ys=K i)->
 ∀(x:tf.sg.aT.T) ds,ArgL ⟨P,F,n,rg,K⟩ tf.sg.ak (argWs tf.sg x) ds rg Y->∀y,tf.f x=some y->∃d Y',Rep4 (c0 P) (outW tf.sg.res (xsOf tf.sg.ak) y).1 d∧OutL (c0 P) tf.sg.ak (outW tf.sg.res (xsOf tf.sg.ak) y).2 Y'∧
  ∀B,Fam ⟨P,F,n,rg,K⟩ B->(∀(i:Nat) r ys,rg[i]? =some r->Y[i]? =some ys->atR r ys B)->R ds B=some (d,upd rg Y' B)
theorem tok_run {P:Caller} {F:Fn} {T:Tab} {sg:Sg} {t:Tc} {tf:TF} (hsg:tf.sg=sg) (hT:TabOk P T) (hF:F.rnd=none∧F.body=t.er∧sg.ak.length<=F.nt) (hok:sg.ok=true)
  (hR:RndOk P t) (hf:∀(x:tf.sg.aT.T) y,tf.f x=some y->evFn T ⟨F.res,F.keep,tf.sg⟩ t x=some y):TOK1 P (run1 F P) tf:=by
 subst hsg
 intro F0 n rg K Y hc hK x ds harg y hy
 have hev:=hf x y hy
 let c:Cx:=⟨P,F0,n,rg,K⟩
 have hlen:=ArgL_len harg
 have hpf:(argWs tf.sg x).all W.pf1=true:=by
  unfold argWs
  split
  ·rfl
  ·exact pf_tup _ _
 obtain⟨s1,s2,s3,s4⟩:=su0_ok (c:=c) (rg0:=[]) (rg:=rg) (i:=0) rfl harg
 obtain⟨d1,d2⟩:=args_flat harg hpf
 have hY:∀(i:Nat) r ys,rg[i]? =some r->Y[i]? =some ys->ys.length=r.z∧(r.w=false->ys=K i):=fun i r ys a b=>by
  obtain⟨y',y1,y2⟩:=hlen i r a
  rw[b]at y1
  have:=Option.some.inj y1
  subst this
  exact⟨y2,hK i r ys a b⟩
 have hS:RepS c ⟨(su0 tf.sg.ak (argWs tf.sg x) 0 0).1,[],[],(su0 tf.sg.ak (argWs tf.sg x) 0 0).2,wrs tf.sg.ak⟩ (argE 0 ds) [] Y:=
  ⟨fun t=>Rep5_of (s1 t),(fun b ws h=>by cases h),(fun b h=>absurd rfl h),s2,s3,s4,hY⟩
 have hev:evT T ⟨F.res,F.keep,tf.sg⟩ t ⟨(su0 tf.sg.ak (argWs tf.sg x) 0 0).1,[],[],(su0 tf.sg.ak (argWs tf.sg x) 0 0).2,wrs tf.sg.ak⟩ (RS.pack ⟨F.res,F.keep,tf.sg⟩) (fun _ _=>none) some=some y:=hev
 obtain⟨xx,s',e',l',Y',g1,g2,g3⟩:=evT_ok _ t (c:=c) hc hT hR hS hev
 have hpack:RS.pack ⟨F.res,F.keep,tf.sg⟩ s'=some y:=by
  cases xx with
  |nm=>exact g3
  |ex i=>cases g3.2
  |rt=>
   have g3:(RS.pack ⟨F.res,F.keep,tf.sg⟩ s').bind some=some y∨(none:Option tf.sg.oT.T)=some y:=g3
   rcases g3 with g3|g3
   ·simpa using g3
   ·cases g3
 have hxx:∀i,xx≠ .ex i:=fun i h=>by subst h;cases g3.2
 unfold RS.pack at hpack
 obtain⟨q,q1,q2⟩:=Option.bind_eq_some_iff.1 hpack
 by_cases hall:q.1.all W.okR2=true
 ·have q2:(if q.1.all W.okR2=true then outT tf.sg.res (xsOf tf.sg.ak) (if F.keep=true then mkResW q.1 else(mkResW q.1).strip) (RS.pack.xRows tf.sg.ak q.2.x)else none)=some y:=q2
  rw[if_pos hall]at q2
  obtain⟨dr,e2,l2,Y2,r1,r2,r3⟩:=resLW_ok hc g1 q1
  have hres:(∀k l,dr.map (D.frz2 k l)=dr)∧(∀k,dr.all (D.bnd2 k)=true)∧All2 (Rep3 c) q.1 dr:=by
   have:∀{ws:List W} {ds:List D},All2 (Rep4 c) ws ds->ws.all W.okR2=true->(∀k l,ds.map (D.frz2 k l)=ds)∧(∀k,ds.all (D.bnd2 k)=true)∧All2 (Rep3 c) ws ds:=by
    intro ws
    induction ws with
    |nil=>intro ds h _;obtain rfl:=h.nil_l;exact⟨fun _ _=>rfl,fun _=>rfl,trivial⟩
    |cons w ws ih=>
     intro ds h hk
     obtain⟨d,q,rfl,a1,a2⟩:=h.cons_l
     simp only[List.all_cons,Bool.and_eq_true]at hk
     obtain⟨k1,k2,k3⟩:=okR2_ok a1 hk.1
     obtain⟨i1,i2,i3⟩:=ih a2 hk.2
     exact⟨fun k l=>by simp only[List.map_cons,k1,i1],fun k=>by simp only[List.all_cons,k2,i2,Bool.and_self],k3,i3⟩
   exact this r2 hall
  obtain⟨f1,f2,f3⟩:=hres
  have hmk:Rep4 c (mkResW q.1) (mkRes dr):=by
   have:∀{ws:List W} {ds:List D},All2 (Rep3 c) ws ds->Rep4 c (mkResW ws) (mkRes ds):=by
    intro ws ds h
    match ws,ds,h with
    |[],[],h=>exact⟨[],rfl,trivial⟩
    |[w],[d],h=>exact to4 h.1
    |w::w2::ws,d::d2::ds,h=>exact⟨_,rfl,h⟩
    |[],_::_,h=>exact h.elim
    |[_],[],h=>exact h.elim
    |[_],_::_::_,h=>exact h.2.elim
    |_::_::_,[],h=>exact h.elim
    |_::_::_,[_],h=>exact h.2.elim
   exact this f3
  have hfin:Rep4 c (if F.keep then mkResW q.1 else(mkResW q.1).strip) (if F.keep then mkRes dr else(mkRes dr).strip):=by
   cases F.keep
   ·exact strip_ok hmk
   ·exact hmk
  obtain⟨dx,x1,x2⟩:=rows_ok (c:=c) harg r1.ext (fun i r ys a b=>(r1.ro i r ys a b).1) r1.len
  have hok':=hok
  simp only[Sg.ok,Bool.and_eq_true]at hok'
  obtain⟨o1,o2⟩:=out_ok (c:=c) q2 hok'.1.1 (by
   cases hx:xsOf tf.sg.ak with
   |nil=>exact .inl rfl
   |cons a L=>exact .inr (fo_tyOf fun τ hτ=>xsOf_fo hok'.2 τ (by rw[hx];exact hτ))) hfin x1
  refine⟨if F.keep then mkRes dr else(mkRes dr).strip,Y2,o1,?_,fun B hB hat=>?_⟩
  ·by_cases hx:xsOf tf.sg.ak=[]
   ·have hw:(outW tf.sg.res (xsOf tf.sg.ak) y).2=[]:=by
     have:∀{r:Ty} {L:List Ty} {y:(oTy r L).T},L=[]->(outW r L y).2=[]:=by
      intro r L y h;subst h;cases r<;>rfl
     exact this hx
    have hdx:dx=[]:=by
     have:∀{ak:List AK} {xs:List (List W)},xsOf ak=[]->RS.pack.xRows ak xs=[]:=by
      intro ak
      induction ak with
      |nil=>intro xs _;cases xs<;>rfl
      |cons a ak ih=>
       intro xs h
       cases a with
       |v τ=>cases xs<;>exact ih h
       |o τ=>cases xs with
        |nil=>rfl
        |cons x xs=>exact ih h
       |x τ=>cases h
     rw[this hx]at x1
     exact x1.nil_l
    rw[hw]
    exact x2 rfl (by rw[hdx];trivial)
   ·exact x2 (pf_out _ _ _).2 (o2 hx)
  ·have hB':Fam c B:=hB
   have hid:upd rg Y B=B:=upd_id fun i r ys a b _=>hat i r ys a b
   unfold run1
   rw[if_pos ⟨by rw[d1];exact hF.2.2,d2⟩,hF.2.1]
   have g2:=g2 B hB'
   rw[show upd c.rg Y B=B from hid]at g2
   rw[g2]
   have r3:=r3 B hB'
   have fin:(resL P F.res ⟨e',l',upd c.rg Y' B⟩).bind (fun a=>if(a.1.map (D.frz2 B.length a.2.l)).all (D.bnd2 B.length)=true then some (if F.keep=true then mkRes (a.1.map (D.frz2 B.length a.2.l))else(mkRes (a.1.map (D.frz2 B.length a.2.l))).strip,a.2.o)else none)=some (if F.keep then mkRes dr else(mkRes dr).strip,upd rg Y2 B):=by
    rw[r3]
    simp only[Option.bind_some,f1,f2,if_true]
   cases xx with
   |nm=>exact fin
   |ex i=>exact absurd rfl (hxx i)
   |rt=>exact fin
 ·have q2:(if q.1.all W.okR2=true then outT tf.sg.res (xsOf tf.sg.ak) (if F.keep=true then mkResW q.1 else(mkResW q.1).strip) (RS.pack.xRows tf.sg.ak q.2.x)else none)=some y:=q2
  rw[if_neg hall]at q2
  cases q2
theorem tok_of {pg:Nat->Option Fn} {k:Nat} {F:Fn} {T:Tab} {sg:Sg} {t:Tc} {tf:TF} (hp:pg k=some F) (hsg:tf.sg=sg) (hT:TabOk (EF pg) T) (hF:F.rnd=none∧F.body=t.er∧sg.ak.length<=F.nt) (hok:sg.ok=true)
  (hR:RndOk (EF pg) t) (hg:GOK (EF pg) k tf) (hf:∀(x:tf.sg.aT.T) y,tf.f x=some y->evFn T ⟨F.res,F.keep,tf.sg⟩ t x=some y):TOK (EF pg) k tf:=by
 refine⟨?_,hg⟩
 intro F0 n rg K Y hc hK x ds harg y hy
 obtain⟨d,Y',h1,h2,h3⟩:=tok_run hsg hT hF hok hR hf F0 n rg K Y hc hK x ds harg y hy
 exact⟨d,Y',h1,h2,fun B hB hat=>(EF_run1 hp hF.1 ds B).trans (h3 B hB hat)⟩
end
end Go.Proofs.Ytfopbiiffiickaa.Ev.U
namespace Go.Proofs.Ytfopbiiffiickaa.Ev.U
open Go
abbrev u_ (t:Nat) (op:Op):TStp:=⟨some t,none,op,.n⟩
abbrev un_ (op:Op):TStp:=⟨none,none,op,.n⟩
abbrev ug_ (q:Nat) (w:Bool) (t:Nat) (op:Op):TStp:=⟨some t,some (q,w),op,.n⟩
def tabU:List (Nat×TF)->Tab
 |[],_=>none
 |(k,tf)::r,n=>bif Nat.beq n k then some tf else tabU r n
theorem tabU_nil {P:Caller}:TabOk P (tabU []):=fun k tf h=>by cases h
theorem tabU_cons {P:Caller} {k:Nat} {tf:TF} {l:List (Nat×TF)} (h:TOK P k tf) (hl:TabOk P (tabU l)):TabOk P (tabU ((k,tf)::l)):=fun n t hn=>by
 simp only[tabU]at hn
 by_cases e:n=k
 ·subst e
  rw[Nat.beq_refl,cond_true]at hn
  have:=Option.some.inj hn
  subst this
  exact h
 ·rw[nbeq_f e,cond_false]at hn
  exact hl n t hn
theorem lpU_eq {σ ξ:Type} (body:σ->Option (σ⊕ξ)) (s:σ):lpU body s=match body s with
  |none=>none
  |some (.inl s')=>lpU body s'
  |some (.inr x)=>some x:=by
 have hm:∀(s:σ) (n:Nat) (r:ξ),itU body n s=some r->itU body (n+1) s=some r:=by
  intro s n
  induction n generalizing s with
  |zero=>intro r h;cases h
  |succ n ih=>
   intro r h
   unfold itU at h ⊢
   cases hb:body s with
   |none=>rw[hb]at h;cases h
   |some q=>
    rw[hb]at h
    cases q with
    |inl s'=>exact ih s' r h
    |inr x=>exact h
 have a:∀r,lpU body s=some r->(match body s with
  |none=>none
  |some (.inl s')=>lpU body s'
  |some (.inr x)=>some x)=some r:=by
  intro r h
  obtain⟨n,hn⟩:=lim_ex h
  cases n with
  |zero=>cases hn
  |succ n=>
   unfold itU at hn
   cases hb:body s with
   |none=>rw[hb]at hn;cases hn
   |some q=>
    rw[hb]at hn
    cases q with
    |inl s'=>exact lim_eq (hm s') hn
    |inr x=>exact hn
 have b:∀r,(match body s with
  |none=>none
  |some (.inl s')=>lpU body s'
  |some (.inr x)=>some x)=some r->lpU body s=some r:=by
  intro r h
  cases hb:body s with
  |none=>rw[hb]at h;cases h
  |some q=>
   rw[hb]at h
   cases q with
   |inl s'=>
    obtain⟨n,hn⟩:=lim_ex (show lpU body s'=some r from h)
    exact lim_eq (hm s) (n:=n+1) (by unfold itU;rw[hb];exact hn)
   |inr x=>exact lim_eq (hm s) (n:=1) (by unfold itU;rw[hb];exact h)
 cases h:lpU body s with
 |some r=>exact(a r h).symm
 |none=>
  generalize hR:(match body s with
   |none=>none
   |some (.inl s')=>lpU body s'
   |some (.inr x)=>some x)=R
  cases R with
  |none=>rfl
  |some r=>rw[b r hR]at h;cases h
end Go.Proofs.Ytfopbiiffiickaa.Ev.U
namespace Go.Proofs.Ytfopbiiffiickaa.Ev.U
open Go
namespace Zz
instance(n:Nat):OfNat Opd n:=⟨.t n⟩
abbrev tt:Opd:=.c (.bool true)
abbrev ff':Opd:=.c (.bool false)
abbrev u4 (n:Int):Opd:=.c (.int .u32 n)
abbrev u1 (n:Int):Opd:=.c (.int .u8 n)
def zs:Ty->List Value
 | .g r=>zs r
 | .p a r=>zs a++zs r
 | .i k=>[.int k 0]
 | .b=>[.bool false]
 | .l _ _=>[.slice none 0 0]
 |_=>[]
def rw':Ty->List Kd
 | .g r=>rw' r
 | .p a r=>.v a::rw' r
 |a=>[.v a]
abbrev rv (n:Nat) (t:Ty):Nat×List Kd:=(n,rw' t)
abbrev vv (n:Nat) (t:Ty):Nat×Kd:=(n,.v t)
abbrev vj (n:Nat):Nat×Kd:=(n,.v (.i .i64))
abbrev ow (n:Nat):Nat×Kd:=(n,.w (.pt (.own n) 0))
abbrev s0:Sh:=⟨[],[],[],[],[]⟩
abbrev sk (l:List (Nat×Kd)):Sh:=⟨l,[],[],[],[]⟩
def q:List Tc->Tc
 |[]=>.sk
 |[a]=>a
 |a::r=>.sq a (q r)
def q':List Cd->Cd
 |[]=>.sk
 |[a]=>a
 |a::r=>.sq a (q' r)
abbrev r (l:List TStp):Tc:=.rg l
abbrev r' (l:List Stp):Cd:=.rg l
abbrev mv (t:Nat) (x:Opd):TStp:=u_ t (.mv x)
abbrev mv' (t:Nat) (x:Opd):Stp:=s_ t (.mv x)
abbrev pk (t:Nat) (c a b:Opd):TStp:=u_ t (.pk c a b)
abbrev pk' (t:Nat) (c a b:Opd):Stp:=s_ t (.pk c a b)
abbrev al (t:Nat) (z:List Value):TStp:=u_ t (.al z)
abbrev al' (t:Nat) (z:List Value):Stp:=s_ t (.al z)
abbrev bb (t:Nat) (x:Opd):TStp:=u_ t (.bx x)
abbrev bb' (t:Nat) (x:Opd):Stp:=s_ t (.bx x)
abbrev ld (t:Nat) (x:Opd):TStp:=u_ t (.ld none x)
abbrev ld' (t:Nat) (x:Opd):Stp:=s_ t (.ld none x)
abbrev lz (t:Nat) (n:Nat) (x:Opd):TStp:=u_ t (.ld (some n) x)
abbrev lz' (t:Nat) (n:Nat) (x:Opd):Stp:=s_ t (.ld (some n) x)
abbrev no (t:Nat) (x:Opd):TStp:=u_ t (.no x)
abbrev no' (t:Nat) (x:Opd):Stp:=s_ t (.no x)
abbrev fa (t:Nat) (x:Opd) (k:Nat):TStp:=u_ t (.fa x k)
abbrev fa' (t:Nat) (x:Opd) (k:Nat):Stp:=s_ t (.fa x k)
abbrev ia (t:Nat) (x i:Opd) (z:Nat):TStp:=u_ t (.ia x i z)
abbrev ia' (t:Nat) (x i:Opd) (z:Nat):Stp:=s_ t (.ia x i z)
abbrev ext (t:Nat) (x:Opd) (i:Nat):TStp:=u_ t (.ext x i)
abbrev ext' (t:Nat) (x:Opd) (i:Nat):Stp:=s_ t (.ext x i)
abbrev ca (t:Nat) (f:Nat) (l:List Opd):TStp:=u_ t (.call f l)
abbrev ca' (t:Nat) (f:Nat) (l:List Opd):Stp:=s_ t (.call f l)
abbrev len (t:Nat) (x:Opd):TStp:=u_ t (.len x)
abbrev len' (t:Nat) (x:Opd):Stp:=s_ t (.len x)
abbrev nck (t:Nat) (x:Opd):TStp:=u_ t (.nck x)
abbrev nck' (t:Nat) (x:Opd):Stp:=s_ t (.nck x)
abbrev add (t:Nat) (x y:Opd):TStp:=u_ t (.bin .add x y)
abbrev add' (t:Nat) (x y:Opd):Stp:=s_ t (.bin .add x y)
abbrev sub (t:Nat) (x y:Opd):TStp:=u_ t (.bin .sub x y)
abbrev sub' (t:Nat) (x y:Opd):Stp:=s_ t (.bin .sub x y)
abbrev mul (t:Nat) (x y:Opd):TStp:=u_ t (.bin .mul x y)
abbrev and (t:Nat) (x y:Opd):TStp:=u_ t (.bin .and x y)
abbrev or (t:Nat) (x y:Opd):TStp:=u_ t (.bin .or x y)
abbrev xor (t:Nat) (x y:Opd):TStp:=u_ t (.bin .xor x y)
abbrev andNot (t:Nat) (x y:Opd):TStp:=u_ t (.bin .andNot x y)
abbrev shl (t:Nat) (x y:Opd):TStp:=u_ t (.bin .shl x y)
abbrev shr (t:Nat) (x y:Opd):TStp:=u_ t (.bin .shr x y)
abbrev eql (t:Nat) (x y:Opd):TStp:=u_ t (.bin .eql x y)
abbrev eql' (t:Nat) (x y:Opd):Stp:=s_ t (.bin .eql x y)
abbrev neq (t:Nat) (x y:Opd):TStp:=u_ t (.bin .neq x y)
abbrev neq' (t:Nat) (x y:Opd):Stp:=s_ t (.bin .neq x y)
abbrev lss (t:Nat) (x y:Opd):TStp:=u_ t (.bin .lss x y)
abbrev lss' (t:Nat) (x y:Opd):Stp:=s_ t (.bin .lss x y)
abbrev leq (t:Nat) (x y:Opd):TStp:=u_ t (.bin .leq x y)
abbrev gtr (t:Nat) (x y:Opd):TStp:=u_ t (.bin .gtr x y)
abbrev gtr' (t:Nat) (x y:Opd):Stp:=s_ t (.bin .gtr x y)
abbrev geq (t:Nat) (x y:Opd):TStp:=u_ t (.bin .geq x y)
abbrev geq' (t:Nat) (x y:Opd):Stp:=s_ t (.bin .geq x y)
abbrev st (n:Nat) (p x:Opd):TStp:=un_ (.st n p x)
abbrev st' (n:Nat) (p x:Opd):Stp:=n_ (.st n p x)
abbrev gf (q:Nat) (s:TStp):TStp:={s with g:=some (q,false)}
abbrev gf' (q:Nat) (s:Stp):Stp:={s with g:=some (q,false)}
abbrev gt (q:Nat) (s:TStp):TStp:={s with g:=some (q,true)}
abbrev gt' (q:Nat) (s:Stp):Stp:={s with g:=some (q,true)}
abbrev w (s:TStp):TStp×List Nat:=(s,[])
abbrev w' (s:Stp):Stp×List Nat:=(s,[])
theorem tn {P:Caller}:TabOk P (tabU []):=tabU_nil
theorem tc {P:Caller} {k:Nat} {tf:TF} {l:List (Nat×TF)} (h:TOK P k tf) (hl:TabOk P (tabU l)):TabOk P (tabU ((k,tf)::l)):=tabU_cons h hl
def chk (sg:Sg) (nt:Nat) (t:Tc):Bool:=sg.ok&&(Nat.ble sg.ak.length nt&&noRf t)
theorem tkp {pg:Nat->Option Fn} {k nt:Nat} {b:Bool} {res:List Res} {L:List (Nat×TF)} {sg:Sg} {f:sg.aT.T->Option sg.oT.T} (t:Tc) (hp:pg k=some ⟨nt,b,res,none,t.er⟩) (hT:TabOk (EF pg) (tabU L)) (hc:chk sg nt t=true) (he:evFn (tabU L) ⟨res,b,sg⟩ t=f):TOK (EF pg) k (.par sg f):=by
 simp only[chk,Bool.and_eq_true,Nat.ble_eq]at hc
 exact tok_of hp rfl hT ⟨rfl,rfl,hc.2.1⟩ hc.1 (rndOk_of hc.2.2) trivial fun x y h=>(congrFun he x).trans h
theorem tkt {pg:Nat->Option Fn} {k nt:Nat} {b:Bool} {res:List Res} {L:List (Nat×TF)} {sg:Sg} {f:sg.aT.T->sg.oT.T} (t:Tc) (hp:pg k=some ⟨nt,b,res,none,t.er⟩) (hT:TabOk (EF pg) (tabU L)) (hc:chk sg nt t=true) (he:evFn (tabU L) ⟨res,b,sg⟩ t=fun x=>some (f x)):TOK (EF pg) k (.tot sg f):=by
 simp only[chk,Bool.and_eq_true,Nat.ble_eq]at hc
 exact tok_of hp rfl hT ⟨rfl,rfl,hc.2.1⟩ hc.1 (rndOk_of hc.2.2) trivial fun x y h=>(congrFun he x).trans h
theorem tab_all {l:List (Nat×Fn)} (h:l.all (fun p=>okT PP p.1 p.2)=true):MProg PP (tab l):=tab_ok fun p hp=>.inl (List.all_eq_true.1 h p hp)
end Zz
end Go.Proofs.Ytfopbiiffiickaa.Ev.U
namespace Go.Proofs.Ytfopbiiffiickaa.Ev
open Go
def lst (m:Mode) (z:Nat) (q:Bool) (xs:List D):D:=if(q&&xs.isEmpty)=true then .sl .nl 0 []else .sl m z xs
theorem lst_f {m:Mode} {z:Nat} {xs:List D}:lst m z false xs= .sl m z xs:=by simp[lst]
def aggE (P:Program) (t:TypeId):Bool:=match P.underlying t with
 |some (.struct _)=>true
 |some (.array _ _)=>true
 |_=>false
def mkV (P:Program) (t:TypeId) (ds:List D):D:=if aggE P t=true then .agg ds else ds.headD .u
inductive RDB (P:Program) (zb:Bool):TypeId->List D->Prop
 |bool (t:TypeId) (b:Bool) (h:P.underlying t=some .bool):RDB P zb t [.v (.bool b)]
 |int (t:TypeId) (k:IntKind) (n:Int) (h:P.underlying t=some (.int k)) (hw:(Lit.int k n).wf=true):RDB P zb t [.v (.int k n)]
 |str (t:TypeId) (s:ByteArray) (h:P.underlying t=some .string) (hs:s.size<=maxLen):RDB P zb t [.v (.string s)]
 |sl (t e:TypeId) (q:Bool) (xs:List (List D)) (h:P.underlying t=some (.slice e)) (hn:xs.length<=maxLen) (hz:zb=true->xs.length*P.bytesOf e<=reachBytes) (hx:∀(i:Nat) x,xs[i]? =some x->RDB P zb e x):RDB P zb t [lst .ro (P.cellsOf e) q (xs.map (mkV P e))]
 |st (t:TypeId) (fs:Array Field) (xs:List (List D)) (h:P.underlying t=some (.struct fs)) (hl:xs.length=fs.size) (hx:∀(i:Nat) f x,fs[i]? =some f->xs[i]? =some x->RDB P zb f.type x):RDB P zb t xs.flatten
 |arr (t e:TypeId) (n:Nat) (xs:List (List D)) (h:P.underlying t=some (.array n e)) (hl:xs.length=n) (hx:∀(i:Nat) x,xs[i]? =some x->RDB P zb e x):RDB P zb t xs.flatten
section
variable {P:Program} {zb:Bool} {t e:TypeId} {ds:List D}
theorem RDB.und (h:RDB P zb t ds):(∃b,P.underlying t=some .bool∧ds=[.v (.bool b)])∨(∃k n,P.underlying t=some (.int k)∧(Lit.int k n).wf=true∧ds=[.v (.int k n)])∨(∃s,P.underlying t=some .string∧s.size<=maxLen∧ds=[.v (.string s)])∨
  (∃(e:TypeId) (q:Bool) (xs:List (List D)),P.underlying t=some (.slice e)∧(xs.length<=maxLen∧(zb=true->xs.length*P.bytesOf e<=reachBytes)∧∀(i:Nat) x,xs[i]? =some x->RDB P zb e x)∧ds=[lst .ro (P.cellsOf e) q (xs.map (mkV P e))])∨
  (∃(fs:Array Field) (xs:List (List D)),P.underlying t=some (.struct fs)∧xs.length=fs.size∧(∀(i:Nat) f x,fs[i]? =some f->xs[i]? =some x->RDB P zb f.type x)∧ds=xs.flatten)∨
  (∃(n:Nat) (e:TypeId) (xs:List (List D)),P.underlying t=some (.array n e)∧xs.length=n∧(∀(i:Nat) x,xs[i]? =some x->RDB P zb e x)∧ds=xs.flatten):=by
 cases h with
 |bool _ b h=>exact .inl ⟨b,h,rfl⟩
 |int _ k n h hw=>exact .inr (.inl ⟨k,n,h,hw,rfl⟩)
 |str _ s h hs=>exact .inr (.inr (.inl ⟨s,h,hs,rfl⟩))
 |sl _ e q xs h hn hz hx=>exact .inr (.inr (.inr (.inl ⟨e,q,xs,h,⟨hn,hz,hx⟩,rfl⟩)))
 |st _ fs xs h hl hx=>exact .inr (.inr (.inr (.inr (.inl ⟨fs,xs,h,hl,hx,rfl⟩))))
 |arr _ e n xs h hl hx=>exact .inr (.inr (.inr (.inr (.inr ⟨n,e,xs,h,hl,hx,rfl⟩))))
theorem RDB.bool' (hu:P.underlying t=some .bool) (hh:RDB P zb t ds):∃b,ds=[.v (.bool b)]:=by
 rcases hh.und with⟨b,h,hw⟩|⟨k',n,h,hw⟩|⟨s,h,hw⟩|⟨e',q,xs,h,hw⟩|⟨fs',xs,h,hw⟩|⟨n',e',xs,h,hw⟩<;>rw[hu]at h<;>cases h
 exact⟨b,hw⟩
theorem RDB.int' {k:IntKind} (hu:P.underlying t=some (.int k)) (hh:RDB P zb t ds):∃n,(Lit.int k n).wf=true∧ds=[.v (.int k n)]:=by
 rcases hh.und with⟨b,h,hw⟩|⟨k',n,h,hw⟩|⟨s,h,hw⟩|⟨e',q,xs,h,hw⟩|⟨fs',xs,h,hw⟩|⟨n',e',xs,h,hw⟩<;>rw[hu]at h<;>cases h
 exact⟨n,hw⟩
theorem RDB.str' (hu:P.underlying t=some .string) (hh:RDB P zb t ds):∃s,s.size<=maxLen∧ds=[.v (.string s)]:=by
 rcases hh.und with⟨b,h,hw⟩|⟨k',n,h,hw⟩|⟨s,h,hw⟩|⟨e',q,xs,h,hw⟩|⟨fs',xs,h,hw⟩|⟨n',e',xs,h,hw⟩<;>rw[hu]at h<;>cases h
 exact⟨s,hw⟩
theorem RDB.sl' (hu:P.underlying t=some (.slice e)) (hh:RDB P zb t ds):∃(q:Bool) (xs:List (List D)),(xs.length<=maxLen∧(zb=true->xs.length*P.bytesOf e<=reachBytes)∧∀x,x∈xs->RDB P zb e x)∧ds=[lst .ro (P.cellsOf e) q (xs.map (mkV P e))]:=by
 rcases hh.und with⟨b,h,hw⟩|⟨k',n,h,hw⟩|⟨s,h,hw⟩|⟨e',q,xs,h,hw⟩|⟨fs',xs,h,hw⟩|⟨n',e',xs,h,hw⟩<;>rw[hu]at h<;>cases h
 exact⟨q,xs,⟨hw.1.1,hw.1.2.1,fun x hm=>by obtain⟨i,hi⟩:=List.mem_iff_getElem?.1 hm;exact hw.1.2.2 i x hi⟩,hw.2⟩
theorem RDB.st' {fs:Array Field} (hu:P.underlying t=some (.struct fs)) (hh:RDB P zb t ds):∃xs:List (List D),xs.length=fs.size∧(∀(i:Nat) f x,fs[i]? =some f->xs[i]? =some x->RDB P zb f.type x)∧ds=xs.flatten:=by
 rcases hh.und with⟨b,h,hw⟩|⟨k',n,h,hw⟩|⟨s,h,hw⟩|⟨e',q,xs,h,hw⟩|⟨fs',xs,h,hw⟩|⟨n',e',xs,h,hw⟩<;>rw[hu]at h<;>cases h
 exact⟨xs,hw⟩
theorem RDB.arr' {n:Nat} (hu:P.underlying t=some (.array n e)) (hh:RDB P zb t ds):∃xs:List (List D),xs.length=n∧(∀(i:Nat) x,xs[i]? =some x->RDB P zb e x)∧ds=xs.flatten:=by
 rcases hh.und with⟨b,h,hw⟩|⟨k',n,h,hw⟩|⟨s,h,hw⟩|⟨e',q,xs,h,hw⟩|⟨fs',xs,h,hw⟩|⟨n',e',xs,h,hw⟩<;>rw[hu]at h<;>cases h
 exact⟨xs,hw⟩
theorem lst_cells {m:Mode} {z:Nat} {q:Bool} {xs:List D}:(lst m z q xs).cells=[lst m z q xs]:=by unfold lst;split<;>rfl
theorem mkV_cells (hh:RDB P zb t ds):(mkV P t ds).cells=ds:=by
 rcases hh.und with⟨_,h,rfl⟩|⟨k',n,h,hw,rfl⟩|⟨_,h,_,rfl⟩|⟨_,q,xs,h,hx,rfl⟩|⟨_,xs,h,hl,hx,rfl⟩|⟨_,_,xs,h,hl,hx,rfl⟩<;>simp only[mkV,aggE,h,Bool.false_eq_true,↓reduceIte,List.headD_cons]
 ·rfl
 ·rfl
 ·rfl
 ·exact lst_cells
 ·rfl
 ·rfl
end
def contig (P:Program):Nat->List Field->Nat->Bool
 |o,[],n=>o==n
 |o,f::fs,n=>f.offset==o&&contig P (o+P.cellsOf f.type) fs n
def okTy (P:Program):Nat->TypeId->Bool
 |0,_=>false
 |k+1,t=>match P.underlying t with
  |some .bool=>true
  |some (.int _)=>true
  |some .string=>true
  |some (.slice e)=>okTy P k e&&decide (0<P.cellsOf e)
  |some (.struct fs)=>contig P 0 fs.toList (P.cellsOf t)&&fs.toList.all fun f=>okTy P k f.type
  |some (.array n e)=>okTy P k e&&P.cellsOf t==n*P.cellsOf e
  |_=>false
section
variable {H:Type} {enc:TypeId×Value->H} {P:Program} {w:World} {base:Nat} {sp:Nat->Bool} {held:Bool} {fr:Nat->Nat}
def Tl (w:World) (fr:Nat->Nat) (cs:List Value) (ds:List D):Prop:=ds.length=cs.length∧∀(i:Nat) v c,cs[i]? =some v->ds[i]? =some c->RF w fr v c
theorem Tl.one {v:Value} {d:D} (h:RF w fr v d):Tl w fr [v] [d]:=⟨rfl,fun i v' c h1 h2=>by
 cases i with
 |zero=>simp at h1 h2;subst h1 h2;exact h
 |succ i=>simp at h1⟩
theorem Tl.app {a b:List Value} {x y:List D} (h:Tl w fr a x) (k:Tl w fr b y):Tl w fr (a++b) (x++y):=by
 refine⟨by rw[List.length_append,List.length_append,h.1,k.1],fun i v c h1 h2=>?_⟩
 rcases Nat.lt_or_ge i a.length with hi|hi
 ·rw[List.getElem?_append_left hi]at h1
  rw[List.getElem?_append_left (by rw[h.1];exact hi)]at h2
  exact h.2 i v c h1 h2
 ·rw[List.getElem?_append_right hi]at h1
  rw[List.getElem?_append_right (by rw[h.1];exact hi),h.1]at h2
  exact k.2 _ v c h1 h2
theorem tl_fields {Q:TypeId->List D->Prop} {cs:List Value}:∀(fs:List Field) (o:Nat),contig P o fs cs.length=true->(∀f∈fs,∃ds,Q f.type ds∧Tl w fr ((cs.drop f.offset).take (P.cellsOf f.type)) ds)->
  ∃xs:List (List D),xs.length=fs.length∧(∀(i:Nat) f x,fs[i]? =some f->xs[i]? =some x->Q f.type x)∧Tl w fr (cs.drop o) xs.flatten
 |[],o,h,_=>by
  simp only[contig,beq_iff_eq]at h
  refine⟨[],rfl,fun i f x h=>by simp at h,?_⟩
  rw[h,List.drop_length]
  exact⟨rfl,fun i v c h=>by simp at h⟩
 |f::fs,o,h,hf=>by
  simp only[contig,Bool.and_eq_true,beq_iff_eq]at h
  obtain⟨ho,h⟩:=h
  obtain⟨ds,h1,h2⟩:=hf f (List.mem_cons_self ..)
  obtain⟨xs,h3,h4,h5⟩:=tl_fields fs _ h (fun g hg=>hf g (List.mem_cons_of_mem _ hg))
  refine⟨ds::xs,by simp[h3],fun i g x hg hx=>?_,?_⟩
  ·cases i with
   |zero=>simp at hg hx;subst hg hx;exact h1
   |succ i=>simp at hg hx;exact h4 i g x hg hx
  ·rw[ho]at h2
   have e:cs.drop o=(cs.drop o).take (P.cellsOf f.type)++cs.drop (o+P.cellsOf f.type):=by rw[<-List.drop_drop,List.take_append_drop]
   rw[e,List.flatten_cons]
   exact h2.app h5
theorem tl_elems {Q:List D->Prop} {cs:List Value} {z:Nat}:∀(m o:Nat),cs.length=(o+m)*z->(∀i,o<=i->i<o+m->∃ds,Q ds∧Tl w fr ((cs.drop (i*z)).take z) ds)->
  ∃xs:List (List D),xs.length=m∧(∀(i:Nat) x,xs[i]? =some x->Q x)∧Tl w fr (cs.drop (o*z)) xs.flatten
 |0,o,h,_=>by
  refine⟨[],rfl,fun i x h=>by simp at h,?_⟩
  rw[Nat.add_zero]at h
  rw[<-h,List.drop_length]
  exact⟨rfl,fun i v c h=>by simp at h⟩
 |m+1,o,h,hf=>by
  obtain⟨ds,h1,h2⟩:=hf o (Nat.le_refl _) (by omega)
  obtain⟨xs,h3,h4,h5⟩:=tl_elems m (o+1) (by rw[h];congr 1;omega) (fun i h1 h2=>hf i (by omega) (by omega))
  refine⟨ds::xs,by simp[h3],fun i x hx=>?_,?_⟩
  ·cases i with
   |zero=>simp at hx;subst hx;exact h1
   |succ i=>simp at hx;exact h4 i x hx
  ·have e:cs.drop (o*z)=(cs.drop (o*z)).take z++cs.drop ((o+1)*z):=by rw[Nat.add_mul,Nat.one_mul,<-List.drop_drop,List.take_append_drop]
   rw[e,List.flatten_cons]
   exact h2.app h5
theorem cells?_get {base:Nat} {a:Addr} {n:Nat} {vs:List Value} (h:w.cells? base a n=some vs):vs.length=n∧∀i,i<n->w.cell? (a.add i)=vs[i]? :=by
 unfold World.cells? at h
 split at h
 ·refine⟨by simpa using mapM_some_length h,fun i hi=>?_⟩
  exact mapM_some_get h i i (by rw[List.getElem?_range hi])
 ·cases h
theorem spot_of {a:Addr} {k:Nat} {v:Value} (h:w.cell? (a.add 0)=some v):a.spot=none:=by
 simp only[Addr.add,↓reduceIte]at h
 unfold World.cell? at h
 split at h
 ·split at h
  ·cases h
  ·rename_i hs
   cases hq:a.spot with
   |none=>rfl
   |some _=>rw[hq]at hs;exact absurd rfl hs
 ·cases h
theorem mem_wall {l:List (DataW H)} {e:TypeId} {y:DataW H} (hy:y∈l) {q:Nat} (hq:q∈y.weights P e):q∈DataW.weightsAll P e l:=by
 induction l with
 |nil=>cases hy
 |cons d r ih=>
  rw[DataW.weightsAll,List.mem_append]
  rcases List.mem_cons.1 hy with rfl|hy
  ·exact .inl hq
  ·exact .inr (ih hy)
theorem mem_weach:∀{ts:List TypeId} {l:List (DataW H)} {i:Nat} {t:TypeId} {y:DataW H},ts[i]? =some t->l[i]? =some y->∀{q:Nat},q∈y.weights P t->q∈DataW.weightsEach P ts l
 |[],_,i,t,y,h,_,q,_=>by simp at h
 |_::_,[],i,t,y,_,h,q,_=>by simp at h
 |t0::ts,d::l,0,t,y,h1,h2,q,hq=>by
  simp at h1 h2
  subst h1 h2
  rw[DataW.weightsEach,List.mem_append]
  exact .inl hq
 |t0::ts,d::l,i+1,t,y,h1,h2,q,hq=>by
  rw[DataW.weightsEach,List.mem_append]
  exact .inr (mem_weach (by simpa using h1) (by simpa using h2) hq)
theorem read_tl {zb:Bool} (hsp:∀b,sp b=true) (hfr:∀b o,(w.cell? ⟨b,o,none⟩).isSome->o<fr b):∀(k:Nat) (t:TypeId),okTy P k t=true->∀(n:Nat) (cs:List Value) (x:DataW H×List MemPlace),DataW.trod enc P w base sp held n t cs=some x->(zb=true->∀q∈x.1.weights P t,q<=reachBytes)->∃ds,RDB P zb t ds∧Tl w fr cs ds
 |0,_,h=>by cases h
 |k+1,t,h=>by
  intro n cs x hx hw0
  unfold okTy at h
  split at h
  ·rename_i hu
   obtain⟨b,rfl,_⟩:=DataW.trod_bool hu hx
   exact⟨_,.bool t b hu,.one (.v _ rfl)⟩
  ·rename_i hu
   obtain⟨m,rfl,_,hw⟩:=DataW.trod_int hu hx
   exact⟨_,.int t _ m hu hw,.one (.v _ rfl)⟩
  ·rename_i hu
   obtain⟨s,rfl,_,hs⟩:=DataW.trod_string hu hx
   exact⟨_,.str t s hu hs,.one (.v _ rfl)⟩
  ·rename_i e hu
   rw[Bool.and_eq_true,decide_eq_true_eq]at h
   obtain⟨h,hz⟩:=h
   rcases DataW.trod_slice hu hx with⟨rfl,_⟩|⟨a,len,cap,elems,rest,m,_,rfl,hxe,_,hlc,hcap,hlen,hel,hrest,_⟩
   ·refine⟨_,.sl t e true [] hu (Nat.zero_le _) (fun _=>by simp) (fun i x h=>by simp at h),.one ?_⟩
    exact .nl 0
   ·have hws:zb=true->len*P.bytesOf e<=reachBytes:=fun hb=>by
     have:=hw0 hb ((elems.length+rest.length)*P.bytesOf e) (by rw[hxe];simp[DataW.weights,hu])
     have h2:len*P.bytesOf e<=(elems.length+rest.length)*P.bytesOf e:=Nat.mul_le_mul_right _ (by omega)
     omega
    have hwe:∀y∈elems,zb=true->∀q∈y.1.weights P e,q<=reachBytes:=fun y hy hb q hq=>by
     refine hw0 hb q ?_
     rw[hxe]
     simp only[DataW.weights,hu,List.mem_cons,List.mem_append]
     exact .inr (.inl (mem_wall (List.mem_map.2 ⟨y,hy,rfl⟩) hq))
    have each:∀i,i<len->∃vs ds,(∀j,j<P.cellsOf e->w.cell? ((a.add (i*P.cellsOf e)).add j)=vs[j]?)∧vs.length=P.cellsOf e∧RDB P zb e ds∧Tl w fr vs ds:=by
     intro i hi
     have h1:=hel i hi
     rw[List.getElem?_eq_getElem (by omega)]at h1
     cases hc:w.cells? base (a.add (i*P.cellsOf e)) (P.cellsOf e)with
     |none=>rw[hc]at h1;cases h1
     |some vs=>
      rw[hc]at h1
      obtain⟨ds,h2,h3⟩:=read_tl hsp hfr k e h m vs _ h1 (hwe _ (List.getElem_mem _))
      obtain⟨h4,h5⟩:=cells?_get hc
      exact⟨vs,ds,h5,h4,h2,h3⟩
    have all:∃xs:List (List D),xs.length=len∧∀(i:Nat) x,xs[i]? =some x->RDB P zb e x∧∃vs:List Value,(∀j,j<P.cellsOf e->w.cell? ((a.add (i*P.cellsOf e)).add j)=vs[j]?)∧vs.length=P.cellsOf e∧Tl w fr vs x:=by
     clear hx hel hlen hlc hcap hrest hxe hw0 hws hwe
     induction len with
     |zero=>exact⟨[],rfl,fun i x h=>by simp at h⟩
     |succ len ih=>
      obtain⟨xs,h1,h2⟩:=ih (fun i hi=>each i (by omega))
      obtain⟨vs,ds,h3,h4,h5,h6⟩:=each len (by omega)
      refine⟨xs++[ds],by simp[h1],fun i x hx=>?_⟩
      rcases Nat.lt_trichotomy i xs.length with hi|hi|hi
      ·rw[List.getElem?_append_left hi]at hx;exact h2 i x hx
      ·rw[List.getElem?_append_right (by omega),hi,Nat.sub_self]at hx
       simp at hx
       subst hx
       rw[hi,h1]
       exact⟨h5,vs,h3,h4,h6⟩
      ·rw[List.getElem?_append_right (by omega)]at hx
       have:i-xs.length≠0:=by omega
       cases hk:i-xs.length with
       |zero=>omega
       |succ q=>rw[hk]at hx;simp at hx
    obtain⟨xs,h1,h2⟩:=all
    refine⟨_,.sl t e false xs hu (by omega) (fun hb=>by rw[h1];exact hws hb) (fun i x hx=>(h2 i x hx).1),.one ?_⟩
    rw[lst_f]
    rcases Nat.eq_zero_or_pos len with h0|h0
    ·subst h0
     obtain rfl:xs=[]:=List.eq_nil_of_length_eq_zero h1
     rcases Nat.eq_zero_or_pos cap with c0|c0
     ·subst c0
      exact .z a _
     ·obtain⟨r1,r2⟩:=hrest (hsp _)
      have r3:=r2 0 (by omega)
      rw[List.getElem?_eq_getElem (by omega)]at r3
      cases hc:w.cells? base (a.add ((0+0)*P.cellsOf e)) (P.cellsOf e)with
      |none=>rw[hc]at r3;cases r3
      |some vs=>
       obtain⟨h4,h5⟩:=cells?_get hc
       have h6:=h5 0 hz
       rw[List.getElem?_eq_getElem (by omega),Nat.add_zero,Nat.zero_mul]at h6
       have hsp':a.spot=none:=spot_of (k:=0) (by simpa[Addr.add]using h6)
       obtain⟨b,off,s⟩:=a
       simp only at hsp'
       subst hsp'
       exact .ro b off cap _ [] (fun _ _=>undef) (Nat.zero_le _) hcap (.inl rfl) (fun i d h=>by simp at h) (fun i d j c h=>by simp at h) (fun i d j c h=>by simp at h)
    obtain⟨x0,hx0⟩:∃x0,xs[0]? =some x0:=⟨_,List.getElem?_eq_getElem (by omega)⟩
    obtain⟨_,v0,h3,h4,_⟩:=h2 0 x0 hx0
    have hsp:a.spot=none:=by
     have:=h3 0 hz
     rw[List.getElem?_eq_getElem (by omega),Nat.zero_mul]at this
     exact spot_of (k:=0) (by simpa[Addr.add]using this)
    obtain⟨b,off,s⟩:=a
    simp only at hsp
    subst hsp
    simp only[add_lit]at h2
    have hcell:∀(i:Nat) d (j:Nat) c,(xs.map (mkV P e))[i]? =some d->d.cells[j]? =some c->∃v,w.cell? ⟨b,off+i*P.cellsOf e+j,none⟩=some v∧RF w fr v c:=by
     intro i d j c hd hj
     rw[List.getElem?_map]at hd
     cases hxi:xs[i]? with
     |none=>rw[hxi]at hd;cases hd
     |some x=>
      rw[hxi]at hd
      injection hd with hd
      subst hd
      obtain⟨g1,vs,g2,g3,g4⟩:=h2 i x hxi
      rw[mkV_cells g1]at hj
      have hjl:=getq_lt hj
      rw[g4.1,g3]at hjl
      have hv:vs[j]? =some vs[j]:=List.getElem?_eq_getElem (by omega)
      exact⟨vs[j],by rw[g2 j hjl,hv],g4.2 j _ c hv hj⟩
    have hcl:∀(i:Nat) d,(xs.map (mkV P e))[i]? =some d->d.cells.length=P.cellsOf e:=by
     intro i d hd
     rw[List.getElem?_map]at hd
     cases hxi:xs[i]? with
     |none=>rw[hxi]at hd;cases hd
     |some x=>
      rw[hxi]at hd
      injection hd with hd
      subst hd
      obtain⟨g1,vs,g2,g3,g4⟩:=h2 i x hxi
      rw[mkV_cells g1,g4.1,g3]
    have hml:(xs.map (mkV P e)).length=len:=by rw[List.length_map,h1]
    rw[<-hml]
    refine .ro b off cap _ _ (fun i j=>(w.cell? ⟨b,off+i*P.cellsOf e+j,none⟩).getD undef) (by omega) hcap (.inr ?_) hcl (fun i d j c hd hj=>?_) (fun i d j c hd hj=>?_)
    ·rw[hml]
     obtain⟨d,hd⟩:∃d,(xs.map (mkV P e))[len-1]? =some d:=⟨_,List.getElem?_eq_getElem (by omega)⟩
     obtain⟨c,hc⟩:∃c,d.cells[P.cellsOf e-1]? =some c:=⟨_,List.getElem?_eq_getElem (by rw[hcl _ _ hd];omega)⟩
     obtain⟨v,hv,_⟩:=hcell _ _ _ _ hd hc
     have:=hfr b (off+(len-1)*P.cellsOf e+(P.cellsOf e-1)) (by rw[hv];rfl)
     have e1:len*P.cellsOf e=(len-1)*P.cellsOf e+P.cellsOf e:=by
      conv=>lhs;rw[show len=(len-1)+1 by omega,Nat.add_mul,Nat.one_mul]
     omega
    ·obtain⟨v,hv,_⟩:=hcell _ _ _ _ hd hj
     rw[hv];rfl
    ·obtain⟨v,hv,hr⟩:=hcell _ _ _ _ hd hj
     rw[hv];exact hr
  ·rename_i fs hu
   rw[Bool.and_eq_true]at h
   obtain⟨hc,hall⟩:=h
   obtain⟨ys,m,_,hxe,hl,hys,hf⟩:=DataW.trod_struct hu hx
   rw[<-hl]at hc
   obtain⟨xs,h1,h2,h3⟩:=tl_fields (P:=P) (w:=w) (fr:=fr) (Q:=RDB P zb) (cs:=cs) fs.toList 0 hc (fun f hm=>by
    obtain⟨i,hi⟩:=List.mem_iff_getElem?.1 hm
    have hi':fs[i]? =some f:=by rw[<-Array.getElem?_toList];exact hi
    have h4:=hf i f hi'
    rw[List.getElem?_eq_getElem (by rw[hys];exact(Array.getElem?_eq_some_iff.1 hi').1)]at h4
    refine read_tl hsp hfr k f.type (List.all_eq_true.1 hall f hm) m _ _ h4 fun hb q hq=>hw0 hb q ?_
    rw[hxe]
    simp only[DataW.weights,hu]
    exact mem_weach (i:=i) (t:=f.type) (by rw[List.getElem?_map,hi];rfl) (by rw[List.getElem?_map,List.getElem?_eq_getElem (by rw[hys];exact(Array.getElem?_eq_some_iff.1 hi').1)];rfl) hq)
   refine⟨_,.st t fs xs hu (by rw[h1];rfl) (fun i f x hf hx=>h2 i f x (by rw[Array.getElem?_toList];exact hf) hx),?_⟩
   simpa using h3
  ·rename_i m e hu
   rw[Bool.and_eq_true,beq_iff_eq]at h
   obtain⟨h,hz⟩:=h
   obtain⟨ys,m',_,hxe,hl,hys,hf⟩:=DataW.trod_array hu hx
   obtain⟨xs,h1,h2,h3⟩:=tl_elems (w:=w) (fr:=fr) (Q:=RDB P zb e) (cs:=cs) (z:=P.cellsOf e) m 0 (by rw[hl,hz,Nat.zero_add]) (fun i _ hi=>by
    have h4:=hf i (by omega)
    rw[List.getElem?_eq_getElem (by omega)]at h4
    refine read_tl hsp hfr k e h m' _ _ h4 fun hb q hq=>hw0 hb q ?_
    rw[hxe]
    simp only[DataW.weights,hu]
    exact mem_wall (List.mem_map.2 ⟨_,List.getElem_mem _,rfl⟩) hq)
   refine⟨_,.arr t e m xs hu h1 h2,?_⟩
   simpa using h3
  ·cases h
end
end Go.Proofs.Ytfopbiiffiickaa.Ev
namespace Go.Proofs.Ytfopbiiffiickaa.Ev
open Go Go.RowKit
def g0 (w:World):G:=⟨w.heap.size,fun _ _=>none,fun b=>match w.heap[b]? with|some (.cells cs _ _)=>cs.size|_=>0,fun _=>none,fun _=>false⟩
theorem fr0 {w:World} (b o:Nat) (h:(w.cell? ⟨b,o,none⟩).isSome):o<(g0 w).fr b:=by
 unfold World.cell? at h
 simp only[Option.isSome_none,Bool.false_eq_true,↓reduceIte]at h
 simp only[g0]
 split at h
 ·rename_i hb
  rw[hb]
  simp only
  exact(Array.getElem?_eq_some_iff.1 (Option.isSome_iff_exists.1 h).choose_spec).1
 ·cases h
theorem inv0 (w:World):Inv (g0 w) w where
 base:=Nat.le_refl _
 fresh b hb:=by
  refine⟨?_,rfl⟩
  simp only[g0]
  rw[Array.getElem?_eq_none hb]
 box f s b h:=by cases h
 inj f s f' s' b h:=by cases h
 tk b l h:=by cases h
 cells b o h:=by
  simp only[g0]at h
  split at h
  ·rename_i hb
   unfold World.cell?
   simp only[hb,Option.isSome_none,Bool.false_eq_true,↓reduceIte]
   rw[Array.getElem?_eq_getElem h];rfl
  ·cases h
 dm b h:=by cases h
 dt b h:=by cases h
theorem sb0 (w:World):SB (g0 w) w [] where
 rel f s ds h:=by simp[bxl]at h
 dom f s h:=by cases h
 bnd f s ds d h:=by simp[bxl]at h
section
variable {H:Type} {enc:TypeId×Value->H} {w:World} {base b0 k:Nat} {sp:Nat->Bool} {held:Bool} {t:TypeId} {v:Value} {d:DataW H} {ps:List MemPlace}
set_option maxRecDepth 100000 in
theorem open_argz {zb:Bool} (hsp:∀b,sp b=true) (hk:okTy PP k t=true) (hval:Value.okWide PP w .any b0 t v) (h:DataW.Trod enc PP w base sp held t v d ps) (hwt:zb=true->∀q∈d.weights PP t,q<=reachBytes):∃ds,RDB PP zb t ds∧∀L,RV (g0 w) w L v (mkV PP t ds):=by
 obtain⟨n,h⟩:=h
 obtain⟨ds,h1,h2⟩:=read_tl hsp (fr:=(g0 w).fr) fr0 k t hk n _ _ h hwt
 refine⟨ds,h1,fun L=>?_⟩
 have agg:∀cs:Array Value,v= .agg cs->RV (g0 w) w L v (.agg ds):=by
  intro cs e
  subst e
  have e:(Value.agg cs).cells.toList=cs.toList:=rfl
  rw[e]at h2
  refine⟨cs,rfl,h2.1.symm,fun c d hc=>?_⟩
  have hl:=getq_lt hc
  rw[h2.1]at hl
  have hv:cs[c]? =some cs[c]:=Array.getElem?_eq_getElem hl
  exact⟨_,hv,(h2.2 c _ _ (by rw[Array.getElem?_toList];exact hv) hc).toRC _⟩
 have one:v.cells.toList=[v]->∀d',ds=[d']->d'.aggB=false->RV (g0 w) w L v d':=by
  intro e d' e' ha
  subst e'
  rw[e]at h2
  rw[RV_ne ha]
  exact(h2.2 0 v d' rfl rfl).toRC _
 rcases h1.und with⟨b,hu,e⟩|⟨k',m,hu,_,e⟩|⟨s,hu,_,e⟩|⟨e',q,xs,hu,_,e⟩|⟨fs,xs,hu,_,_,e⟩|⟨m,e',xs,hu,_,_,e⟩<;>simp only[mkV,aggE,hu,Bool.false_eq_true,↓reduceIte]
 ·obtain⟨x,rfl⟩:=WideShapes.okWide_bool hu hval
  rw[e];exact one rfl _ e rfl
 ·obtain⟨x,rfl⟩:=WideShapes.okWide_int hu hval
  rw[e];exact one rfl _ e rfl
 ·obtain⟨x,rfl⟩:=WideShapes.okWide_string hu hval
  rw[e];exact one rfl _ e rfl
 ·obtain⟨x,l,c,rfl⟩:=WideShapes.okWide_slice hu hval
  rw[e];exact one rfl _ e (by unfold lst;split<;>rfl)
 ·simp only[Value.okWide,hu]at hval
  obtain⟨cs,rfl,_⟩:=hval
  exact agg cs rfl
 ·simp only[Value.okWide,hu]at hval
  obtain⟨cs,rfl,_⟩:=hval
  exact agg cs rfl
end
theorem run0 {prog:Nat->Option Fn} (hp:MProg PP prog) {f:Nat} {ds:List D} {r:D} (hf:f<RL) (h:EF prog f ds []=some (r,[])) {W:World} {vs:Array Value} (hs:vs.size=ds.length)
  (hv:∀(i:Nat) d,ds[i]? =some d->∃x,vs[i]? =some x∧∀L,RV (g0 W) W L x d):
  Calls PP f vs W fun e W'=>∃x g',e= .returned x∧RT g' W' retL x r∧Below W.heap.size W W':=by
 obtain⟨_,_,h2⟩:=(EF_good hp f ds [] r [] h).1 hf
 have h3:=h2 (g0 W) W vs (inv0 W) (sb0 W) hs (fun i d hi=>by
  obtain⟨x,hx,hr⟩:=hv i d hi
  exact⟨x,hx,hr _⟩)
 refine((callsIn_wide (n:=0)).1 h3).mono fun e W' ⟨x,g',he,hi,_,_,hx,hr⟩=>⟨x,g',he,hr,hx.os,hx.tape,hx.output,hx.size,hx.old⟩
end Go.Proofs.Ytfopbiiffiickaa.Ev
