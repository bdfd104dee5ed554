/- A call of which the lists are only grown from here on. Conditions: none. -/
import Derived.Test.YtfopbiiffiickaaEvG
import Derived.RangeFuncRecord
import Derived.Deep.AppendSrc
import Derived.Laws.MakeOwn
import Derived.Deep.Upon
set_option linter.all false
namespace Go.Proofs.Ytfopbiiffiickaa.Ev
open Go
variable {P:Program}
def Post (g:G) (w:World) (B B':List Bx) (r:D) (e:Ending) (w':World):Prop:=
 ∃x g',e= .returned x∧Inv g' w'∧SB g' w' B'∧B'.length=B.length∧Ext B.length g w g' w'∧RT g' w' retL x r
def foldTmps (ps:Array Tmp) (vs tmps:Array Value):Array Value:=(ps.zip vs).foldl (fun tmps (t,a)=>tmps.setIfInBounds t a) tmps
def Good (P:Program) (call:Caller):Prop:=∀f ds B r B',call f ds B=some (r,B')->
 (f < RL -> ds.all (fun d => !d.tupB) = true ∧ (∃ fn, P.funcs[f]? = some fn ∧ (fn.name == "runtime.NumGoroutine") = false ∧ fn.body.isNone = false) ∧
 ∀g w (vs:Array Value),Inv g w->SB g w B->vs.size=ds.length->(∀(i:Nat) d,ds[i]? =some d->∃x,vs[i]? =some x∧RV g w (slotL B.length i 0) x d)->
  CallsIn (W none) 0 P f vs w (Post g w B B' r))∧
 (RL<=f->∀f' b args,ds= .yld f' b::args->args.all (fun d=> !d.tupB)=true∧
 ∀g w l (vs:Array Value),Inv g w->SB g w B->g.bx f' b=some l->RL<=b->vs.size=args.length->(∀(i:Nat) d,args[i]? =some d->∃x,vs[i]? =some x∧RV g w (slotL B.length i 0) x d)->
  ∃q:Loop,w.heap[l]? =some (.loop q)∧q.params.size=args.length∧RoundIn (W none) 0 P l q.fn (foldTmps q.params vs q.tmps) q.assign q.body w (Post g w B B' r))
section
variable {o:Oper} {g:G} {w:World} {n:Nat} {a:Act} {s s':S} {d:D} {call:Caller} {t:Option Nat}
theorem rdL_fly {xs:List Operand} {ys:List Opd} (hl:xs.length=ys.length) (hm:∀(i:Nat) x y,xs[i]? =some x->ys[i]? =some y->MOpd x y):∀{g:G} {s:S} (j:Nat),SN g w n a.tmps s->
  ∃g',SN g' w n a.tmps (rdL ys s).2∧(rdL ys s).1.length=ys.length∧(∀(i:Nat) d,(rdL ys s).1[i]? =some d->∃x,xs[i]? =some x∧RT g' w (flyL (j+i)) (a.eval x) d)∧Ext s.k g w g' w∧(rdL ys s).2.k=s.k∧(rdL ys s).2.B=s.B∧(rdL ys s).2.o=s.o∧(rdL ys s).2.l=s.l∧
   (∀j' y d,j'<j->RT g w (flyL j') y d->RT g' w (flyL j') y d)∧g'.bx=g.bx:=by
 induction ys generalizing xs with
 |nil=>intro g s j h;exact⟨g,h,rfl,fun i d hi=>by simp[rdL]at hi,Ext.refl _ _ _,rfl,rfl,rfl,rfl,fun _ _ _ _ h=>h,rfl⟩
 |cons y ys ih=>
  intro g s j h
  cases xs with
  |nil=>simp at hl
  |cons x xs=>
   obtain⟨g1,k1,k2,k3,k4,k5,_⟩:=rd_fly h (hm 0 x y rfl rfl) j
   obtain⟨g2,r1,r2,r3,r4,r5,r6,r6o,r6l,r7,r8⟩:=ih (xs:=xs) (by simpa using hl) (fun i x' y' hx hy=>hm (i+1) x' y' (by simpa using hx) (by simpa using hy)) (j+1) k1
   refine⟨g2,r1,by simp[rdL,r2],fun i d hi=>?_,k3.trans (by rw[rd_k]at r4;exact r4),r5.trans (rd_k ..),r6.trans (rd_B ..),r6o.trans (rd_o ..),r6l.trans (rd_l ..),fun j' y d hj hy=>r7 j' y d (by omega) (k4 j' y d (by omega) hy),r8.trans k5⟩
   cases i with
   |zero=>
    simp only[rdL,List.getElem?_cons_zero]at hi
    injection hi with hi
    subst hi
    exact⟨x,rfl,r7 j _ _ (by omega) k2⟩
   |succ i=>
    obtain⟨x',q1,q2⟩:=r3 i d (by simpa[rdL]using hi)
    exact⟨x',by simpa using q1,by rw[show j+(i+1)=j+1+i by omega];exact q2⟩
theorem SN.boxlt (h:SN g w n a.tmps s) {f b blk:Nat} (hb:g.bx f b=some blk):f<s.k+1:=by
 have:=h.st.sb.dom f b (by rw[hb];rfl)
 unfold bxl at this
 cases hq:s.B[f]? with
 |none=>rw[hq]at this;cases this
 |some L=>have:=getq_lt hq;simpa[S.B,S.k]using this
def rhoC (s:S):Loc->Loc:=fun ℓ=>if ℓ=flyL ℓ.f 0 ℓ.c then slotL (s.k+1) ℓ.f 0 ℓ.c else ℓ
theorem rhoC_fix {s:S} {ℓ:Loc} (h:ℓ.k≠3):rhoC s ℓ=ℓ:=if_neg fun e=>h (by rw[e];rfl)
theorem rhoC_fly {s:S} (i c:Nat):rhoC s (flyL i 0 c)=slotL (s.k+1) i 0 c:=if_pos rfl
theorem oB_len (s:S):(s.o++[s.l]).length=s.k+1:=by simp[S.k]
theorem post_ok {o1 o2:List Bx} {l2:Bx} {d1:D} {e:Ending} {w':World} (h:SN g w n a.tmps s) (hun:unsnoc o1=some (o2,l2)) (hP:Post (g.mv (rhoC s)) w (s.o++[s.l]) o1 d1 e w'):
  ∃x g',e= .returned x∧SN g' w' n a.tmps ((s.wo o2).wl l2)∧RT g' w' (flyL 0) x d1∧Ext (s.k+1) g w g' w'∧((s.wo o2).wl l2).k=s.k:=by
 obtain⟨x,g',rfl,q1,q2,q3,q4,q5⟩:=hP
 have hun':=unsnoc_eq hun
 simp only at hun'
 rw[oB_len]at q4
 have hlen2:o1.length=s.k+1:=by rw[q3,oB_len]
 have hk:((s.wo o2).wl l2).k=s.k:=by
  rw[hun']at hlen2
  simp at hlen2
  simp only[S.k]at hlen2 ⊢
  exact hlen2
 have hB:((s.wo o2).wl l2).B=o1:=hun'.symm
 let σ:Loc->Loc:=fun ℓ=>if ℓ=retL ℓ.i ℓ.c then flyL 0 ℓ.i ℓ.c else ℓ
 have hσf:∀ℓ:Loc,ℓ.k≠2->σ ℓ=ℓ:=fun ℓ hℓ=>if_neg fun e=>hℓ (by rw[e];rfl)
 have hE:Ext (s.k+1) g w (g'.mv σ) w':=((g.mv_ext w (rhoC s) _ fun ℓ h0 _=>rhoC_fix (by omega)).trans q4).trans (g'.mv_ext w' σ _ fun ℓ h0 _=>hσf _ (by omega))
 refine⟨x,g'.mv σ,rfl,⟨⟨q1.mv _,?_,fun t'=>?_⟩,h.size⟩,?_,hE,hk⟩
 ·rw[hB];exact q2.mv _ fun f b c=>hσf _ (by simp[boxL])
 ·rw[hk]
  refine(h.st.e t').keep fun i c=>⟨hE.cell,hE.fr,fun f b blk hb=>?_,fun b hb=>hE.tk b _ hb rfl (by simp[slotL]),hE.sz⟩
  exact hE.bx f b _ (h.boxlt hb) hb
 ·exact q5.keep fun i c=>g'.mv_keep' w' σ (if_pos rfl)
theorem doCall_some {f:Nat} {ds:List D} (he:doCall call f ds s=some (d,s')):∃o1 o2 l2,call f ds (s.o++[s.l])=some (d,o1)∧unsnoc o1=some (o2,l2)∧s'=(s.wo o2).wl l2:=by
 unfold doCall at he
 split at he
 ·cases he
 ·rename_i d1 o1 hcall
  split at he
  ·rename_i o2 l2 hun
   injection he with he
   injection he with e1 e2
   subst e1 e2
   exact⟨o1,o2,l2,hcall,hun,rfl⟩
  ·cases he
theorem call_ok (hg:Good P call) {f:Nat} (hf:f<RL) {vs:Array Value} {ds:List D} (h:SN g w n a.tmps s) (he:doCall call f ds s=some (d,s')) (hv:vs.size=ds.length) (hx:∀(i:Nat) d,ds[i]? =some d->∃x,vs[i]? =some x∧RV g w (flyL i 0) x d):
  (∃ fn, P.funcs[f]? = some fn ∧ (fn.name == "runtime.NumGoroutine") = false ∧ fn.body.isNone = false) ∧
  CallsIn (W none) 0 P f vs w (fun e w'=>∃x g',e= .returned x∧SN g' w' n a.tmps s'∧RT g' w' (flyL 0) x d∧Ext (s.k+1) g w g' w'∧s'.k=s.k):=by
 obtain⟨o1,o2,l2,hcall,hun,rfl⟩:=doCall_some he
 obtain⟨_,h1,h2⟩:=(hg _ _ _ _ _ hcall).1 hf
 refine⟨h1,?_⟩
 have h3:=h2 (g.mv (rhoC s)) w vs (h.st.inv.mv _) (h.st.sb.mv _ fun f b c=>rhoC_fix (by simp[boxL])) hv (fun i d hi=>by
  obtain⟨x,h4,h5⟩:=hx i d hi
  rw[oB_len]
  exact⟨x,h4,h5.keep fun c=>g.mv_keep' w _ (rhoC_fly i c)⟩)
 exact h3.mono fun e w' hP=>post_ok h hun hP
def Does (P:Program) (ro:Option Nat) (o:Oper) (g:G) (w:World) (n:Nat) (a:Act) (s:S) (d:D) (s':S):Prop:=
 ∀(next:Act->World->Prop) (Q:Exit->Act->World->Prop),
  (∀x w' g',SN g' w' n a.tmps s'->RT g' w' (flyL 0) x d->Ext s.k g w g' w'->s'.k=s.k->next (a.put o.dst x) w')->o.wpIn (W ro) 0 P a w next Q
theorem Gives.does {ro:Option Nat} (hd:∀c,o.op≠ .defer c) (h:Gives P o g w n a s d s'):Does P ro o g w n a s d s':=by
 intro next Q hn
 obtain⟨x,w',g',h1,h2,h3,h4,h5⟩:=h
 refine⟨fun _ _=>trivial,?_⟩
 rw[Oper.semAt_eq _ _ _ hd,h1]
 exact hn x w' g' h2 h3 h4 h5
theorem does_store {ro:Option Nat} {p x:Operand} {p' x':Opd} {ty:TypeId} {m:Nat} {i:TypeInfo} (ho:o.op= .store ty p x) (hp:MOpd p p') (hx:MOpd x x') (hi:P.info? ty=some i) (hm:i.size=m) (h:SN g w n a.tmps s) (he:evOp call t (.st m p' x') s=some (d,s')):
  Does P ro o g w n a s d s':=by
 intro next Q hn
 obtain⟨w',g',h1,h2,h3,h4,rfl⟩:=store_ok ho hp hx hi hm h he
 refine⟨fun _ _=>trivial,?_⟩
 rw[Oper.semAt_eq _ _ _ (fun c=>by rw[ho];exact fun e=>by cases e),h1]
 exact hn undef w' g' h2 trivial h3 h4
theorem does_enter {ro:Option Nat} {f:Nat} {vs:Array Value} (hd:∀c,o.op≠ .defer c) (hrun:(execOp a.eval o).run P w=(callFunc f vs).run P w)
  (h1 : ∃ fn, P.funcs[f]? = some fn ∧ (fn.name == "runtime.NumGoroutine") = false ∧ fn.body.isNone = false)
  (h2:CallsIn (W none) 0 P f vs w (fun e w'=>∃x g',e= .returned x∧SN g' w' n a.tmps s'∧RT g' w' (flyL 0) x d∧Ext s.k g w g' w'∧s'.k=s.k)):Does P ro o g w n a s d s':=by
 intro next Q hn
 obtain⟨fn,q1,q2,q3⟩:=h1
 refine⟨fun _ _=>trivial,?_⟩
 have hr:(callFunc f vs).run P w= .ok (.enter f vs) w:=by
  unfold callFunc
  rw[Sem.run_bind,show(program).run P w= .ok P w from rfl]
  simp only[Result.andThen_ok,q1,q2,q3,Bool.false_eq_true,if_false]
  rfl
 rw[Oper.semAt_eq _ _ _ hd,hrun,hr]
 refine⟨fun hs=>by simp[W,Fence.wide]at hs,?_⟩
 have h3:CallsIn (W ro) 0 P f vs w (fun e w'=>∃x g',e= .returned x∧SN g' w' n a.tmps s'∧RT g' w' (flyL 0) x d∧Ext s.k g w g' w'∧s'.k=s.k):=h2
 refine h3.mono ?_
 rintro e w' ⟨x,g',rfl,r1,r2,r3,r4⟩
 exact hn x w' g' r1 r2 r3 r4
theorem doCall_tup (hg:Good P call) {f:Nat} (hf:f<RL) {ds:List D} (he:doCall call f ds s=some (d,s')):ds.all (fun d=> !d.tupB)=true:=by
 obtain⟨o1,o2,l2,hcall,hun,rfl⟩:=doCall_some he
 exact((hg _ _ _ _ _ hcall).1 hf).1
theorem fly_args {xs:List Operand} {ys:List Opd} (hl:xs.length=ys.length) (hm:∀(i:Nat) x y,xs[i]? =some x->ys[i]? =some y->MOpd x y) (h:SN g w n a.tmps s) (ht:(rdL ys s).1.all (fun d=> !d.tupB)=true):
  ∃g',SN g' w n a.tmps (rdL ys s).2∧(xs.toArray.map a.eval).size=(rdL ys s).1.length∧(∀(i:Nat) d,(rdL ys s).1[i]? =some d->∃x,(xs.toArray.map a.eval)[i]? =some x∧RV g' w (flyL i 0) x d)∧Ext s.k g w g' w∧(rdL ys s).2.k=s.k∧g'.bx=g.bx:=by
 obtain⟨g',k1,k2,k3,k4,k5,_,_,_,_,k6⟩:=rdL_fly (w:=w) (n:=n) (a:=a) hl hm 0 h
 refine⟨g',k1,by simp[k2,hl],fun i d hi=>?_,k4,k5,k6⟩
 obtain⟨x,q1,q2⟩:=k3 i d hi
 have hd:d.tupB=false:=by
  have:=List.all_eq_true.1 ht d (List.mem_of_getElem? hi)
  simpa using this
 rw[Nat.zero_add,RT_ne hd]at q2
 exact⟨_,by simp[q1],q2⟩
theorem does_call {ro:Option Nat} (hg:Good P call) {f:Nat} (hf:f<RL) {args:Array Operand} {args':List Opd} {ts:Array TypeId} (ho:o.op= .call ⟨.value (.func f),args,ts⟩) (hm:MArgs args args') (h:SN g w n a.tmps s) (he:evOp call t (.call f args') s=some (d,s')):Does P ro o g w n a s d s':=by
 obtain⟨hl,hm⟩:=hm
 simp only[evOp]at he
 obtain⟨g1,k1,k2,k3,k4,k5,_⟩:=fly_args hl hm h (doCall_tup hg hf he)
 obtain⟨h1,h2⟩:=call_ok hg hf k1 he k2 k3
 rw[k5]at h2
 refine does_enter (fun c=>by rw[ho];exact fun e=>by cases e) ?_ h1 (h2.mono ?_)
 ·simp[execOp,ho,resolve,Act.eval,Deferred.ofValue,invoke]
 ·rintro e w' ⟨x,g',rfl,r1,r2,r3,r4⟩
  exact⟨x,g',rfl,r1,r2,k4.trans (r3.less (by omega)),r4⟩
theorem RP.toRV {L:Nat->Loc} {x:Value} {d:D} (h:RP g w x d):RV g w L x d:=by
 cases d with
 |v y=>exact h
 |ptr f s off=>exact h
 |fptr cs off=>exact h
 |_=>exact h.elim
theorem does_cv {ro:Option Nat} (hg:Good P call) {f:Operand} {f':Opd} {args:Array Operand} {args':List Opd} {ts:Array TypeId} (ho:o.op= .call ⟨.value f,args,ts⟩) (hf:MOpd f f') (hm:MArgs args args') (h:SN g w n a.tmps s) (he:evOp call t (.cv f' args') s=some (d,s')):Does P ro o g w n a s d s':=by
 rcases hm with @⟨xs,ys,hl,hm⟩
 simp only[evOp]at he
 split at he
 ·rename_i fn caps hfn
  obtain⟨L,hL⟩:=rd_at h hf
  rw[hfn]at hL
  obtain⟨q0,vs,q1,q2,q3⟩:=(show RC g w (L 0 0) (a.eval f) (.clo fn caps)from hL)
  have htup:=doCall_tup hg q0 he
  rw[List.all_append,Bool.and_eq_true]at htup
  obtain⟨g1,k1,k2,k3,k4,k5,k6⟩:=fly_args hl hm h htup.1
  have hvs:((xs.toArray.map a.eval)++vs).size=((rdL args' s).1++caps).length:=by simp at k2 ⊢;omega
  obtain⟨h1,h2⟩:=call_ok (vs:=(xs.toArray.map a.eval)++vs) hg q0 k1 he hvs (fun i d hi=>by
   rcases Nat.lt_or_ge i (rdL args' s).1.length with hlt|hge
   ·rw[List.getElem?_append_left hlt]at hi
    obtain⟨x,r1,r2⟩:=k3 i d hi
    exact⟨x,by rw[Array.getElem?_append_left (by rw[k2];exact hlt)];exact r1,r2⟩
   ·rw[List.getElem?_append_right hge]at hi
    obtain⟨y,r1,r2⟩:=q3 _ d hi
    refine⟨y,by rw[Array.getElem?_append_right (by rw[k2];exact hge),k2];exact r1,RP.toRV (r2.keep k4.cell k4.fr fun f s b hb=>by rw[k6];exact hb)⟩)
  rw[k5]at h2
  refine does_enter (fun c=>by rw[ho];exact fun e=>by cases e) ?_ h1 (h2.mono ?_)
  ·simp[execOp,ho,resolve,q1,Deferred.ofValue,invoke]
  ·rintro e w' ⟨x,g',rfl,r1,r2,r3,r4⟩
   exact⟨x,g',rfl,r1,r2,k4.trans (r3.less (by omega)),r4⟩
 ·rename_i f0 b hfn
  split at he
  ·rename_i st jm rid ks caps hrec
   obtain⟨L,hL⟩:=rd_at h hf
   rw[hfn]at hL
   obtain⟨hRL,l,hl1,hl2⟩:=(show RC g w (L 0 0) (a.eval f) (.yld f0 b)from hL)
   rw[if_pos ((h.st.sb.rel f0 b _ (bx_bxl hrec)).rm hRL).1]at hl2
   obtain⟨o1,o2,l2,hcall,hun,rfl⟩:=doCall_some he
   have hrid:RL<=rid:=by
    obtain⟨l',r',st',j',rid',ks',caps',e1,e2,e3,e4,_⟩:=(h.st.sb.rel f0 b _ (bx_bxl hrec)).r hRL
    injection e3 with e3 _
    injection e3 with _ _ e3 _
    subst e3
    exact e4
   obtain⟨htup,hround⟩:=(hg _ _ _ _ _ hcall).2 hrid _ _ _ rfl
   obtain⟨g1,k1,k2,k3,k4,k5,k6⟩:=fly_args hl hm h htup
   obtain⟨q,hq1,hq2,hq3⟩:=hround (g1.mv (rhoC (rdL args' s).2)) w l (xs.toArray.map a.eval) (k1.st.inv.mv _) (k1.st.sb.mv _ fun f b c=>rhoC_fix (by simp[boxL])) (by show g1.bx f0 b=_;rw[k6];exact hl1) hRL k2 (fun i d hi=>by
    obtain⟨x,h4,h5⟩:=k3 i d hi
    rw[oB_len]
    exact⟨x,h4,h5.keep fun c=>g1.mv_keep' w _ (rhoC_fly i c)⟩)
   intro next Q hn
   refine⟨fun _ _=>trivial,?_⟩
   have hrun:(execOp a.eval o).run P w= .ok (.round l q.fn (foldTmps q.params (xs.toArray.map a.eval) q.tmps) q.assign q.body) w:=by
    have hsz:(xs.toArray.map a.eval).size=q.params.size:=by rw[k2,hq2]
    refine Eq.trans ?_ (run_yield (P:=P) hq1 hsz)
    simp[execOp,ho,resolve,hl2,Deferred.ofValue,invoke]
   rw[Oper.semAt_eq _ _ _ (fun c=>by rw[ho];exact fun e=>by cases e),hrun]
   refine⟨fun hs=>by simp[W,Fence.wide]at hs,?_⟩
   have h3:RoundIn (W ro) 0 P l q.fn (foldTmps q.params (xs.toArray.map a.eval) q.tmps) q.assign q.body w (Post (g1.mv (rhoC (rdL args' s).2)) w ((rdL args' s).2.o++[(rdL args' s).2.l]) o1 d):=hq3
   refine h3.mono fun e w' hP=>?_
   obtain⟨x,g',rfl,r1,r2,r3,r4⟩:=post_ok k1 hun hP
   rw[k5]at r3 r4
   exact hn x w' g' r1 r2 (k4.trans (r3.less (by omega))) r4
  ·cases he
 ·cases he
end
end Go.Proofs.Ytfopbiiffiickaa.Ev
namespace Go.Proofs.Ytfopbiiffiickaa.Ev
open Go
variable {P:Program}
structure EL (R:Value->D->Prop) (z:Nat) (xs:List D) (vs:List Value):Prop where
 len:vs.length=xs.length*z
 el:∀(i:Nat) d,xs[i]? =some d->d.cells.length=z
 rel:∀(i:Nat) d (j:Nat) c,xs[i]? =some d->d.cells[j]? =some c->∃v,vs[i*z+j]? =some v∧R v c
theorem EL.nil (R:Value->D->Prop) (z:Nat):EL R z [] []:=⟨by simp,fun i d h=>by simp at h,fun i d j c h=>by simp at h⟩
theorem EL.append {R:Value->D->Prop} {z:Nat} {xs ys:List D} {vs us:List Value} (h:EL R z xs vs) (h':EL R z ys us):EL R z (xs++ys) (vs++us) where
 len:=by rw[List.length_append,List.length_append,h.len,h'.len,Nat.add_mul]
 el:=fun i d hi=>by
  rcases Nat.lt_or_ge i xs.length with hl|hl
  ·rw[List.getElem?_append_left hl]at hi;exact h.el i d hi
  ·rw[List.getElem?_append_right hl]at hi;exact h'.el _ d hi
 rel:=fun i d j c hi hj=>by
  rcases Nat.lt_or_ge i xs.length with hl|hl
  ·rw[List.getElem?_append_left hl]at hi
   obtain⟨v,h1,h2⟩:=h.rel i d j c hi hj
   exact⟨v,by rw[List.getElem?_append_left (getq_lt h1)];exact h1,h2⟩
  ·rw[List.getElem?_append_right hl]at hi
   obtain⟨v,h1,h2⟩:=h'.rel _ d j c hi hj
   have e:i*z+j=vs.length+((i-xs.length)*z+j):=by
    rw[h.len,<-Nat.add_assoc,<-Nat.add_mul];congr 2;omega
   exact⟨v,by rw[e,List.getElem?_append_right (by omega),Nat.add_sub_cancel_left];exact h1,h2⟩
theorem EL.mono {R R':Value->D->Prop} {z:Nat} {xs:List D} {vs:List Value} (h:EL R z xs vs) (hr:∀v c,R v c->R' v c):EL R' z xs vs:=
 ⟨h.len,h.el,fun i d j c hi hj=>by obtain⟨v,h1,h2⟩:=h.rel i d j c hi hj;exact⟨v,h1,hr v c h2⟩⟩
theorem EL.one {R:Value->D->Prop} {d:D} {vs:List Value} (hl:vs.length=d.cells.length) (h:∀(j:Nat) c,d.cells[j]? =some c->∃v,vs[j]? =some v∧R v c):EL R d.cells.length [d] vs where
 len:=by simp[hl]
 el:=fun i e hi=>by cases i with|zero=>simp at hi;rw[hi]|succ i=>simp at hi
 rel:=fun i e j c hi hj=>by
  cases i with
  |zero=>simp at hi;subst hi;simpa using h j c hj
  |succ i=>simp at hi
theorem rf_one {w:World} {fr:Nat->Nat} {v:Value} {d:D} (h:RF w fr v d):v.oneCell'=true:=by
 cases h with
 |v x h=>exact h
 |nl z=>rfl
 |ro=>rfl
 |z=>rfl
theorem row_of {w:World} {b off z:Nat} {xs:List D} {R:Value->D->Prop} {val:Nat->Nat->Value} (h4:∀(i:Nat) d,xs[i]? =some d->d.cells.length=z)
  (h5:∀(i:Nat) d (j:Nat) c,xs[i]? =some d->d.cells[j]? =some c->w.cell? ⟨b,off+i*z+j,none⟩=some (val i j)) (h6:∀(i:Nat) d (j:Nat) c,xs[i]? =some d->d.cells[j]? =some c->R (val i j) c):
  ∃vs,EL R z xs vs∧∀(k:Nat) v,vs[k]? =some v->w.cell? ⟨b,off+k,none⟩=some v:=by
 induction xs generalizing off val with
 |nil=>exact⟨[],EL.nil R z,fun k v h=>by simp at h⟩
 |cons x xs ih=>
  obtain⟨vs,h1,h2⟩:=ih (off:=off+z) (val:=fun i=>val (i+1)) (fun i d hi=>h4 (i+1) d (by simpa using hi)) (fun i d j c hi hj=>by
   have:=h5 (i+1) d j c (by simpa using hi) hj
   rw[<-this];congr 2;rw[Nat.add_mul];omega) (fun i d j c hi hj=>h6 (i+1) d j c (by simpa using hi) hj)
  have hx:=h4 0 x rfl
  have hl:((List.range z).map fun j=>val 0 j).length=x.cells.length:=by simp[hx]
  refine⟨((List.range z).map fun j=>val 0 j)++vs,?_,fun k v hk=>?_⟩
  ·have h0:EL R z [x] ((List.range z).map fun j=>val 0 j):=by
    have:=EL.one (R:=R) hl fun j c hj=>⟨val 0 j,by have:=getq_lt hj;rw[hx]at this;simp[this],h6 0 x j c rfl hj⟩
    rwa[hx]at this
   exact h0.append h1
  ·rcases Nat.lt_or_ge k z with hlt|hge
   ·rw[List.getElem?_append_left (by simpa using hlt)]at hk
    simp[hlt]at hk
    subst hk
    have:=h5 0 x k _ rfl (List.getElem?_eq_getElem (by rw[hx];exact hlt))
    simpa using this
   ·rw[List.getElem?_append_right (by simpa using hge)]at hk
    have:=h2 _ _ hk
    simp only[List.length_map,List.length_range]at this
    rw[<-this];congr 2;omega
theorem of_row {w:World} {b off z:Nat} {xs:List D} {R:Value->D->Prop} {vs:List Value} (h:EL R z xs vs) (hc:∀(k:Nat) v,vs[k]? =some v->w.cell? ⟨b,off+k,none⟩=some v):
  ∃val:Nat->Nat->Value,(∀(i:Nat) d (j:Nat) c,xs[i]? =some d->d.cells[j]? =some c->w.cell? ⟨b,off+i*z+j,none⟩=some (val i j))∧(∀(i:Nat) d (j:Nat) c,xs[i]? =some d->d.cells[j]? =some c->R (val i j) c):=by
 refine⟨fun i j=>vs.getD (i*z+j) undef,fun i d j c hi hj=>?_,fun i d j c hi hj=>?_⟩
 ·obtain⟨v,h1,h2⟩:=h.rel i d j c hi hj
  have:=hc _ _ h1
  rw[show off+i*z+j=off+(i*z+j) by omega,this]
  simp[List.getD,h1]
 ·obtain⟨v,h1,h2⟩:=h.rel i d j c hi hj
  have:vs.getD (i*z+j) undef=v:=by simp[List.getD,h1]
  simp only[this];exact h2
theorem EL.ones {w:World} {fr:Nat->Nat} {z:Nat} {xs:List D} {vs:List Value} (h:EL (RF w fr) z xs vs):∀v∈vs,v.oneCell'=true:=by
 intro v hv
 obtain⟨k,hk⟩:=List.mem_iff_getElem?.1 hv
 have hl:=getq_lt hk
 rw[h.len]at hl
 have hz:0<z:=by
  rcases Nat.eq_zero_or_pos z with h0|h0;· rw[h0]at hl;simp at hl
  ·exact h0
 have hi:k/z<xs.length:=Nat.div_lt_of_lt_mul (by rw[Nat.mul_comm];exact hl)
 have he:=h.el (k/z) _ (List.getElem?_eq_getElem hi)
 obtain⟨v',h1,h2⟩:=h.rel (k/z) _ (k%z) _ (List.getElem?_eq_getElem hi) (List.getElem?_eq_getElem (by rw[he];exact Nat.mod_lt _ hz))
 rw[Nat.div_add_mod' k z,hk]at h1
 injection h1 with h1
 rw[h1];exact rf_one h2
structure More (w W:World) (ob:Obj):Prop where
 heap:W.heap=w.heap.push ob
 os:W.os=w.os
 tape:W.tape=w.tape
 output:W.output=w.output
theorem More.old {w W:World} {ob:Obj} (h:More w W ob) {b:Nat} (hb:b<w.heap.size):W.heap[b]? =w.heap[b]? :=by rw[h.heap];simp[Array.getElem?_push,Nat.ne_of_lt hb]
theorem More.new {w W:World} {ob:Obj} (h:More w W ob):W.heap[w.heap.size]? =some ob:=by rw[h.heap];simp
theorem More.size {w W:World} {ob:Obj} (h:More w W ob):W.heap.size=w.heap.size+1:=by rw[h.heap];simp
def G.own (g:G) (b ext:Nat) (ℓ:Loc):G:={g with fr:=fun b'=>if b'=b then ext else g.fr b',tk:=fun b'=>if b'=b then some ℓ else g.tk b'}
section
variable {g:G} {w W:World} {n:Nat} {tmps:Array Value} {s:S}
theorem newlist_ok {cur:Array Value} {et:TypeId} (h:SN g w n tmps s) (hm:More w W (.cells cur et)) {z:Nat} {xs:List D} {vs:List Value} {cap:Nat} (hel:EL (RF w g.fr) z xs vs) (hcur:∀(k:Nat) v,vs[k]? =some v->cur[k]? =some v)
  (hcap:xs.length<=cap) (hmax:cap<=maxLen) (hsz:cap*z<=cur.size) (m:Mode) (hmode:m= .app∨m= .mu):
  ∃g',SN g' W n tmps s∧RT g' W (flyL 0) (.slice (some ⟨w.heap.size,0,none⟩) xs.length cap) (.sl m z xs)∧Ext s.k g w g' W:=by
 have hi:=h.st.inv
 let ext:=match m with| .app=>0+xs.length*z|_=>0
 have hle:ext<=xs.length*z:=by rcases hmode with rfl|rfl<;>simp[ext]
 have hfresh:=hi.fresh w.heap.size (Nat.le_refl _)
 have hle':xs.length*z<=cur.size:=Nat.le_trans (Nat.mul_le_mul_right z hcap) hsz
 have ne:∀b,b<w.heap.size->b≠w.heap.size:=fun b hb=>Nat.ne_of_lt hb
 have hcell:∀b o,o<g.fr b->W.cell? ⟨b,o,none⟩=w.cell? ⟨b,o,none⟩:=fun b o ho=>cell_of_block (hm.old (hi.frlt ho))
 have hfr:∀b,g.fr b<=(g.own w.heap.size ext (flyL 0 0 0)).fr b:=fun b=>by
  show _<=(if _ then _ else _)
  split
  ·rename_i e;rw[e,hfresh.1];omega
  ·exact Nat.le_refl _
 have hK:∀ℓ,Keep g w ℓ (g.own w.heap.size ext (flyL 0 0 0)) W ℓ:=fun ℓ=>⟨hcell,hfr,fun _ _ _ h=>h,fun b hb=>by
  have hb':=hi.lt hb
  refine⟨?_,?_,hm.old hb'⟩
  ·show(if _ then _ else _)=_;rw[if_neg (ne b hb')];exact hb
  ·show(if _ then _ else _)=_;rw[if_neg (ne b hb')],Gr.old fun b hb=>hm.old hb⟩
 have hnew:∀k:Nat,W.cell? ⟨w.heap.size,k,none⟩=cur[k]? :=fun k=>by simp[World.cell?,hm.new]
 refine⟨g.own w.heap.size ext (flyL 0 0 0),⟨⟨⟨?_,?_,?_,hi.inj,?_,?_,fun b hb=>⟨(hi.dm b hb).1,(hm.old (getq_lt' (hi.dm b hb).2)).trans (hi.dm b hb).2⟩,fun b hb=>by show(if _ then _ else _)=_;rw[if_neg (ne b (getq_lt' (hi.dm b hb).2))];exact hi.dt b hb⟩,⟨fun f b ds hds=>?_,h.st.sb.dom,h.st.sb.bnd⟩,fun t=>?_⟩,h.size⟩,?_,?_⟩
 ·exact Nat.le_trans hi.base (by rw[hm.size];omega)
 ·intro b hb
  rw[hm.size]at hb
  have hb':b≠w.heap.size:=by omega
  have:=hi.fresh b (by omega)
  exact⟨by show(if _ then _ else _)=_;rw[if_neg hb'];exact this.1,by show(if _ then _ else _)=_;rw[if_neg hb'];exact this.2⟩
 ·intro f b' b hb
  obtain⟨a1,a2,a3,a4⟩:=hi.box f b' b hb
  exact⟨a1,by rw[hm.size];omega,by show(if _ then _ else _)=_;rw[if_neg (ne b a2)];exact a3,by show(if _ then _ else _)=_;rw[if_neg (ne b a2)];exact a4⟩
 ·intro b ℓ hb
  have hb':(if b=w.heap.size then some (flyL 0 0 0)else g.tk b)=some ℓ:=hb
  split at hb'
  ·rename_i e;rw[e];exact hi.base
  ·exact hi.tk b ℓ hb'
 ·intro b o ho
  have ho':o<(if b=w.heap.size then ext else g.fr b):=ho
  split at ho'
  ·rename_i e
   rw[e,hnew]
   have:o<cur.size:=by omega
   simp[this]
  ·rw[hcell b o ho'];exact hi.cells b o ho'
 ·exact(h.st.sb.rel f b ds hds).keep (fun c=>hK _) fun b' hb'=>hm.old (hi.box _ _ _ hb').2.1
 ·exact(h.st.e t).keep fun i c=>hK _
 ·obtain⟨val,h5,h6⟩:=of_row (w:=W) (b:=w.heap.size) (off:=0) (hel.mono fun v c hv=>hv.mono hcell hfr) fun k v hk=>by rw[Nat.zero_add,hnew];exact hcur k v hk
  have own:Own (g.own w.heap.size ext (flyL 0 0 0)) W (flyL 0 0 0) (.slice (some ⟨w.heap.size,0,none⟩) xs.length cap) m z xs:=
   ⟨w.heap.size,0,cap,cur,et,val,rfl,hm.new,hcap,hmax,by omega,if_pos rfl,if_pos rfl,(fun _=>rfl),hel.el,h5,h6⟩
  rcases hmode with rfl|rfl<;>exact own
 ·exact⟨rfl,hm.os,hm.tape,hm.output,by rw[hm.size];omega,fun b hb=>hm.old (Nat.lt_of_lt_of_le hb hi.base),hfr,hcell,fun _ _ _ _ h=>h,fun b ℓ hb _ _=>(hK ℓ).tk b hb,fun _ h=>h,(hK (flyL 0 0 0)).sz⟩
end
end Go.Proofs.Ytfopbiiffiickaa.Ev
namespace Go.Proofs.Ytfopbiiffiickaa.Ev
open Go
variable {P:Program}
section
variable {g:G} {w W:World} {n:Nat} {tmps:Array Value} {s:S}
theorem RF.row {w:World} {fr:Nat->Nat} {x:Value} {m:Mode} {z:Nat} {xs:List D} (h:RF w fr x (.sl m z xs)):
  ∃base cap vs,x= .slice base xs.length cap∧EL (RF w fr) z xs vs∧(base=none->xs=[])∧∀a,base=some a->True∧∀(k:Nat) v,vs[k]? =some v->w.cell? (a.add k)=some v:=by
 cases h with
 |nl z=>exact⟨none,0,[],rfl,EL.nil _ _,(fun _=>rfl),(fun a h=>by cases h)⟩
 |z a z=>exact⟨some a,0,[],rfl,EL.nil _ _,(fun h=>by cases h),fun a h=>⟨trivial,fun k v hk=>by simp at hk⟩⟩
 |ro b off cap z xs val h1 h2 h3 h4 h5 h6=>
  obtain⟨vs,q1,q2⟩:=row_of h4 h5 h6
  refine⟨_,cap,vs,rfl,q1,(fun h=>by cases h),fun a ha=>?_⟩
  injection ha with ha
  subst ha
  exact⟨trivial,fun k v hk=>by rw[add_lit];exact q2 k v hk⟩
theorem RF.src {ty e:TypeId} (hu:P.underlying ty=some (.slice e)) {w:World} {fr:Nat->Nat} {x:Value} {m:Mode} {z:Nat} {ys:List D} (h:RF w fr x (.sl m z ys)):
  ∃us,EL (RF w fr) z ys us∧Src P z ty x ys.length us w:=by
 obtain⟨base,cap,vs,rfl,h2,h3,h4⟩:=h.row
 cases base with
 |none=>
  obtain rfl:=h3 rfl
  have:vs=[]:=List.eq_nil_of_length_eq_zero (by rw[h2.len];simp)
  subst this
  exact⟨[],EL.nil _ _,Src.ofNil w hu cap⟩
 |some a=>exact⟨vs,h2,Src.ofSlice w hu a _ cap vs h2.len (h4 a rfl).2 h2.ones⟩
theorem grow_ok (m:Mode) (hmode:m= .app∨m= .mu) {b off cap:Nat} {cur nc:Array Value} {et:TypeId} {z:Nat} {xs ys:List D} {vs us:List Value} (h:SN g w n tmps s) (hb:w.heap[b]? =some (.cells cur et (0,0))) (htk:g.tk b=some (flyL 1 0 0)) (hmu:m= .mu->off=0) (hfrb0:g.fr b=(match(generalizing:=false) m with| .app=>off+xs.length*z|_=>0))
  (hel:EL (RF w g.fr) z xs vs) (hel':EL (RF w g.fr) z ys us) (hcur:∀(k:Nat) v,vs[k]? =some v->cur[off+k]? =some v) (hcap:xs.length+ys.length<=cap) (hmax:cap<=maxLen) (hsz:off+cap*z<=cur.size)
  (hnc:nc.size=cur.size) (hold:∀k,k<off+xs.length*z->nc[k]? =cur[k]?) (hnew:∀(k:Nat) v,us[k]? =some v->nc[off+xs.length*z+k]? =some v):
  ∃g',SN g' (w.setRow b nc) n tmps s∧RT g' (w.setRow b nc) (flyL 0) (.slice (some ⟨b,off,none⟩) (xs++ys).length cap) (.sl m z (xs++ys))∧Ext s.k g w g' (w.setRow b nc):=by
 have hi:=h.st.inv
 have hfrb:g.fr b<=off+xs.length*z:=by rcases hmode with rfl|rfl<;>simp only at hfrb0<;>omega
 have hblt:=hi.lt htk
 have hbase:=hi.tk b _ htk
 have hlen:(xs++ys).length=xs.length+ys.length:=List.length_append
 let ext:=match(generalizing:=false) m with| .app=>off+(xs++ys).length*z|_=>0
 have hext:g.fr b<=ext:=by rcases hmode with rfl|rfl<;>simp only[ext,hlen,Nat.add_mul]at hfrb0 ⊢ <;>omega
 have hfit:ext<=cur.size:=by
  have:(xs++ys).length*z<=cap*z:=Nat.mul_le_mul_right z (by omega)
  rcases hmode with rfl|rfl<;>simp only[ext]<;>omega
 have hself:(w.setRow b nc).heap[b]? =some (.cells nc et (0,0)):=setRow_heap w b cur nc et _ hb
 have hother:∀b',b'≠b->(w.setRow b nc).heap[b']? =w.heap[b']? :=fun b' hb'=>setRow_other w b b' nc hb'
 have hcell:∀b' o,o<g.fr b'->(w.setRow b nc).cell? ⟨b',o,none⟩=w.cell? ⟨b',o,none⟩:=fun b' o ho=>by
  by_cases e:b'=b
  ·subst e
   simp[World.cell?,hself,hb,hold o (Nat.lt_of_lt_of_le ho hfrb)]
  ·exact cell_of_block (hother b' e)
 have hfr:∀b',g.fr b'<=(g.own b ext (flyL 0 0 0)).fr b':=fun b'=>by
  show _<=(if _ then _ else _)
  split
  ·rename_i e;rw[e];exact hext
  ·exact Nat.le_refl _
 have hK:∀ℓ,ℓ≠flyL 1 0 0->Keep g w ℓ (g.own b ext (flyL 0 0 0)) (w.setRow b nc) ℓ:=fun ℓ hℓ=>⟨hcell,hfr,fun _ _ _ h=>h,fun b' hb'=>by
  have e:b'≠b:=fun e=>by rw[e,htk]at hb';injection hb' with hb';exact hℓ hb'.symm
  exact⟨by show(if _ then _ else _)=_;rw[if_neg e];exact hb',by show(if _ then _ else _)=_;rw[if_neg e],hother b' e⟩,gr_setRow hb (by omega)⟩
 have hsize:(w.setRow b nc).heap.size=w.heap.size:=by simp[World.setRow]
 have nbox:∀f b' b1,g.bx f b'=some b1->b1≠b:=fun f b' b1 h1 e=>by have:=(hi.box _ _ _ h1).2.2.2;rw[e,htk]at this;cases this
 refine⟨g.own b ext (flyL 0 0 0),⟨⟨⟨?_,?_,?_,hi.inj,?_,?_,fun b' hd=>⟨(hi.dm b' hd).1,(hother b' fun e=>by have hd':g.dm b'=true:=hd;have:=hi.mkc hb;rw[<-e,hd']at this;cases this).trans (hi.dm b' hd).2⟩,fun b' hd=>by
  have hd':g.dm b'=true:=hd
  have e:b'≠b:=fun e=>by have:=hi.mkc hb;rw[<-e,hd']at this;cases this
  show(if _ then _ else _)=_;rw[if_neg e];exact hi.dt b' hd'⟩,⟨fun f b' ds hds=>?_,h.st.sb.dom,h.st.sb.bnd⟩,fun t=>?_⟩,h.size⟩,?_,?_⟩
 ·rw[hsize];exact hi.base
 ·intro b' hb'
  rw[hsize]at hb'
  have e:b'≠b:=by omega
  have:=hi.fresh b' hb'
  exact⟨by show(if _ then _ else _)=_;rw[if_neg e];exact this.1,by show(if _ then _ else _)=_;rw[if_neg e];exact this.2⟩
 ·intro f b' b1 h1
  obtain⟨a1,a2,a3,a4⟩:=hi.box f b' b1 h1
  have e:=nbox _ _ _ h1
  exact⟨a1,by rw[hsize];exact a2,by show(if _ then _ else _)=_;rw[if_neg e];exact a3,by show(if _ then _ else _)=_;rw[if_neg e];exact a4⟩
 ·intro b' ℓ hb'
  have hb'':(if b'=b then some (flyL 0 0 0)else g.tk b')=some ℓ:=hb'
  split at hb''
  ·rename_i e;rw[e];exact hbase
  ·exact hi.tk b' ℓ hb''
 ·intro b' o ho
  have ho':o<(if b'=b then ext else g.fr b'):=ho
  split at ho'
  ·rename_i e
   subst e
   have:o<nc.size:=by omega
   simp[World.cell?,hself,this]
  ·rename_i e
   rw[cell_of_block (hother b' e)];exact hi.cells b' o ho'
 ·exact(h.st.sb.rel f b' ds hds).keep (fun c=>hK _ box_fly) fun b1 h1=>hother b1 (nbox _ _ _ h1)
 ·exact(h.st.e t).keep fun i c=>hK _ slot_fly
 ·have hall:EL (RF (w.setRow b nc) (g.own b ext (flyL 0 0 0)).fr) z (xs++ys) (vs++us):=(hel.append hel').mono fun v c hv=>hv.mono hcell hfr
  obtain⟨val,h5,h6⟩:=of_row (w:=w.setRow b nc) (b:=b) (off:=off) hall fun k v hk=>by
   have:(w.setRow b nc).cell? ⟨b,off+k,none⟩=nc[off+k]? :=by simp[World.cell?,hself]
   rw[this]
   rcases Nat.lt_or_ge k vs.length with hl|hl
   ·rw[List.getElem?_append_left hl]at hk
    rw[hold _ (by rw[hel.len]at hl;omega)]
    exact hcur k v hk
   ·rw[List.getElem?_append_right hl]at hk
    have:=hnew _ v hk
    rw[hel.len]at this hl
    rw[<-this];congr 1;omega
  have own:Own (g.own b ext (flyL 0 0 0)) (w.setRow b nc) (flyL 0 0 0) (.slice (some ⟨b,off,none⟩) (xs++ys).length cap) m z (xs++ys):=⟨b,off,cap,nc,et,val,rfl,hself,by omega,hmax,by omega,if_pos rfl,if_pos rfl,hmu,hall.el,h5,h6⟩
  rcases hmode with rfl|rfl<;>exact own
 ·exact⟨rfl,rfl,rfl,rfl,by rw[hsize];exact Nat.le_refl _,fun b' hb'=>hother b' (by omega),hfr,hcell,fun _ _ _ _ h=>h,fun b' ℓ hb' h0 hk=>(hK ℓ (fun e=>by rw[e]at h0;cases h0)).tk b' hb',fun _ h=>h,gr_setRow hb (by omega)⟩
theorem run_room (t tx ty e:TypeId) (i:TypeInfo) (ht:P.underlying t=some (.slice e)) (hi:P.info? e=some i) (b off sLen sCap:Nat) (cur:Array Value) (et:TypeId) (hg:w.heap[b]? =some (.cells cur et (0,0)))
  (x:Value) (m:Nat) (news:List Value) (hs:Src P i.size tx x m news w) (hroom:sLen+m<=sCap) (hfit:off+sLen*i.size+news.length<=cur.size):
  (Builtin.append_ #[t,tx] ty #[.slice (some ⟨b,off,none⟩) sLen sCap,x]).run P w=
   .ok (.slice (some ⟨b,off,none⟩) (sLen+m) sCap) (w.setRow b (cur.toList.take (off+sLen*i.size)++news++cur.toList.drop (off+sLen*i.size+news.length)).toArray):=by
 have hst:=run_storeCells_at P b (off+sLen*i.size) et news 0 cur w hg (by simpa using hfit) hs.one
 simp only[Nat.add_zero]at hst
 rcases hs.kind with⟨e',hk⟩|hk<;>simp[Builtin.append_,run_underlying ht,run_underlying hk,sizeOf,typeInfo,hi,hs.len,hroom,hs.cells,add_lit,hst]
theorem append_ok (wm:Bool) (t tx ty e:TypeId) (i:TypeInfo) (zv:Value) {z bytes:Nat} (ht:P.underlying t=some (.slice e)) (hi:P.info? e=some i) (hz:i.zero=some zv) (hsize:i.size=z) (hby:i.bytes=bytes) (hzs:zv.cells.size=z) (h0:0<z)
  (h:SN g w n tmps s) {x y:Value} {m:Mode} {xs ys:List D} {us:List Value} (hx:RC g w (flyL 1 0 0) x (.sl m z xs)) (hm:m= .app∨m= .mu∨(m= .nl∧xs=[])) (hel':EL (RF w g.fr) z ys us) (hs:Src P z tx y ys.length us w)
  (hlen:xs.length+ys.length<=maxLen) (hbytes:(xs.length+ys.length)*bytes<=140737488355328):
  ∃v W g',(Builtin.append_ #[t,tx] ty #[x,y]).run P w= .ok v W∧SN g' W n tmps s∧RT g' W (flyL 0) v (.sl (if m= .nl then(if ys=[]then .nl else if wm=true then .mu else .app)else m) z (xs++ys))∧Ext s.k g w g' W:=by
 subst hsize
 subst hby
 have h63:((xs.length+ys.length:Nat):Int)<=9223372036854775807:=by simp only[maxLen]at hlen;omega
 -- a new row
 have fresh:∀(m:Mode) (hmode:m= .app∨m= .mu) (base:Option Addr) (sCap:Nat) (vs:List Value),(Builtin.firstCells i.size xs.length (.slice base xs.length sCap)).run P w.drew= .ok vs.toArray w.drew->EL (RF w g.fr) i.size xs vs->sCap<xs.length+ys.length->
   ∃v W g',(Builtin.append_ #[t,tx] ty #[.slice base xs.length sCap,y]).run P w= .ok v W∧SN g' W n tmps s∧RT g' W (flyL 0) v (.sl m i.size (xs++ys))∧Ext s.k g w g' W:=by
  intro m hmode base sCap vs hold hel hg
  have hr:=run_append_grow_src (P:=P) w t tx ty e i zv ht hi hz base xs.length sCap vs hold y ys.length us hs hg h63 (growslice_fits (by omega) hbytes)
  have hge:=grownCap_ge w (xs.length+ys.length) sCap e
  have hcm:=grownCap_le_maxLen w (xs.length+ys.length) sCap e hlen
  have hM:More w (w.drew.alloc (.cells ((vs++us).toArray++Builtin.zeroCells zv.cells (grownCap w (xs.length+ys.length) sCap e-(xs.length+ys.length))) e)) (.cells ((vs++us).toArray++Builtin.zeroCells zv.cells (grownCap w (xs.length+ys.length) sCap e-(xs.length+ys.length))) e):=⟨rfl,rfl,rfl,rfl⟩
  have hvl:(vs++us).length=(xs.length+ys.length)*i.size:=by rw[List.length_append,hel.len,hel'.len,Nat.add_mul]
  obtain⟨g',k1,k2,k3⟩:=newlist_ok h hM (hel.append hel') (cap:=grownCap w (xs.length+ys.length) sCap e) (fun k v hk=>by
   rw[Array.getElem?_append_left (by simpa using getq_lt hk)]
   simpa using hk) (by rw[List.length_append];exact hge) hcm (by
    simp only[Array.size_append,List.size_toArray,size_zeroCells,hzs,hvl,<-Nat.add_mul]
    exact Nat.mul_le_mul_right _ (by omega)) m hmode
  rw[List.length_append]at k2
  exact⟨_,_,g',hr,k1,k2,k3⟩
 have owned:∀m,(m= .app∨m= .mu)->Own g w (flyL 1 0 0) x m i.size xs->∃v W g',(Builtin.append_ #[t,tx] ty #[x,y]).run P w= .ok v W∧SN g' W n tmps s∧RT g' W (flyL 0) v (.sl m i.size (xs++ys))∧Ext s.k g w g' W:=by
  intro m hmode hx
  obtain⟨b,off,cap,cur,et,val,rfl,q2,q3,q4,q5,q6,q7,q7',q8,q9,q10⟩:=hx
  obtain⟨vs,hel,hcells⟩:=row_of q8 q9 q10
  have hcur:∀(k:Nat) v,vs[k]? =some v->cur[off+k]? =some v:=fun k v hk=>by
   have:=hcells k v hk
   simpa[World.cell?,q2]using this
  by_cases hroom:xs.length+ys.length<=cap
  ·have hfit:off+xs.length*i.size+us.length<=cur.size:=by
    have:(xs.length+ys.length)*i.size<=cap*i.size:=Nat.mul_le_mul_right _ hroom
    rw[Nat.add_mul]at this
    rw[hel'.len];omega
   have hr:=run_room (P:=P) t tx ty e i ht hi b off xs.length cap cur et q2 y ys.length us hs hroom hfit
   have hget:=fun c:Nat=>overV_get (ds:=cur) (cs:=us) (off:=off+xs.length*i.size) (c:=c) hfit
   have hsz:(cur.toList.take (off+xs.length*i.size)++us++cur.toList.drop (off+xs.length*i.size+us.length)).toArray.size=cur.size:=by simp;omega
   generalize(cur.toList.take (off+xs.length*i.size)++us++cur.toList.drop (off+xs.length*i.size+us.length)).toArray=nc at hr hget hsz
   obtain⟨g',k1,k2,k3⟩:=grow_ok m hmode h q2 q6 q7' q7 hel hel' hcur hroom q4 q5 hsz (fun k hk=>by rw[hget,if_pos hk]) (fun k v hk=>by
    have:=getq_lt hk
    rw[hget,if_neg (by omega),if_pos (by omega),Nat.add_sub_cancel_left];exact hk)
   rw[List.length_append]at k2
   exact⟨_,_,g',hr,k1,k2,k3⟩
  ·refine fresh m hmode _ cap vs ?_ hel (by omega)
   exact run_firstCells_some w.drew i.size xs.length ⟨b,off,none⟩ xs.length cap vs hel.len (fun j v hj=>by
    rw[add_lit]
    have:=hcells j v hj
    simpa using this)
 rcases hm with rfl|rfl|⟨rfl,rfl⟩
 ·exact owned .app (.inl rfl) hx
 ·exact owned .mu (.inr rfl) hx
 ·cases(show RF w g.fr x (.sl .nl i.size [])from hx)with
  |nl=>
   by_cases hy:ys=[]
   ·subst hy
    have hus:us=[]:=List.eq_nil_of_length_eq_zero (by rw[hel'.len];simp)
    subst hus
    have hr:=run_append_nothing (P:=P) w t tx ty e i ht hi none 0 0 (Nat.le_refl _) y hs
    refine⟨_,w,g,hr,h,?_,Ext.refl _ _ _⟩
    simp only[if_true,List.append_nil]
    exact(show RF w g.fr _ (.sl .nl i.size [])from .nl _)
   ·simp only[hy,if_false,if_true]
    have hpos:0<ys.length:=List.length_pos_iff.2 hy
    exact fresh (if wm=true then .mu else .app) (by cases wm<;>first|exact .inl rfl|exact .inr rfl) none 0 [] (run_firstCells_none w.drew i.size 0 0 0) (EL.nil _ _) (by simpa using hpos)
end
end Go.Proofs.Ytfopbiiffiickaa.Ev
namespace Go.Proofs.Ytfopbiiffiickaa.Ev
open Go
section
variable {P:Program} {g:G} {w W:World}
theorem setCells_row {b:Nat} {et:TypeId} {q:Nat×Nat}:∀(vs:List Value) (o:Nat) (w:World) (cur:Array Value),w.heap[b]? =some (.cells cur et q)->o+vs.length<=cur.size->
  ∃nc,(w.setCells b o vs).heap[b]? =some (.cells nc et q)∧nc.size=cur.size∧(∀b',b'≠b->(w.setCells b o vs).heap[b']? =w.heap[b']?)∧(w.setCells b o vs).heap.size=w.heap.size∧(w.setCells b o vs).os=w.os∧(w.setCells b o vs).tape=w.tape∧(w.setCells b o vs).output=w.output∧
   (∀k,k<o->nc[k]? =cur[k]?)∧(∀(k:Nat) v,vs[k]? =some v->nc[o+k]? =some v)
 |[],o,w,cur,hb,hl=>⟨cur,hb,rfl,fun _ _=>rfl,rfl,rfl,rfl,rfl,fun _ _=>rfl,fun k v h=>by simp at h⟩
 |v::r,o,w,cur,hb,hl=>by
  have hlt:b<w.heap.size:=(Array.getElem?_eq_some_iff.1 hb).1
  have h1:(w.setCell ⟨b,o,none⟩ v).heap[b]? =some (.cells (cur.setIfInBounds o v) et q):=by
   unfold World.setCell
   simp only[Array.getElem?_modify,if_true,hb,Option.map_some,Option.isSome_none,Bool.false_eq_true,if_false]
  have h2:∀b',b'≠b->(w.setCell ⟨b,o,none⟩ v).heap[b']? =w.heap[b']? :=fun b' hb'=>by
   unfold World.setCell
   simp only[Array.getElem?_modify,if_neg (fun e=>hb' (Eq.symm e))]
  simp only[List.length_cons]at hl
  obtain⟨nc,k1,k2,k3,k4,k5,k6,k7,k8,k9⟩:=setCells_row r (o+1) (w.setCell ⟨b,o,none⟩ v) _ h1 (by simp;omega)
  refine⟨nc,k1,by simpa using k2,fun b' hb'=>(k3 b' hb').trans (h2 b' hb'),k4.trans (by simp[World.setCell]),k5,k6,k7,fun k hk=>?_,fun k u hu=>?_⟩
  ·rw[k8 k (by omega),Array.getElem?_setIfInBounds_ne (by omega)]
  ·cases k with
   |zero=>
    simp at hu
    subst hu
    rw[Nat.add_zero,k8 o (by omega),Array.getElem?_setIfInBounds_self_of_lt (by omega)]
   |succ k=>
    have:=k9 k u (by simpa using hu)
    rw[<-this];congr 1;omega
theorem rewr_ok {B:List Bx} (hi:Inv g w) (hsb:SB g w B) {b cap:Nat} {cur nc:Array Value} {et:TypeId} {z:Nat} {ys:List D} {us:List Value} (hb:w.heap[b]? =some (.cells cur et (0,0))) (htk:g.tk b=some (slotL B.length 0 0 0)) (hfr0:g.fr b=0)
  (hself:W.heap[b]? =some (.cells nc et (0,0))) (hother:∀b',b'≠b->W.heap[b']? =w.heap[b']?) (hsize:W.heap.size=w.heap.size) (hos:W.os=w.os) (hta:W.tape=w.tape) (hou:W.output=w.output) (hnc:nc.size=cur.size)
  (hel:EL (RF w g.fr) z ys us) (hcur:∀(k:Nat) v,us[k]? =some v->nc[k]? =some v) (hcap:ys.length<=cap) (hmax:cap<=maxLen) (hsz:cap*z<=cur.size):
  ∃g',Inv g' W∧SB g' W B∧Ext B.length g w g' W∧RT g' W retL (.slice (some ⟨b,0,none⟩) ys.length cap) (.sl .mu z ys):=by
 have hblt:=hi.lt htk
 have hbase:=hi.tk b _ htk
 have hcell:∀b' o,o<g.fr b'->W.cell? ⟨b',o,none⟩=w.cell? ⟨b',o,none⟩:=fun b' o ho=>by
  by_cases e:b'=b
  ·subst e;omega
  ·exact cell_of_block (hother b' e)
 have hfr:∀b',g.fr b'<=(g.own b 0 (retL 0 0)).fr b':=fun b'=>by
  show _<=(if _ then _ else _)
  split
  ·rename_i e;rw[e];omega
  ·exact Nat.le_refl _
 have hgr:Gr w W:=fun b' o hc=>by
  by_cases e:b'=b
  ·subst e
   simp only[World.cell?,hb]at hc
   have h1:o<cur.size:=by simpa using hc
   have h2:o<nc.size:=by omega
   simp[World.cell?,hself,h2]
  ·rw[cell_of_block (hother b' e)];exact hc
 have hK:∀ℓ,ℓ≠slotL B.length 0 0 0->Keep g w ℓ (g.own b 0 (retL 0 0)) W ℓ:=fun ℓ hℓ=>⟨hcell,hfr,fun _ _ _ h=>h,fun b' hb'=>by
  have e:b'≠b:=fun e=>by rw[e,htk]at hb';injection hb' with hb';exact hℓ hb'.symm
  exact⟨by show(if _ then _ else _)=_;rw[if_neg e];exact hb',by show(if _ then _ else _)=_;rw[if_neg e],hother b' e⟩,hgr⟩
 have nbox:∀f b' b1,g.bx f b'=some b1->b1≠b:=fun f b' b1 h1 e=>by have:=(hi.box _ _ _ h1).2.2.2;rw[e,htk]at this;cases this
 refine⟨g.own b 0 (retL 0 0),⟨?_,?_,?_,hi.inj,?_,?_,fun b' hd=>⟨(hi.dm b' hd).1,(hother b' fun e=>by have hd':g.dm b'=true:=hd;have:=hi.mkc hb;rw[<-e,hd']at this;cases this).trans (hi.dm b' hd).2⟩,fun b' hd=>by
  have hd':g.dm b'=true:=hd
  have e:b'≠b:=fun e=>by have:=hi.mkc hb;rw[<-e,hd']at this;cases this
  show(if _ then _ else _)=_;rw[if_neg e];exact hi.dt b' hd'⟩,⟨fun f b' ds hds=>?_,hsb.dom,hsb.bnd⟩,?_,?_⟩
 ·rw[hsize];exact hi.base
 ·intro b' hb'
  rw[hsize]at hb'
  have e:b'≠b:=by omega
  have:=hi.fresh b' hb'
  exact⟨by show(if _ then _ else _)=_;rw[if_neg e];exact this.1,by show(if _ then _ else _)=_;rw[if_neg e];exact this.2⟩
 ·intro f b' b1 h1
  obtain⟨a1,a2,a3,a4⟩:=hi.box f b' b1 h1
  have e:=nbox _ _ _ h1
  exact⟨a1,by rw[hsize];exact a2,by show(if _ then _ else _)=_;rw[if_neg e];exact a3,by show(if _ then _ else _)=_;rw[if_neg e];exact a4⟩
 ·intro b' ℓ hb'
  have hb'':(if b'=b then some (retL 0 0)else g.tk b')=some ℓ:=hb'
  split at hb''
  ·rename_i e;rw[e];exact hbase
  ·exact hi.tk b' ℓ hb''
 ·intro b' o ho
  have ho':o<(if b'=b then 0 else g.fr b'):=ho
  split at ho'
  ·omega
  ·rename_i e
   rw[cell_of_block (hother b' e)];exact hi.cells b' o ho'
 ·exact(hsb.rel f b' ds hds).keep (fun c=>hK _ (by simp[boxL,slotL])) fun b1 h1=>hother b1 (nbox _ _ _ h1)
 ·exact⟨rfl,hos,hta,hou,by rw[hsize];exact Nat.le_refl _,fun b' hb'=>hother b' (by omega),hfr,hcell,fun _ _ _ _ h=>h,fun b' ℓ hb' h0 hk=>(hK ℓ (fun e=>by rw[e]at hk;simp[slotL]at hk)).tk b' hb',fun _ h=>h,hgr⟩
 ·have hall:EL (RF W (g.own b 0 (retL 0 0)).fr) z ys us:=hel.mono fun v c hv=>hv.mono hcell hfr
  obtain⟨val,h5,h6⟩:=of_row (w:=W) (b:=b) (off:=0) hall fun k v hk=>by
   have:W.cell? ⟨b,0+k,none⟩=nc[k]? :=by simp[World.cell?,hself]
   rw[this]
   exact hcur k v hk
  have own:Own (g.own b 0 (retL 0 0)) W (retL 0 0) (.slice (some ⟨b,0,none⟩) ys.length cap) .mu z ys:=⟨b,0,cap,nc,et,val,rfl,hself,by omega,hmax,by omega,if_pos rfl,if_pos rfl,fun _=>rfl,hall.el,h5,h6⟩
  exact own
theorem EL.cut {R:Value->D->Prop} {z i j:Nat} {xs:List D} {vs:List Value} (h:EL R z xs vs) (hi:i<=xs.length) (hj:j<=xs.length):EL R z (xs.take i++xs.drop j) (vs.take (i*z)++vs.drop (j*z)):=by
 have h1:EL R z (xs.take i) (vs.take (i*z)):=by
  have:i*z<=xs.length*z:=Nat.mul_le_mul_right z hi
  refine⟨by rw[List.length_take,List.length_take,h.len,Nat.min_eq_left hi,Nat.min_eq_left this],fun k d hk=>?_,fun k d l c hk hl=>?_⟩
  ·rw[List.getElem?_take]at hk
   split at hk
   ·exact h.el k d hk
   ·cases hk
  ·rw[List.getElem?_take]at hk
   split at hk
   ·rename_i hki
    obtain⟨v,a1,a2⟩:=h.rel k d l c hk hl
    refine⟨v,?_,a2⟩
    rw[List.getElem?_take,if_pos]
    ·exact a1
    ·have:=lt_of_el hki (h.el k d hk▸getq_lt hl);omega
   ·cases hk
 have h2:EL R z (xs.drop j) (vs.drop (j*z)):=by
  refine⟨by rw[List.length_drop,List.length_drop,h.len,Nat.sub_mul],fun k d hk=>?_,fun k d l c hk hl=>?_⟩
  ·rw[List.getElem?_drop]at hk
   exact h.el _ d hk
  ·rw[List.getElem?_drop]at hk
   obtain⟨v,a1,a2⟩:=h.rel _ d l c hk hl
   refine⟨v,?_,a2⟩
   rw[List.getElem?_drop,<-a1];congr 1;rw[Nat.add_mul];omega
 exact h1.append h2
end
section
variable {P:Program} {g:G} {w:World}
def DelM (P:Program) (f z:Nat):Prop:=∀(blk cap n i j:Nat) (cs:List Value) (w:World),cs.length=n*z->(∀t,t<n*z->w.cell? ⟨blk,t,none⟩=cs[t]?)->(∀u∈cs,u.oneCell'=true)->(∀t,t<n*z->w.frozen? ⟨blk,t,none⟩=false)->n<=cap->cap<=9223372036854775807->i<=j->j<=n->
 Calls P f #[.slice (some ⟨blk,0,none⟩) n cap,.int .i64 i,.int .i64 j] w fun e w'=>e= .returned (.slice (some ⟨blk,0,none⟩) (n-(j-i)) cap)∧(i=j->w'=w)∧
  (i<j->∃zs:List Value,zs.length=(j-i)*z∧w'=(w.drew.setCells blk (i*z) (cs.drop (j*z))).setCells blk ((i+(n-j))*z) zs)
structure PrimF (P:Program) (f:Nat) (fn:Func) (F:Fn):Prop where
 nr : (fn.name == "runtime.NumGoroutine") = false
 bd:fn.body.isNone=false
 del:∃nt z,F=⟨nt,true,[.t 6],none,.del z⟩∧DelM P f z
theorem del_good {f z:Nat} (hd:DelM P f z) {B:List Bx} {xs:List D} {i j:Int} (h0:0<=i) (hij:i<=j) (hj:j<=xs.length) (hi:Inv g w) (hsb:SB g w B) {x:Value} (hx:Own g w (slotL B.length 0 0 0) x .mu z xs):
  CallsIn (W none) 0 P f #[x,.int .i64 i,.int .i64 j] w (Post g w B B (.sl .mu z (xs.take i.toNat++xs.drop j.toNat))):=by
 obtain⟨i,rfl⟩:=Int.eq_ofNat_of_zero_le h0
 obtain⟨j,rfl⟩:=Int.eq_ofNat_of_zero_le (Int.le_trans h0 hij)
 have hij:i<=j:=Int.ofNat_le.1 hij
 have hj:j<=xs.length:=Int.ofNat_le.1 hj
 simp only[Int.ofNat_eq_natCast,Int.toNat_natCast]
 obtain⟨b,off,cap,cur,et,val,rfl,h2,h3,h4,h5,h6,h7,h7',h8,h9,h10⟩:=hx
 obtain rfl:=h7' rfl
 simp only at h7
 have hcz:cap*z<=cur.size:=by omega
 have hnz:xs.length*z<=cap*z:=Nat.mul_le_mul_right z h3
 obtain⟨vs,e1,e2⟩:=row_of h8 h9 h10
 have hcell:∀t,t<xs.length*z->w.cell? ⟨b,t,none⟩=vs[t]? :=fun t ht=>by
  obtain⟨v,hv⟩:∃v,vs[t]? =some v:=⟨_,List.getElem?_eq_getElem (by rw[e1.len];exact ht)⟩
  rw[hv,<-e2 t v hv,Nat.zero_add]
 have hvc:∀(k:Nat) v,vs[k]? =some v->cur[k]? =some v:=fun k v hk=>by
  have:=e2 k v hk
  simpa[World.cell?,h2]using this
 have hcall:=hd b cap xs.length i j vs w e1.len hcell e1.ones (fun t ht=>by simp[World.frozen?,h2]) h3 (Nat.le_trans h4 (by decide)) hij hj
 have hcall:CallsIn (W none) 0 P f _ w _:=callsIn_wide.2 hcall
 refine hcall.mono fun e w' ⟨r1,r2,r3⟩=>?_
 have hlen:(xs.take i++xs.drop j).length=xs.length-(j-i):=by rw[List.length_append,List.length_take,List.length_drop,Nat.min_eq_left (by omega)];omega
 have hcut:=e1.cut (i:=i) (j:=j) (by omega) hj
 rcases Nat.lt_or_ge i j with hlt|hge
 ·obtain⟨zs,hz,rfl⟩:=r3 hlt
  have hiz:i*z<=j*z:=Nat.mul_le_mul_right z hij
  have hjz:j*z<=xs.length*z:=Nat.mul_le_mul_right z hj
  have hdl:(vs.drop (j*z)).length=xs.length*z-j*z:=by rw[List.length_drop,e1.len]
  have ez:(i+(xs.length-j))*z=i*z+(xs.length*z-j*z):=by rw[Nat.add_mul,Nat.sub_mul]
  have ez2:(j-i)*z=j*z-i*z:=Nat.sub_mul ..
  obtain⟨n1,a1,a2,a3,a4,a5,a6,a7,a8,a9⟩:=setCells_row (b:=b) (et:=et) (q:=(0,0)) (vs.drop (j*z)) (i*z) w.drew cur h2 (by rw[hdl];omega)
  obtain⟨n2,c1,c2,c3,c4,c5,c6,c7,c8,c9⟩:=setCells_row (b:=b) (et:=et) (q:=(0,0)) zs ((i+(xs.length-j))*z) _ n1 a1 (by rw[hz,a2,ez,ez2];omega)
  obtain⟨g',q1,q2,q3,q4⟩:=rewr_ok hi hsb h2 h6 h7 c1 (fun b' hb'=>(c3 b' hb').trans (a3 b' hb')) (c4.trans a4) (c5.trans a5) (c6.trans a6) (c7.trans a7) (c2.trans a2) hcut (fun k v hk=>by
   have hkl:=getq_lt hk
   rw[List.length_append,List.length_take,e1.len,hdl,Nat.min_eq_left (by omega)]at hkl
   rw[c8 k (by rw[ez];omega)]
   rcases Nat.lt_or_ge k (i*z)with hl|hl
   ·rw[List.getElem?_append_left (by rw[List.length_take,e1.len];omega),List.getElem?_take,if_pos hl]at hk
    rw[a8 k hl];exact hvc k v hk
   ·rw[List.getElem?_append_right (by rw[List.length_take,e1.len];omega),List.length_take,e1.len,Nat.min_eq_left (by omega)]at hk
    have:=a9 _ v hk
    rw[<-this];congr 1;omega) (by rw[hlen];omega) h4 hcz
  exact⟨_,g',r1,q1,q2,rfl,q3,by rw[<-hlen];exact q4⟩
 ·obtain rfl:i=j:=by omega
  obtain rfl:=r2 rfl
  obtain⟨g',q1,q2,q3,q4⟩:=rewr_ok hi hsb h2 h6 h7 h2 (fun b' _=>rfl) rfl rfl rfl rfl rfl hcut (fun k v hk=>by
   rw[List.take_append_drop]at hk
   exact hvc k v hk) (by rw[hlen,Nat.sub_self,Nat.sub_zero];exact h3) h4 hcz
  exact⟨_,g',r1,q1,q2,rfl,q3,by rw[<-hlen];exact q4⟩
end
end Go.Proofs.Ytfopbiiffiickaa.Ev
namespace Go.Proofs.Ytfopbiiffiickaa.Ev
open Go
variable {P:Program}
section
variable {g:G} {w:World} {n:Nat} {tmps:Array Value} {s:S}
theorem dwn_one (h:SN g w n tmps s) {vs:Array Value} {ds:List D} (hF:∀(c:Nat) d,ds[c]? =some d->∃y,vs[c]? =some y∧RC g w (flyL 0 0 c) y d) (k:Nat) (d:D) (hk:ds[k]? =some d):
  ∃g',SN g' w n tmps s∧(∀(c:Nat) e,(ds.set k d.dwn1)[c]? =some e->∃y,vs[c]? =some y∧RC g' w (flyL 0 0 c) y e)∧Ext s.k g w g' w:=by
 have same:d.dwn1=d->∃g',SN g' w n tmps s∧(∀(c:Nat) e,(ds.set k d.dwn1)[c]? =some e->∃y,vs[c]? =some y∧RC g' w (flyL 0 0 c) y e)∧Ext s.k g w g' w:=fun e=>by
  refine⟨g,h,fun c e' hc=>hF c e' ?_,Ext.refl _ _ _⟩
  rw[e,List.getElem?_set]at hc
  split at hc
  ·rename_i q
   subst q
   have:=getq_lt hk
   rw[if_pos this]at hc
   injection hc with hc
   rw[<-hc];exact hk
  ·exact hc
 cases d with
 |sl m z xs=>
  cases m with
  |mu=>
   obtain⟨y,hy1,hy2⟩:=hF k _ hk
   obtain⟨B,off,cap,cur,e,val,rfl,q2,q3,q4,q5,q6,q7,q7',q8,q9,q10⟩:=(show Own g w (flyL 0 0 k) y .mu z xs from hy2)
   obtain rfl:=q7' rfl
   have hi:=h.st.inv
   have hfr:∀b',g.fr b'<=(g.own B (0+xs.length*z) (flyL 0 0 k)).fr b':=fun b'=>by
    show _<=(if _ then _ else _)
    split
    ·rename_i e;rw[e,q7];exact Nat.zero_le _
    ·exact Nat.le_refl _
   have htk:∀b',(g.own B (0+xs.length*z) (flyL 0 0 k)).tk b'=g.tk b':=fun b'=>by
    show(if _ then _ else _)=_
    split
    ·rename_i e;rw[e,q6]
    ·rfl
   have hK:∀ℓ,ℓ≠flyL 0 0 k->Keep g w ℓ (g.own B (0+xs.length*z) (flyL 0 0 k)) w ℓ:=fun ℓ hℓ=>⟨fun _ _ _=>rfl,hfr,fun _ _ _ h=>h,fun b' hb'=>by
    have e:b'≠B:=fun e=>by rw[e,q6]at hb';injection hb' with hb';exact hℓ hb'.symm
    exact⟨by rw[htk];exact hb',by show(if _ then _ else _)=_;rw[if_neg e],rfl⟩,Gr.refl _⟩
   have hsz:xs.length*z<=cur.size:=Nat.le_trans (Nat.mul_le_mul_right z q3) (by omega)
   refine⟨g.own B (0+xs.length*z) (flyL 0 0 k),⟨⟨⟨hi.base,fun b' hb'=>?_,fun f s1 b' hb'=>?_,hi.inj,fun b' ℓ hb'=>hi.tk b' ℓ (by rw[<-htk];exact hb'),fun b' o ho=>?_,hi.dm,fun b' hb'=>by rw[htk];exact hi.dt b' hb'⟩,⟨fun f b' ds' hds=>?_,h.st.sb.dom,h.st.sb.bnd⟩,fun t=>?_⟩,h.size⟩,fun c e' hc=>?_,⟨rfl,rfl,rfl,rfl,Nat.le_refl _,fun _ _=>rfl,hfr,fun _ _ _=>rfl,fun _ _ _ _ h=>h,fun b' ℓ hb' h0 hk=>(hK ℓ fun e=>by rw[e]at h0;cases h0).tk b' hb',fun _ h=>h,Gr.refl _⟩⟩
   ·have:=hi.fresh b' hb'
    refine⟨?_,by rw[htk];exact this.2⟩
    show(if _ then _ else _)=_
    rw[if_neg fun e=>by have:=getq_lt' q2;omega];exact this.1
   ·obtain⟨a1,a2,a3,a4⟩:=hi.box f s1 b' hb'
    refine⟨a1,a2,?_,by rw[htk];exact a4⟩
    show(if _ then _ else _)=_
    rw[if_neg fun e=>by rw[e,q6]at a4;cases a4];exact a3
   ·have ho':o<(if b'=B then 0+xs.length*z else g.fr b'):=ho
    split at ho'
    ·rename_i e
     subst e
     have:o<cur.size:=by omega
     simp[World.cell?,q2,this]
    ·exact hi.cells b' o ho'
   ·exact(h.st.sb.rel f b' ds' hds).keep (fun c'=>hK _ box_fly) fun _ _=>rfl
   ·exact(h.st.e t).keep fun i c'=>hK _ slot_fly
   ·rw[List.getElem?_set]at hc
    split at hc
    ·rename_i q
     subst q
     have:=getq_lt hk
     rw[if_pos this]at hc
     injection hc with hc
     subst hc
     exact⟨_,hy1,(show Own _ w _ _ .app z xs from⟨B,0,cap,cur,e,val,rfl,q2,q3,q4,q5,if_pos rfl,if_pos rfl,(fun h=>by cases h),q8,q9,fun i d j c hi hj=>(q10 i d j c hi hj).mono (fun _ _ _=>rfl) hfr⟩)⟩
    ·rename_i q
     obtain⟨y',r1,r2⟩:=hF c e' hc
     exact⟨y',r1,r2.keep (hK _ fun e=>by simp[flyL]at e;exact q e.symm)⟩
  |_=>exact same rfl
 |_=>exact same rfl
theorem dwn_all:∀(m:Nat) {g:G} {vs:Array Value} {ds:List D},SN g w n tmps s->m<=ds.length->(∀(c:Nat) d,ds[c]? =some d->∃y,vs[c]? =some y∧RC g w (flyL 0 0 c) y d)->
  ∃g',SN g' w n tmps s∧(∀(c:Nat) e,((ds.take m).map D.dwn1++ds.drop m)[c]? =some e->∃y,vs[c]? =some y∧RC g' w (flyL 0 0 c) y e)∧Ext s.k g w g' w
 |0,g,vs,ds,h,_,hF=>⟨g,h,by simpa using hF,Ext.refl _ _ _⟩
 |m+1,g,vs,ds,h,hm,hF=>by
  obtain⟨g1,k1,k2,k3⟩:=dwn_all m h (by omega) hF
  have hget:((ds.take m).map D.dwn1++ds.drop m)[m]? =some ds[m]:=by
   rw[List.getElem?_append_right (by simp;omega),List.getElem?_drop]
   have:m+(m-((ds.take m).map D.dwn1).length)=m:=by simp;omega
   rw[this,List.getElem?_eq_getElem (by omega)]
  obtain⟨g2,j1,j2,j3⟩:=dwn_one k1 k2 m ds[m] hget
  refine⟨g2,j1,?_,k3.trans j3⟩
  have e:((ds.take m).map D.dwn1++ds.drop m).set m ds[m].dwn1=(ds.take (m+1)).map D.dwn1++ds.drop (m+1):=by
   have hl:((ds.take m).map D.dwn1).length=m:=by simp;omega
   rw[List.set_append_right _ _ (by omega),hl,Nat.sub_self,List.drop_eq_getElem_cons (by omega),List.set_cons_zero,List.take_succ_eq_append_getElem (by omega),List.map_append]
   simp
  rwa[e]at j2
end
section
variable {o:Oper} {g:G} {w:World} {n:Nat} {a:Act} {s s':S} {d:D} {call:Caller} {t:Option Nat}
theorem does_calf {ro:Option Nat} (hg:Good P call) {f:Nat} (hf:f<RL) {args:Array Operand} {args':List Opd} {ts:Array TypeId} (ho:o.op= .call ⟨.value (.func f),args,ts⟩) (hm:MArgs args args') (h:SN g w n a.tmps s) (he:evOp call t (.calf f args') s=some (d,s')):Does P ro o g w n a s d s':=by
 simp only[evOp]at he
 split at he
 ·rename_i d1 s1 hq
  injection he with he
  injection he with e1 e2
  subst e1 e2
  have hc:=does_call (t:=t) (ro:=ro) hg hf ho hm h hq
  rcases agg_or d1 with⟨cs,rfl⟩|ha
  ·intro next Q hn
   refine hc next Q fun x w' g' r1 r2 r3 r4=>?_
   obtain⟨vs,q1,q2,q3⟩:=(show RV g' w' (flyL 0 0) x (.agg cs)from r2)
   obtain⟨g2,k1,k2,k3⟩:=dwn_all cs.length r1 (Nat.le_refl _) q3
   rw[List.take_length,List.drop_length,List.append_nil]at k2
   exact hn x w' g2 k1 (show RV g2 w' (flyL 0 0) x (.agg (cs.map D.dwn1))from⟨vs,q1,by simpa using q2,k2⟩) (r3.trans (by rw[r4]at k3;exact k3)) r4
  ·rcases tup_or d1 with⟨ds,rfl⟩|ht
   ·exact hc
   ·have e:dwnA d1=d1.dwn1:=by cases d1<;>first|rfl|cases ha
    rw[e]
    intro next Q hn
    refine hc next Q fun x w' g' r1 r2 r3 r4=>?_
    rw[RT_ne ht,RV_ne ha]at r2
    obtain⟨g2,k1,k2,k3⟩:=dwn_all (vs:= #[x]) (ds:=[d1]) 1 r1 (by simp) (fun c d hc=>by
     cases c with
     |zero=>simp at hc;subst hc;exact⟨x,rfl,r2⟩
     |succ c=>simp at hc)
    obtain⟨y,y1,y2⟩:=k2 0 d1.dwn1 rfl
    simp at y1
    subst y1
    have ha':d1.dwn1.aggB=false:=by
     cases d1 with
     |sl m z xs=>cases m<;>rfl
     |agg=>cases ha
     |_=>rfl
    have ht':d1.dwn1.tupB=false:=by
     cases d1 with
     |sl m z xs=>cases m<;>rfl
     |tup=>cases ht
     |_=>rfl
    exact hn x w' g2 k1 (by rw[RT_ne ht',RV_ne ha'];exact y2) (r3.trans (by rw[r4]at k3;exact k3)) r4
 ·cases he
end
end Go.Proofs.Ytfopbiiffiickaa.Ev
