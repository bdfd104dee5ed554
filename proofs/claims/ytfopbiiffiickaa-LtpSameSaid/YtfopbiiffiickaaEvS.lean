/- The check that a table's functions are the program's. Conditions: none. -/
import Derived.Test.YtfopbiiffiickaaEvI
import Derived.Test.YtfopbiiffiickaaEv6
import Derived.Test.YtfopbiiffiickaaEvC
import Derived.Test.YtfopbiiffiickaaEvX
set_option linter.all false
namespace Go.Proofs.Ytfopbiiffiickaa.Ev
open Go
variable {P:Program}
inductive MRes (P:Program):ResultVar->Res->Prop
 |t (n:Nat):MRes P (.tmp n) (.t n)
 |c {n ty q} (hs:Sz P ty q):MRes P (.cell n ty) (.c n q)
inductive MResL (P:Program):List ResultVar->List Res->Prop
 |nil:MResL P [] []
 |cons {r r' l l'} (h:MRes P r r') (hl:MResL P l l'):MResL P (r::l) (r'::l')
structure MFn (P:Program) (fn:Func) (F:Fn):Prop where
 nt:fn.ntmps=F.nt
 nr : (fn.name == "runtime.NumGoroutine") = false
 res:MResL P fn.results.toList F.res
 body:∃c,fn.body=some c∧MCd P F.nt c F.body
def MRd (P:Program) (rid:Nat) (F:Fn) (ps:List Nat) (asg:Cd):Prop:=
 ∃(pa:Array Tmp) (a b:Code),roundOf PP rid=some (F.nt,pa,a,b)∧pa.toList=ps∧(∀p∈ps,p<F.nt)∧MCd P F.nt a asg∧MCd P F.nt b F.body
def MProg (P:Program) (prog:Nat->Option Fn):Prop:=∀f F,prog f=some F->match F.rnd with
 |none=>f<RL∧∃fn,P.funcs[f]? =some fn∧(MFn P fn F∨PrimF P f fn F)
 |some (ps,asg)=>RL<=f∧MRd P f F ps asg
def resS (tmps:Array Value):ResultVar->Sem Value
 | .tmp t=>pure (tmps.getD t undef)
 | .cell b t=>do loadVar t (<-asAddr (tmps.getD b undef))
theorem results_eq (fn:Func) (tmps:Array Value):results fn tmps=(do let vs <-fn.results.mapM (resS tmps);pure (if h:vs.size=1 then vs[0]else .tuple vs)):=by
 unfold results
 congr 1
def resF (j i c:Nat):Loc:=⟨4,j,0,i,c⟩
section
variable {g:G} {w:World} {n:Nat} {a:Act} {s s':S} {call:Caller}
theorem res1_ok {r:ResultVar} {r':Res} (hm:MRes P r r') {d:D} (h:SN g w n a.tmps s) (he:res1 call r' s=some (d,s')) (j:Nat):
  ∃x g',(resS a.tmps r).run P w= .ok x w∧SN g' w n a.tmps s'∧RT g' w (resF j) x d∧Ext s.k g w g' w∧s'.k=s.k∧
   (∀j' y d,j'<j->RT g w (resF j') y d->RT g' w (resF j') y d):=by
 have fin:∀g1 x,SN g1 w n a.tmps s'->RT g1 w (flyL 0) x d->Ext s.k g w g1 w->s'.k=s.k->(∀ℓ:Loc,4<=ℓ.k->Keep g w ℓ g1 w ℓ)->
   ∃g',SN g' w n a.tmps s'∧RT g' w (resF j) x d∧Ext s.k g w g' w∧s'.k=s.k∧(∀j' y d,j'<j->RT g w (resF j') y d->RT g' w (resF j') y d):=by
  intro g1 x h1 h2 h3 h4 h5
  have hfix:∀ℓ:Loc,ℓ.k≠3->relo (flyL 0) (resF j) ℓ=ℓ:=fun ℓ hℓ=>relo_fix fun i c e=>hℓ (by rw[e];rfl)
  refine⟨g1.mv (relo (flyL 0) (resF j)),⟨⟨h1.st.inv.mv _,h1.st.sb.mv _ fun f b c=>hfix _ (by simp[boxL]),fun t=>(h1.st.e t).keep fun i c=>g1.mv_keep' w _ (hfix _ (by simp[slotL]))⟩,h1.size⟩,
   h2.keep fun i c=>g1.mv_keep' w _ (relo_A (fun _ _=>⟨rfl,rfl⟩) i c),h3.trans (g1.mv_ext w _ _ fun ℓ h0 _=>hfix _ (by omega)),h4,fun j' y d hj hy=>(hy.keep fun i c=>h5 _ (by simp[resF])).keep fun i c=>g1.mv_keep' w _ (hfix _ (by simp[resF]))⟩
 cases hm with
 |t m=>
  simp only[res1]at he
  injection he with he
  obtain⟨g1,k1,k2,k3,k4,k5,k6⟩:=rd_fly h (MOpd.m m) 0
  have hk:=rd_k (.m m) s
  rw[he]at k1 k2 hk
  obtain⟨g',q1,q2,q3,q4,q5⟩:=fin g1 _ k1 k2 k3 hk k6
  exact⟨_,g',rfl,q1,q2,q3,q4,q5⟩
 |c hs=>
  rename_i b ty q
  simp only[res1,evOp,rd]at he
  split at he
  ·rename_i f bb off hptr
   obtain⟨hRL,blk,h1,h2⟩:=rd_ptr (x':=.t b) h (MOpd.t b) hptr
   split at he
   ·rename_i ds hds
    obtain⟨d0,h3,h4⟩:=Option.map_eq_some_iff.1 he
    injection h4 with e1 e2
    subst e1 e2
    obtain⟨x,g1,q1,q2,q3,q4,q5⟩:=ldm_core hs h h1 hRL hds h3
    obtain⟨g',r1,r2,r3,r4,r5⟩:=fin g1 _ q2 q3 q4 (sbx_k ..) q5
    refine⟨x,g',?_,r1,r2,r3,r4,r5⟩
    have h2':a.tmps.getD b undef= .pointer (some ⟨blk,off,none⟩):=h2
    simp[resS,h2',asAddr,q1]
   ·cases he
  ·cases he
theorem resL_ok {rs:List ResultVar} {rs':List Res} (hm:MResL P rs rs'):∀{g:G} {s s':S} {ds:List D} (j:Nat),SN g w n a.tmps s->resL call rs' s=some (ds,s')->
  ∃xs g',(rs.mapM (resS a.tmps)).run P w= .ok xs w∧SN g' w n a.tmps s'∧xs.length=ds.length∧
   (∀(i:Nat) d,ds[i]? =some d->∃x,xs[i]? =some x∧RT g' w (resF (j+i)) x d)∧Ext s.k g w g' w∧s'.k=s.k∧(∀j' y d,j'<j->RT g w (resF j') y d->RT g' w (resF j') y d):=by
 induction hm with
 |nil=>
  intro g s s' ds j h he
  simp only[resL]at he
  injection he with he
  injection he with e1 e2
  subst e1 e2
  exact⟨[],g,rfl,h,rfl,fun i d hi=>by simp at hi,Ext.refl _ _ _,rfl,fun _ _ _ _ h=>h⟩
 |cons hr hl ih=>
  intro g s s' ds j h he
  simp only[resL]at he
  obtain⟨p,h1,h2⟩:=Option.bind_eq_some_iff.1 he
  obtain⟨q,h3,h4⟩:=Option.map_eq_some_iff.1 h2
  injection h4 with e1 e2
  subst e1 e2
  obtain⟨d1,s1⟩:=p
  obtain⟨x,g1,k1,k2,k3,k4,k5,k6⟩:=res1_ok hr h h1 j
  obtain⟨xs,g2,r1,r2,r3,r4,r5,r6,r7⟩:=ih (j+1) k2 h3
  refine⟨x::xs,g2,?_,r2,by simp[r3],fun i d hi=>?_,k4.trans (by rw[k5]at r5;exact r5),r6.trans k5,fun j' y d hj hy=>r7 j' y d (by omega) (k6 j' y d hj hy)⟩
  ·rw[List.mapM_cons]
   simp only[Sem.run_bind]
   rw[k1]
   simp only[Result.andThen_ok]
   rw[r1]
   rfl
  ·cases i with
   |zero=>simp at hi;subst hi;exact⟨x,rfl,r7 j _ _ (by omega) k3⟩
   |succ i=>
    obtain⟨y,q1,q2⟩:=r4 i d (by simpa using hi)
    exact⟨y,by simpa using q1,by rw[show j+(i+1)=j+1+i by omega];exact q2⟩
theorem results_ok {fn:Func} {rs':List Res} (hm:MResL P fn.results.toList rs') {ds:List D} (h:SN g w n a.tmps s) (he:resL call rs' s=some (ds,s')) (hnt:∀d∈ds,d.tupB=false):
  ∃v g',(results fn a.tmps).run P w= .ok v w∧SN g' w n a.tmps s'∧RT g' w retL v (mkRes ds)∧Ext s.k g w g' w∧s'.k=s.k:=by
 obtain⟨xs,g1,h1,h2,h3,h4,h5,h6,_⟩:=resL_ok hm 0 h he
 let ρ:Loc->Loc:=fun ℓ=>if ℓ=resF ℓ.f ℓ.i ℓ.c then retL ℓ.f ℓ.c else ℓ
 have hρf:∀ℓ:Loc,ℓ.k≠4->ρ ℓ=ℓ:=fun ℓ hℓ=>if_neg fun e=>hℓ (by rw[e];rfl)
 have hρ:∀i c,ρ (resF i 0 c)=retL i c:=fun i c=>if_pos rfl
 have hst:SN (g1.mv ρ) w n a.tmps s':=⟨⟨h2.st.inv.mv _,h2.st.sb.mv _ fun f b c=>hρf _ (by simp[boxL]),fun t=>(h2.st.e t).keep fun i c=>g1.mv_keep' w _ (hρf _ (by simp[slotL]))⟩,h2.size⟩
 have hel:∀(i:Nat) d,ds[i]? =some d->∃x,xs[i]? =some x∧RV (g1.mv ρ) w (retL i) x d:=by
  intro i d hi
  obtain⟨x,q1,q2⟩:=h4 i d hi
  have hd:=hnt d (List.mem_of_getElem? hi)
  rw[Nat.zero_add,RT_ne hd]at q2
  exact⟨x,q1,q2.keep fun c=>g1.mv_keep' w ρ (hρ i c)⟩
 have hrun:∀v,(if hx:xs.toArray.size=1 then xs.toArray[0]else Value.tuple xs.toArray)=v->(results fn a.tmps).run P w= .ok v w:=by
  intro v hv
  rw[results_eq,Sem.run_bind,Array.mapM_eq_mapM_toList,Sem.run_map,h1]
  simp only[Result.andThen_ok]
  rw[<-hv]
  rfl
 refine⟨_,g1.mv ρ,hrun _ rfl,hst,?_,h5.trans (g1.mv_ext w ρ _ fun ℓ h0 _=>hρf _ (by omega)),h6⟩
 have htup:ds.length≠1->RT (g1.mv ρ) w retL (Value.tuple xs.toArray) (.tup ds):=fun _=>⟨xs.toArray,rfl,by simp[h3],fun i d hi=>by
  obtain⟨x,q1,q2⟩:=hel i d hi
  exact⟨x,by simpa using q1,q2⟩⟩
 cases hds:ds with
 |nil=>
  subst hds
  rw[dif_neg (by simp[h3])]
  exact htup (by simp)
 |cons d r=>
  cases r with
  |nil=>
   subst hds
   obtain⟨x,q1,q2⟩:=hel 0 d rfl
   rw[dif_pos (by simp[h3])]
   have:xs.toArray[0]'(by simp[h3])=x:=by
    have:=q1
    rw[List.getElem?_eq_getElem (by simp[h3])]at this
    injection this
   rw[this]
   exact q2.toRT
  |cons d2 r=>
   subst hds
   rw[dif_neg (by simp[h3])]
   exact htup (by simp)
theorem argE_get (ds:List D) (i t:Nat):get t (argE i ds)=if i<=t then(ds[t-i]?).getD .u else .u:=by
 induction ds generalizing i with
 |nil=>simp[argE,get]
 |cons d r ih=>
  simp only[argE,get]
  by_cases h:t=i
  ·subst h;simp
  ·rw[if_neg h,ih]
   by_cases h':i<=t
   ·rw[if_pos h',if_pos (by omega),show t-i=(t-(i+1))+1 by omega];simp
   ·rw[if_neg h',if_neg (by omega)]
theorem bnd_in0 {k:Nat} {bs:List Nat} {d:D} (h:d.bnd1 k=true) (hu:d.sto1=true∨d= .u∨∃x,d= .v x):d.in1 k bs=true:=by
 cases d with
 |v x=>rfl
 |sl m z xs=>rfl
 |u=>rfl
 |ptr f' s off=>simp[D.bnd1]at h;simp[D.in1];omega
 |fptr cs off=>rfl
 |yld f' s=>simp[D.bnd1]at h;simp[D.in1];omega
 |ref f' s off n z=>simp[D.bnd1]at h;simp[D.in1];omega
 |clo fn caps=>
  refine List.all_eq_true.2 fun c hc=>?_
  have:=List.all_eq_true.1 (show caps.all _=true from h) c hc
  cases c with
  |ptr f' s off=>simp at this ⊢;left;omega
  |v y=>rfl
  |fptr cs off=>rfl
  |_=>cases this
 |_=>rcases hu with hu|hu|⟨x,hu⟩<;>cases hu
theorem RV.in2 {k:Nat} {bs:List Nat} {L:Nat->Loc} {x:Value} {d:D} (h:RV g w L x d) (hb:d.bnd2 k=true):d.in2 k bs=true:=by
 rcases agg_or d with⟨ds,rfl⟩|hd
 ·obtain⟨cs,h1,h2,h3⟩:=h
  refine List.all_eq_true.2 fun d hd=>?_
  obtain⟨c,hc⟩:=List.mem_iff_getElem?.1 hd
  obtain⟨y,h4,h5⟩:=h3 c d hc
  exact bnd_in0 (List.all_eq_true.1 (show ds.all _=true from hb) d hd) h5.kinds
 ·rw[RV_ne hd]at h
  have h1:d.bnd1 k=true:=by cases d<;>first|exact hb|cases hd
  have:=bnd_in0 (bs:=bs) h1 h.kinds
  cases d<;>first|exact this|cases hd
theorem RT.inn {k:Nat} {bs:List Nat} {L:Nat->Nat->Loc} {x:Value} {ds:List D} (h:RT g w L x (mkRes ds)) (hb:ds.all (D.bnd2 k)=true):(mkRes ds).inn k bs=true:=by
 have all:∀ds:List D,RT g w L x (.tup ds)->ds.all (D.bnd2 k)=true->(D.tup ds).inn k bs=true:=by
  intro ds h hb
  obtain⟨vs,h1,h2,h3⟩:=h
  refine List.all_eq_true.2 fun d hd=>?_
  obtain⟨i,hi⟩:=List.mem_iff_getElem?.1 hd
  obtain⟨y,h4,h5⟩:=h3 i d hi
  exact h5.in2 (List.all_eq_true.1 hb d hd)
 cases ds with
 |nil=>exact all _ h hb
 |cons d r=>cases r with
  |nil=>
   have hd:=bnd2_tup (List.all_eq_true.1 hb d (by simp))
   have h':RT g w L x d:=h
   rw[RT_ne hd]at h'
   have:=h'.in2 (bs:=bs) (List.all_eq_true.1 hb d (by simp))
   show d.inn k bs=true
   cases d<;>first|exact this|cases hd
  |cons d2 r=>exact all _ h hb
theorem frame_sb {e:Env} {B:List Bx} (hsb:SB g w B):SB g w (⟨e,[],B⟩:S).B:=by
 have hbx:∀f s,bxl (⟨e,[],B⟩:S).B f s=bxl B f s:=by
  intro f s
  simp only[bxl,S.B]
  rcases Nat.lt_or_ge f B.length with hlt|hge
  ·rw[List.getElem?_append_left hlt]
  ·rw[List.getElem?_append_right hge,List.getElem?_eq_none hge]
   cases hq:f-B.length with
   |zero=>simp[lk]
   |succ q=>simp
 exact⟨fun f s ds h=>hsb.rel f s ds (by rw[<-hbx];exact h),fun f s h=>by rw[hbx];exact hsb.dom f s h,fun f s ds d h hd=>hsb.bnd f s ds d (by rw[<-hbx];exact h) hd⟩
theorem frame_end (h:SN g w n a.tmps s) {k:Nat} (hk:s.o.length=k):Inv (g.cut k []) w∧SB (g.cut k []) w s.o:=by
 subst hk
 refine⟨h.st.inv.cut,h.st.sb.cut _ (fun f s1 hf=>?_) (fun f s1 hs=>?_) fun b=>⟨fun hb=>by simp at hb,fun ds hds=>?_⟩⟩
 ·simp only[bxl,S.B]
  rcases Nat.lt_or_ge f s.o.length with hlt|hge
  ·rw[List.getElem?_append_left hlt]
  ·rw[List.getElem?_eq_none hge,List.getElem?_append_right hge]
   have:f-s.o.length=(f-s.o.length-1)+1:=by omega
   rw[this];simp
 ·obtain⟨blk,hblk⟩:=Option.isSome_iff_exists.1 hs
  have:=h.boxlt hblk
  have hk3:s.k=s.o.length:=rfl
  omega
 ·exfalso
  simp only[bxl]at hds
  rw[List.getElem?_eq_none (Nat.le_refl _)]at hds
  cases hds
open Classical in
noncomputable def G.frz (g:G) (k:Nat) (l:Bx):G:={g.cut k []with fr:=fun blk=>if h:∃b cs,g.bx k b=some blk∧lk b l=some cs∧cs.all D.rf1=true∧b<RL then h.choose_spec.choose.length else g.fr blk}
theorem frz_fr {k b blk:Nat} {l:Bx} {cs:List D} (hi:Inv g w) (h1:g.bx k b=some blk) (h2:lk b l=some cs) (h3:cs.all D.rf1=true) (h4:b<RL):(g.frz k l).fr blk=cs.length:=by
 have hx:∃b cs,g.bx k b=some blk∧lk b l=some cs∧cs.all D.rf1=true∧b<RL:=⟨b,cs,h1,h2,h3,h4⟩
 unfold G.frz
 simp only
 rw[dif_pos hx]
 have h:=hx.choose_spec.choose_spec
 have e:=(hi.inj _ _ _ _ _ h.1 h1).2
 have h6:lk hx.choose l=lk b l:=by rw[e]
 have h7:=h2.symm.trans (h6.symm.trans h.2.1)
 injection h7 with h7
 exact congrArg List.length h7.symm
theorem frz_fr' {k blk:Nat} {l:Bx} (h:¬∃b cs,g.bx k b=some blk∧lk b l=some cs∧cs.all D.rf1=true∧b<RL):(g.frz k l).fr blk=g.fr blk:=by
 unfold G.frz
 simp only
 rw[dif_neg h]
theorem frame_frz (h:SN g w n a.tmps s) {k:Nat} (hk:s.o.length=k):Inv (g.frz k s.l) w∧SB (g.frz k s.l) w s.o∧Ext k g w (g.frz k s.l) w∧(∀b,g.fr b<=(g.frz k s.l).fr b):=by
 have hi:=h.st.inv
 obtain⟨f1,f2⟩:=frame_end h hk
 have hB:∀b cs,lk b s.l=some cs->bxl s.B k b=some cs:=fun b cs hb=>by subst hk;simpa[bxl,S.B]using hb
 have hz:∀blk,(∃b cs,g.bx k b=some blk∧lk b s.l=some cs∧cs.all D.rf1=true∧b<RL)->g.fr blk=0∧g.tk blk=none∧g.base<=blk∧blk<w.heap.size:=fun blk ⟨b,cs,q1,_⟩=>by
  obtain⟨a1,a2,a3,a4⟩:=hi.box _ _ _ q1
  exact⟨a3,a4,a1,a2⟩
 have hfr:∀b,g.fr b<=(g.frz k s.l).fr b:=fun blk=>by
  by_cases hx:∃b cs,g.bx k b=some blk∧lk b s.l=some cs∧cs.all D.rf1=true∧b<RL
  ·rw[(hz blk hx).1];omega
  ·rw[frz_fr' hx];exact Nat.le_refl _
 have hK:∀ℓ,Keep (g.cut k []) w ℓ (g.frz k s.l) w ℓ:=fun ℓ=>⟨fun _ _ _=>rfl,hfr,fun _ _ _ h=>h,fun b hb=>⟨hb,by
  by_cases hx:∃b' cs,g.bx k b'=some b∧lk b' s.l=some cs∧cs.all D.rf1=true∧b'<RL
  ·exfalso;have:=(hz b hx).2.1;rw[show g.tk b=some ℓ from hb]at this;cases this
  ·exact frz_fr' hx,rfl⟩,Gr.refl _⟩
 refine⟨⟨f1.base,fun b hb=>⟨?_,(f1.fresh b hb).2⟩,fun f s' b hb=>?_,f1.inj,f1.tk,fun b o ho=>?_,f1.dm,f1.dt⟩,⟨fun f b ds hds=>(f2.rel f b ds hds).keep (fun c=>hK _) fun _ _=>rfl,f2.dom,f2.bnd⟩,⟨rfl,rfl,rfl,rfl,Nat.le_refl _,fun _ _=>rfl,hfr,fun _ _ _=>rfl,(G.cut_ext (g:=g) (w:=w) (k:=k) (bs:=[])).bx,fun b ℓ hb h0 hk'=>⟨hb,((hK ℓ).tk b hb).2.1,rfl⟩,fun _ h=>h,Gr.refl _⟩,hfr⟩
 ·by_cases hx:∃b' cs,g.bx k b'=some b∧lk b' s.l=some cs∧cs.all D.rf1=true∧b'<RL
  ·have:=(hz b hx).2.2.2;omega
  ·rw[frz_fr' hx];exact(hi.fresh b hb).1
 ·obtain⟨a1,a2,a3,a4⟩:=f1.box f s' b hb
  refine⟨a1,a2,?_,a4⟩
  by_cases hx:∃b' cs,g.bx k b'=some b∧lk b' s.l=some cs∧cs.all D.rf1=true∧b'<RL
  ·exfalso
   obtain⟨b',cs,q1,_⟩:=hx
   have hb':(if f=k∧¬ s'∈([]:List Nat)then none else g.bx f s')=some b:=hb
   split at hb'
   ·cases hb'
   ·rename_i hne
    have:=(hi.inj _ _ _ _ _ hb' q1).1
    exact hne ⟨this,by simp⟩
  ·rw[frz_fr' hx];exact a3
 ·by_cases hx:∃b' cs,g.bx k b'=some b∧lk b' s.l=some cs∧cs.all D.rf1=true∧b'<RL
  ·obtain⟨b',cs,q1,q2,q3,q4⟩:=hx
   rw[frz_fr hi q1 q2 q3 q4]at ho
   obtain⟨blk,vs,e,r1,r2,r3,_⟩:=(h.st.sb.rel k b' cs (hB _ _ q2)).c q4
   rw[q1]at r1
   injection r1 with r1
   subst r1
   have:o<vs.size:=by omega
   simp[World.cell?,r2,this]
  ·rw[frz_fr' hx]at ho;exact hi.cells b o ho
theorem RP.frz {k:Nat} {x:Value} {d:D} (h:SN g w n a.tmps s) (hk:s.o.length=k) (hr:RP g w x d) (hb:(d.frzP k s.l).in1 k []=true):RP (g.frz k s.l) w x (d.frzP k s.l):=by
 obtain⟨_,_,he,hfr⟩:=frame_frz h hk
 have low:∀d,RP g w x d->d.in1 k []=true->RP (g.frz k s.l) w x d:=fun d hr hi=>RP.keep (hr.cut (bs:=[]) hi) (fun _ _ _=>rfl) hfr fun _ _ _ h=>h
 cases d with
 |ptr f b off=>
  by_cases e:f=k
  ·simp only[D.frzP,if_pos e]at hb ⊢
   cases hl:lk b s.l with
   |none=>rw[hl]at hb;exact low _ hr hb
   |some cs=>
    rw[hl]at hb
    simp only at hb ⊢
    by_cases hall:cs.all D.rf1=true
    ·rw[if_pos hall]
     obtain⟨h0,blk,h1,h2⟩:=hr
     subst e
     have hB:bxl s.B f b=some cs:=by subst hk;simpa[bxl,S.B]using hl
     obtain⟨blk',vs,et,r1,r2,r3,r4⟩:=(h.st.sb.rel f b cs hB).c h0
     rw[h1]at r1
     injection r1 with r1
     subst r1
     refine⟨blk,0,fun j=>vs.getD j undef,by rw[Nat.zero_add];exact h2,by rw[frz_fr h.st.inv h1 hl hall h0];omega,fun j c hj=>?_⟩
     obtain⟨y,r5,r6⟩:=r4 j c hj
     have hy:vs.getD j undef=y:=by rw[Array.getD_eq_getD_getElem?,r5];rfl
     show w.cell? ⟨blk,0+j,none⟩=some (vs.getD j undef)∧RF w _ (vs.getD j undef) c
     rw[hy]
     exact⟨by simp[World.cell?,r2,r5],(RC.toRF r6 (List.all_eq_true.1 hall c (List.mem_of_getElem? hj))).mono (fun _ _ _=>rfl) hfr⟩
    ·rw[if_neg hall]at hb ⊢
     exact low _ hr hb
  ·simp only[D.frzP,if_neg e]at hb ⊢
   exact low _ hr hb
 |v y=>exact low _ hr rfl
 |fptr cs off=>exact low _ hr rfl
 |_=>exact hr.elim
theorem RC.frz {k:Nat} {ℓ:Loc} {x:Value} {d:D} (h:SN g w n a.tmps s) (hk:s.o.length=k) (hr:RC g w ℓ x d) (hb:(d.frz1 k s.l).in1 k []=true):RC (g.frz k s.l) w ℓ x (d.frz1 k s.l):=by
 obtain⟨_,_,he,hfr⟩:=frame_frz h hk
 have hK:Keep (g.cut k []) w ℓ (g.frz k s.l) w ℓ:=⟨fun _ _ _=>rfl,hfr,fun _ _ _ h=>h,fun b hb=>⟨hb,by
  by_cases hx:∃b' cs,g.bx k b'=some b∧lk b' s.l=some cs∧cs.all D.rf1=true∧b'<RL
  ·exfalso
   obtain⟨b',cs,q1,_⟩:=hx
   have:=(h.st.inv.box _ _ _ q1).2.2.2
   rw[show g.tk b=some ℓ from hb]at this;cases this
  ·exact frz_fr' hx,rfl⟩,Gr.refl _⟩
 have low:∀d,RC g w ℓ x d->d.in1 k []=true->RC (g.frz k s.l) w ℓ x d:=fun d hr hi=>(hr.cut hi).keep hK
 cases d with
 |clo fn caps=>
  obtain⟨h0,vs,h1,h2,h3⟩:=hr
  refine⟨h0,vs,h1,by simpa using h2,fun j c hj=>?_⟩
  simp only[List.getElem?_map]at hj
  obtain⟨c0,q1,q2⟩:=Option.map_eq_some_iff.1 hj
  subst q2
  obtain⟨y,q3,q4⟩:=h3 j c0 q1
  refine⟨y,q3,RP.frz h hk q4 ?_⟩
  have:=List.all_eq_true.1 (show(caps.map (D.frzP k s.l)).all _=true from hb) _ (List.mem_map.2 ⟨c0,List.mem_of_getElem? q1,rfl⟩)
  generalize c0.frzP k s.l=c1 at this
  cases c1 with
  |ptr f s off=>exact this
  |v y=>rfl
  |fptr cs off=>rfl
  |_=>cases this
 |ptr f b off=>
  have:=RP.frz h hk (show RP g w x (.ptr f b off)from hr) hb
  show RC _ _ _ _ ((D.ptr f b off).frzP k s.l)
  revert this
  generalize(D.ptr f b off).frzP k s.l=c1
  intro this
  cases c1 with
  |ptr f s off=>exact this
  |v y=>exact this
  |fptr cs off=>exact this
  |_=>exact this.elim
 |ref f b off m z=>
  obtain⟨h0,B,cap,off',h1,h2,h3,h4,h5⟩:=hr
  have hr0:RC g w ℓ x (.ref f b off m z):=⟨h0,B,cap,off',h1,h2,h3,h4,h5⟩
  show RC _ _ _ _ ((D.ref f b off m z).frzP k s.l)
  have hb':((D.ref f b off m z).frzP k s.l).in1 k []=true:=hb
  by_cases e:f=k
  ·simp only[D.frzP,if_pos e]at hb' ⊢
   cases hl:lk b s.l with
   |none=>rw[hl]at hb';exact low _ hr0 hb'
   |some cs=>
    rw[hl]at hb'
    simp only at hb' ⊢
    by_cases hall:cs.all D.rf1=true
    ·rw[if_pos hall]
     by_cases hle:off+m*z<=cs.length
     ·rw[if_pos hle]
      subst e
      have hB:bxl s.B f b=some cs:=by subst hk;simpa[bxl,S.B]using hl
      obtain⟨blk',vs,et,r1,r2,r3,r4⟩:=(h.st.sb.rel f b cs hB).c h0
      rw[h1]at r1
      injection r1 with r1
      subst r1
      rw[h2]
      exact(show RF w _ _ (.sl .ro z (chunks z m (cs.drop off)))from ref_ro h3 h4 (h5.1.imp (fun q=>by omega) id) r2 hall (fun c d hc=>by
       obtain⟨y,r5,r6⟩:=r4 c d hc
       exact⟨y,r5,(RC.toRF r6 (List.all_eq_true.1 hall d (List.mem_of_getElem? hc))).mono (fun _ _ _=>rfl) hfr⟩) (Nat.le_of_eq (frz_fr h.st.inv h1 hl hall h0).symm) hle)
     ·rw[if_neg hle];trivial
    ·rw[if_neg hall]at hb' ⊢;exact low _ hr0 hb'
  ·simp only[D.frzP,if_neg e]at hb' ⊢
   exact low _ hr0 hb'
 |_=>exact low _ hr hb
theorem RP.bnd_in {k:Nat} {x:Value} {d:D} (hr:RP g w x d) (hb:(d.frzP k s.l).bnd1 k=true):(d.frzP k s.l).in1 k []=true:=by
 cases d with
 |ptr f b off=>
  simp only[D.frzP]at hb ⊢
  split
  ·rename_i e
   rw[if_pos e]at hb
   cases hl:lk b s.l with
   |none=>rw[hl]at hb;simp[D.bnd1]at hb;simp[D.in1];omega
   |some cs=>
    rw[hl]at hb
    simp only at hb ⊢
    split
    ·rfl
    ·rename_i hn;rw[if_neg hn]at hb;simp[D.bnd1]at hb;simp[D.in1];omega
  ·rename_i e;rw[if_neg e]at hb;simp[D.bnd1]at hb;simp[D.in1];omega
 |v y=>rfl
 |fptr cs off=>rfl
 |_=>exact hr.elim
theorem RC.bnd_in {k:Nat} {ℓ:Loc} {x:Value} {d:D} (hr:RC g w ℓ x d) (hb:(d.frz1 k s.l).bnd1 k=true):(d.frz1 k s.l).in1 k []=true:=by
 cases d with
 |clo fn caps=>
  refine List.all_eq_true.2 fun c hc=>?_
  have:=List.all_eq_true.1 (show(caps.map (D.frzP k s.l)).all _=true from hb) c hc
  cases c with
  |ptr f' s off=>simp at this ⊢;exact this
  |v y=>rfl
  |fptr cs off=>rfl
  |_=>cases this
 |ptr f b off=>exact RP.bnd_in (show RP g w x (.ptr f b off)from hr) hb
 |v y=>rfl
 |u=>rfl
 |sl m z xs=>rfl
 |fptr cs off=>rfl
 |yld f s=>simp[D.frz1,D.frzP,D.bnd1]at hb;simp[D.frz1,D.frzP,D.in1];omega
 |ref f b off m z=>
  have hb':((D.ref f b off m z).frzP k s.l).bnd1 k=true:=hb
  show((D.ref f b off m z).frzP k s.l).in1 k []=true
  have low:(D.ref f b off m z).bnd1 k=true->(D.ref f b off m z).in1 k []=true:=fun q=>by simp[D.bnd1]at q;simp[D.in1];omega
  simp only[D.frzP]at hb' ⊢
  by_cases e:f=k
  ·rw[if_pos e]at hb' ⊢
   cases hl:lk b s.l with
   |none=>rw[hl]at hb';exact low hb'
   |some cs=>
    rw[hl]at hb'
    simp only at hb' ⊢
    by_cases hall:cs.all D.rf1=true
    ·rw[if_pos hall];split<;>rfl
    ·rw[if_neg hall]at hb' ⊢;exact low hb'
  ·rw[if_neg e]at hb' ⊢;exact low hb'
 |_=>exact hr.elim
theorem frz1_agg {k:Nat} {l:Bx} {d:D} (h:d.aggB=false):(d.frz1 k l).aggB=false∧d.frz2 k l=d.frz1 k l:=by
 cases d with
 |ptr f b off=>
  refine⟨?_,rfl⟩
  simp only[D.frz1,D.frzP]
  split
  ·split
   ·split<;>rfl
   ·rfl
  ·rfl
 |ref f b off n z=>exact⟨frz1_ne h,rfl⟩
 |agg cs=>cases h
 |_=>exact⟨rfl,rfl⟩
theorem RV.frz {k:Nat} {L:Nat->Loc} {x:Value} {d:D} (h:SN g w n a.tmps s) (hk:s.o.length=k) (hr:RV g w L x d) (hb:(d.frz2 k s.l).bnd2 k=true):RV (g.frz k s.l) w L x (d.frz2 k s.l):=by
 rcases agg_or d with⟨ds,rfl⟩|hd
 ·obtain⟨cs,h1,h2,h3⟩:=hr
  refine⟨cs,h1,by simpa using h2,fun c e hc=>?_⟩
  rw[List.getElem?_map]at hc
  obtain⟨e0,q1,q2⟩:=Option.map_eq_some_iff.1 hc
  subst q2
  obtain⟨y,q3,q4⟩:=h3 c e0 q1
  exact⟨y,q3,RC.frz h hk q4 (q4.bnd_in (List.all_eq_true.1 (show(ds.map (D.frz1 k s.l)).all _=true from hb) _ (List.mem_map.2 ⟨e0,List.mem_of_getElem? q1,rfl⟩)))⟩
 ·obtain⟨e1,e2⟩:=frz1_agg (k:=k) (l:=s.l) hd
  rw[RV_ne hd]at hr
  rw[e2]at hb ⊢
  rw[RV_ne e1]
  refine RC.frz h hk hr (hr.bnd_in ?_)
  generalize d.frz1 k s.l=d1 at hb e1
  cases d1<;>first|exact hb|cases e1
theorem RT.frz {k:Nat} {L:Nat->Nat->Loc} {x:Value} {ds:List D} (h:SN g w n a.tmps s) (hk:s.o.length=k) (hr:RT g w L x (mkRes ds)) (hnt:∀d∈ds,d.tupB=false) (hb:(ds.map (D.frz2 k s.l)).all (D.bnd2 k)=true):RT (g.frz k s.l) w L x (mkRes (ds.map (D.frz2 k s.l))):=by
 have all:RT g w L x (.tup ds)->RT (g.frz k s.l) w L x (.tup (ds.map (D.frz2 k s.l))):=fun hr=>by
  obtain⟨vs,h1,h2,h3⟩:=hr
  refine⟨vs,h1,by simpa using h2,fun i d hi=>?_⟩
  rw[List.getElem?_map]at hi
  obtain⟨e0,q1,q2⟩:=Option.map_eq_some_iff.1 hi
  subst q2
  obtain⟨y,q3,q4⟩:=h3 i e0 q1
  exact⟨y,q3,RV.frz h hk q4 (List.all_eq_true.1 hb _ (List.mem_map.2 ⟨e0,List.mem_of_getElem? q1,rfl⟩))⟩
 cases ds with
 |nil=>exact all hr
 |cons d r=>cases r with
  |nil=>
   have hd:=hnt d (by simp)
   have hr':RT g w L x d:=hr
   rw[RT_ne hd]at hr'
   have:=RV.frz h hk hr' (by simpa using hb)
   exact RV.toRT this
  |cons d2 r=>exact all hr
theorem envR_ok {L:Nat->Loc} {k:Nat}:∀{ps:List Nat} {args:List D} {vs:List Value} {e:Env} {tmps:Array Value},args.length=ps.length->vs.length=args.length->(∀p∈ps,p<tmps.size)->args.all (fun d=> !d.tupB)=true->
  (∀(i:Nat) d,args[i]? =some d->∃x L,vs[i]? =some x∧RV g w L x d)->(∀t,RT g w (slotL k t) (tmps.getD t undef) (get t e))->
  ((ps.zip vs).foldl (fun(tmps:Array Value) (q:Nat×Value)=>tmps.setIfInBounds q.1 q.2) tmps).size=tmps.size∧∀t,RT g w (slotL k t) (((ps.zip vs).foldl (fun(tmps:Array Value) (q:Nat×Value)=>tmps.setIfInBounds q.1 q.2) tmps).getD t undef) (get t (envR ps args e))
 |[],args,vs,e,tmps,h1,h2,h3,h4,h5,h6=>by
  cases args with
  |nil=>exact⟨rfl,h6⟩
  |cons d r=>simp at h1
 |p::ps,args,vs,e,tmps,h1,h2,h3,h4,h5,h6=>by
  cases args with
  |nil=>simp at h1
  |cons d r=>cases vs with
   |nil=>simp at h2
   |cons v vs=>
    obtain⟨x,L',hx,hr⟩:=h5 0 d rfl
    simp at hx
    subst hx
    have htup:d.tupB=false:=by simpa using(List.all_eq_true.1 h4 d (by simp))
    have hp:=h3 p (by simp)
    obtain⟨q1,q2⟩:=envR_ok (L:=L) (k:=k) (ps:=ps) (args:=r) (vs:=vs) (e:=(p,d.strip)::e) (tmps:=tmps.setIfInBounds p v) (by simpa using h1) (by simpa using h2) (fun p' hp'=>by simp;exact h3 p' (by simp[hp'])) (by have h4':=h4;simp only[List.all_cons,Bool.and_eq_true]at h4';exact h4'.2) (fun i d' hi=>h5 (i+1) d' (by simpa using hi)) (fun t=>by
     rw[getD_set hp]
     simp only[get]
     by_cases e':t=p
     ·rw[if_pos e',if_pos e',strip_ne htup]
      have:=hr.strip (slotL k t 0)
      exact RV.toRT this
     ·rw[if_neg e',if_neg e'];exact h6 t)
    exact⟨by rw[List.zip_cons_cons,List.foldl_cons,q1];simp,fun t=>by rw[List.zip_cons_cons,List.foldl_cons];exact q2 t⟩
theorem envC_get {ks:List Nat} {caps:List D} (hl:ks.length=caps.length) (t:Nat):get t (envC ks caps)= .u∨∃(c:Nat) (d:D),ks[c]? =some t∧caps[c]? =some d∧get t (envC ks caps)=d.strip:=by
 induction ks generalizing caps with
 |nil=>exact .inl rfl
 |cons q r ih=>cases caps with
  |nil=>simp at hl
  |cons d ds=>
   simp only[envC,get]
   by_cases e:t=q
   ·rw[if_pos e];subst e;exact .inr ⟨0,d,rfl,rfl,rfl⟩
   ·rw[if_neg e]
    rcases ih (caps:=ds) (by simpa using hl)with h|⟨c,d',h1,h2,h3⟩
    ·exact .inl h
    ·exact .inr ⟨c+1,d',by simpa using h1,by simpa using h2,h3⟩
theorem runR_good (hg:Good P call) {F:Fn} {ps:List Nat} {asg:Cd} {rid:Nat} (hm:MRd P rid F ps asg) {f b:Nat} {args:List D} {B B':List Bx} {r:D} (he:runR call F ps asg rid f b args B=some (r,B')):
  args.all (fun d=> !d.tupB)=true∧∀g w l (vs:Array Value),Inv g w->SB g w B->g.bx f b=some l->RL<=b->vs.size=args.length->(∀(i:Nat) d,args[i]? =some d->∃x,vs[i]? =some x∧RV g w (slotL B.length i 0) x d)->
  ∃q:Loop,w.heap[l]? =some (.loop q)∧q.params.size=args.length∧RoundIn (W none) 0 P l q.fn (foldTmps q.params vs q.tmps) q.assign q.body w (Post g w B B' r):=by
 unfold runR at he
 split at he
 ·rename_i rid0 ks caps hrec0
  split at he
  ·rename_i hc
   obtain⟨hrid,hf,hlen,htup⟩:=hc
   subst hrid
   split at he
   ·rename_i s1 hasg
    split at he
    ·rename_i j1 rid1 ks1 caps1 hrec1
     split at he
     ·rename_i x s2 hbody
      split at he
      ·rename_i st2 jm2 rid2 ks2 caps2 hrec2
       injection he with he
       injection he with e1 e2
       refine⟨htup,fun g w l vs hi hsb hl hRL hsz hargs=>?_⟩
       obtain⟨pa,ca,cb,hro,hps,hlt,hma,hmb⟩:=hm
       have hsb0:SB g w (⟨[],[],B⟩:S).B:=frame_sb hsb
       obtain⟨l0,q,st0,j0,rid',ks',caps',y1,y2,y3,y4,y5,y6,y7,y8,y9⟩:=(hsb0.rel f b _ (bx_bxl hrec0)).r hRL
       rw[hl]at y1
       injection y1 with y1
       subst y1
       injection y3 with y3 y3'
       injection y3 with x1 x2 x3 x4
       subst x1 x2 x3 x4 y3'
       rw[hro]at y5
       injection y5 with y5
       injection y5 with z1 y5
       injection y5 with z2 y5
       injection y5 with z3 z4
       refine⟨q,y2,?_,?_⟩
       ·rw[<-z2,<-Array.length_toList,hps,hlen]
       ·have hpz:foldTmps q.params vs q.tmps=(ps.zip vs.toList).foldl (fun(tmps:Array Value) (q:Nat×Value)=>tmps.setIfInBounds q.1 q.2) q.tmps:=by
         rw[<-z2]
         unfold foldTmps
         rw[<-Array.foldl_toList,Array.toList_zip,hps]
        have hE0:∀t,RT g w (slotL B.length t) (q.tmps.getD t undef) (get t (envC ks caps)):=fun t=>by
         rcases envC_get y8 t with h|⟨c,d,h1,h2,h3⟩
         ·rw[h];trivial
         ·rw[h3]
          have h4:=y9 c d t h2 h1
          have:RT g w (fun _ _=>boxL f b c) (q.tmps.getD t undef) d:=RV.toRT (RC.toRV h4)
          exact this.strip _
        obtain⟨hs1,hs2⟩:=envR_ok (L:=fun _=>boxL 0 0 0) (k:=B.length) (ps:=ps) (args:=args) (vs:=vs.toList) (e:=envC ks caps) (tmps:=q.tmps) hlen (by simpa using hsz) (fun p hp=>by rw[<-z1];exact hlt p hp) htup (fun i d hi=>by
         obtain⟨x,h1,h2⟩:=hargs i d hi
         exact⟨x,_,by simpa using h1,h2⟩) hE0
        rw[<-hpz]at hs1 hs2
        have hSN:SN g w F.nt (foldTmps q.params vs q.tmps) ⟨envR ps args (envC ks caps),[],B⟩:=⟨⟨hi,frame_sb hsb,hs2⟩,by rw[hs1,<-z1]⟩
        have hRn:Rnd g (some l) B.length:=fun l' hl'=>by injection hl' with hl';subst hl';exact⟨f,b,hf,hRL,((hsb0.rel f b _ (bx_bxl hrec0)).rm hRL).1,hl⟩
        have key:∀(R:Ending->World->Prop),(∀w3 v,Post g w B B' r (.returned v) w3->R (.returned v) w3)->RoundIn (W none) 0 P l q.fn (foldTmps q.params vs q.tmps) q.assign q.body w R:=by
         intro R hR
         refine roundIn_of_wpIn trivial ?_
         rw[<-z3,<-z4]
         refine code_ok (ro:=some l) (a:={tmps:=foldTmps q.params vs q.tmps,defers:=[]}) hg hma hSN hRn hasg fun a1 w1 g1 k1 k2 k3 k4=>?_
         have hk1:s1.k=B.length:=k3
         have hbx1:g1.bx f b=some l:=k2.bx f b _ hf hl
         obtain⟨l1,q1,st1,j1',rid1',ks1',caps1',u1,u2,u3,u4,u5,u6,u7,u8,u9⟩:=(k1.st.sb.rel f b _ (bx_bxl hrec1)).r hRL
         rw[hbx1]at u1
         injection u1 with u1
         subst u1
         injection u3 with u3 u3'
         injection u3 with x1 x2 x3 x4
         subst x1 x2 x3 x4 u3'
         refine⟨_,run_beginRound u2 u6,?_⟩
         obtain⟨m1,m2⟩:=wrec_ok (st':=1) (j':=j1) k1 hRL hrec1 hbx1 u2 {q1 with state:=.busy} ⟨rfl,rfl,rfl,rfl⟩ rfl u7
         have hk1':(sbx f b (.rcd 1 j1 rid1 ks1::caps1) s1).k=B.length:=(sbx_k ..).trans hk1
         refine code_ok (ro:=some l) hg hmb m1 (by rw[hk1'];exact fun l' hl'=>by injection hl' with hl';subst hl';exact⟨f,b,hf,hRL,((k1.st.sb.rel f b _ (bx_bxl hrec1)).rm hRL).1,hbx1⟩) hbody fun a2 w2 g2 n1 n2 n3 n4=>?_
         have hk2:s2.k=B.length:=n3.trans hk1'
         rw[hk1']at n2
         have hbx2:g2.bx f b=some l:=n2.bx f b _ hf hbx1
         obtain⟨l2,q2,st2',j2',rid2',ks2',caps2',t1,t2,t3,t4,t5,t6,t7,t8,t9⟩:=(n1.st.sb.rel f b _ (bx_bxl hrec2)).r hRL
         rw[hbx2]at t1
         injection t1 with t1
         subst t1
         injection t3 with t3 t3'
         injection t3 with x1 x2 x3 x4
         subst x1 x2 x3 x4 t3'
         have fin:∀(jump:Option Code),jump=jumpOf x.code->(∃v w',(Instr.endRound l jump).run P w2= .ok v w'∧R (.returned v) w'):=by
          intro jump hj
          refine⟨_,_,run_endRound jump t2,hR _ _ ?_⟩
          obtain⟨p1,p2⟩:=wrec_ok (st':=if x.code=0 then 0 else 2) (j':=x.code) n1 hRL hrec2 hbx2 t2 {q2 with state:=if jump.isNone then .ready else .done,pending:=jump} ⟨rfl,rfl,rfl,rfl⟩ (by
           rw[hj];cases x<;>rfl) hj
          generalize hs3:sbx f b (.rcd (if x.code=0 then 0 else 2) x.code rid2 ks2::caps2) s2=s3 at p1 e2
          have hk3:s3.o.length=B.length:=by rw[<-hs3];exact(sbx_k ..).trans hk2
          obtain⟨f1,f2⟩:=frame_end (a:=a2) p1 hk3
          refine⟨.bool jump.isNone,g2.cut B.length [],rfl,f1,by rw[<-e2];exact f2,by rw[<-e2];exact hk3,?_,?_⟩
          ·exact(((show Ext B.length g w g1 w1 from k2).trans (m2 _)).trans n2).trans ((p2 _).trans G.cut_ext)
          ·rw[<-e1,hj]
           cases x<;>rfl
         cases x with
         |nm=>exact fin none rfl
         |rt=>exact fin (some .ret) rfl
         |ex id=>exact fin (some (.exit id)) rfl
        refine key _ fun w3 v h=>h
      ·cases he
     ·cases he
    ·cases he
   ·cases he
  ·cases he
 ·cases he
theorem runF_good {prog:Nat->Option Fn} (hp:MProg P prog) (hg:Good P call):Good P (runF prog call):=by
 intro f ds B r B' he
 unfold runF at he
 split at he
 ·cases he
 ·rename_i F hF
  have hpf:=hp f F hF
  split at he
  ·rename_i hrnd
   rw[hrnd]at hpf
   obtain⟨hlt,fn,hfn,hm⟩:=hpf
   refine⟨fun _=>?_,fun h=>by omega⟩
   rcases hm with hm|hm
   rotate_left
   ·obtain⟨nt,z,rfl,hd⟩:=hm.del
    simp only at he
    split at he
    ·rename_i hc
     refine⟨hc.2,⟨fn,hfn,hm.nr,hm.bd⟩,fun g w vs hi hsb hsz hargs=>?_⟩
     simp only[evC]at he
     split at he
     ·cases he
     ·rename_i x s1 hne h1
      split at h1
      ·rename_i z' xs i j henv
       split at h1
       ·rename_i hq
        obtain⟨rfl,q0,q1,q2⟩:=hq
        injection h1 with h1
        injection h1 with h1 h2
        subst h1 h2
        have hds:ds=[.sl .mu z xs,.v (.int .i64 i),.v (.int .i64 j)]:=by
         rcases ds with _|⟨d0,_|⟨d1,_|⟨d2,_|⟨d3,ds⟩⟩⟩⟩<;>simp[argE]at henv
         obtain⟨rfl,rfl,rfl⟩:=henv
         rfl
        subst hds
        have hr:some (D.sl .mu z (xs.take i.toNat++xs.drop j.toNat),B)=some (r,B'):=he
        injection hr with hr
        injection hr with e1 e2
        subst e1 e2
        obtain⟨x0,a1,a2⟩:=hargs 0 _ rfl
        obtain⟨x1,b1,b2⟩:=hargs 1 _ rfl
        obtain⟨x2,c1,c2⟩:=hargs 2 _ rfl
        have hb2:x1= .int .i64 i:=b2
        have hc2:x2= .int .i64 j:=c2
        subst hb2 hc2
        have hvs:vs= #[x0,.int .i64 i,.int .i64 j]:=by
         refine Array.ext_getElem? fun k=>?_
         match k with
         |0=>exact a1
         |1=>exact b1
         |2=>exact c1
         |k+3=>
          have h9:vs.size=3:=hsz
          rw[Array.getElem?_eq_none (by omega),Array.getElem?_eq_none (by simp)]
        subst hvs
        exact del_good hd q0 q1 q2 hi hsb a2
       ·cases h1
      ·cases h1
     ·cases he
    ·cases he
   obtain⟨c,hbody,hcode⟩:=hm.body
   split at he
   ·rename_i hc
    refine⟨hc.2,⟨fn,hfn,hm.nr,by rw[hbody];rfl⟩,fun g w vs hi hsb hsz hargs=>?_⟩
    have fin:∀(x:Ex) (s1:S),evC call F.body ⟨argE 0 ds,[],B⟩=some (x,s1)->(x= .nm∨x= .rt)->
      ((resL call F.res s1).bind fun a=>let ds:=a.1.map (D.frz2 B.length a.2.l);if ds.all (D.bnd2 B.length)then some (if F.keep then mkRes ds else(mkRes ds).strip,a.2.o)else none)=some (r,B')->CallsIn (W none) 0 P f vs w (Post g w B B' r):=by
     intro x s1 h1 hx he
     obtain⟨p,h2,h3⟩:=Option.bind_eq_some_iff.1 he
     obtain⟨ds',s2⟩:=p
     simp only at h3
     split at h3
     ·rename_i hb
      injection h3 with h3
      injection h3 with e1 e2
      have hk0:(⟨argE 0 ds,[],B⟩:S).k=B.length:=rfl
      refine callsIn_of_wp_marks hfn hbody trivial (code_ok (ro:=none) (a:={tmps:=vs++Array.replicate (fn.ntmps-vs.size) undef,defers:=[]}) (g:=g) hg hcode ⟨⟨hi,frame_sb hsb,fun t=>?_⟩,?_⟩ (fun l hl=>by cases hl) h1 fun a' w' g' q1 q2 q3 q4=>?_)
      ·show RT g w (slotL B.length t) _ (get t (argE 0 ds))
       rw[argE_get]
       simp only[Nat.zero_le,if_true,Nat.sub_zero]
       cases hd:ds[t]? with
       |none=>exact trivial
       |some d=>
        obtain⟨x,r1,r2⟩:=hargs t d hd
        have hxt:(vs++Array.replicate (fn.ntmps-vs.size) undef).getD t undef=x:=by
         have hlt:t<vs.size:=by rw[hsz];exact getq_lt hd
         rw[Array.getD_eq_getD_getElem?,Array.getElem?_append_left hlt,r1];rfl
        rw[hxt]
        exact r2.toRT
      ·have h9:=hc.1
       have h10:=hm.nt
       simp;omega
      ·-- the results
       obtain⟨m,hm1,hnd,hmm⟩:=q4
       rw[List.append_nil]at hm1
       have hl:LeavesInM (W none) 0 P fn a'.tmps (Post g w B B' r) a'.defers .returning w':=by
        rw[hm1]
        refine leaves_ok (k:=B.length) (g0:=g) (w0:=w) m q1 hnd hmm q2 fun g3 w3 z1 z2=>?_
        have hnt:∀d∈ds',d.tupB=false:=fun d hd=>by
         have:=List.all_eq_true.1 hb _ (List.mem_map.2 ⟨d,hd,rfl⟩)
         cases d with
         |tup es=>cases this
         |_=>rfl
        obtain⟨v,g2,r1,r2,r3,r4,r5⟩:=results_ok (fn:=fn) (a:=a') hm.res z1 h2 hnt
        have hk2:s2.o.length=B.length:=by have:s2.k=B.length:=r5.trans (q3.trans hk0);exact this
        refine⟨v,r1,?_⟩
        obtain⟨f1,f2,f3,f4⟩:=frame_frz (a:=a') r2 hk2
        refine⟨v,g2.frz B.length s2.l,rfl,f1,by rw[<-e2];exact f2,by rw[<-e2];exact hk2,(z2.trans (by rw[q3]at r4;exact r4)).trans f3,?_⟩
        have h11:=RT.frz (a:=a') r2 hk2 r3 hnt hb
        cases hkeep:F.keep with
        |true=>rw[hkeep]at e1;simp only[if_true]at e1;rw[<-e1];exact h11
        |false=>rw[hkeep]at e1;simp only[Bool.false_eq_true,if_false]at e1;rw[<-e1];exact h11.strip _
       rcases hx with rfl|rfl
       ·exact hl
       ·exact hl
     ·cases h3
    split at he
    ·cases he
    ·rename_i x s1 hne h1
     exact fin x s1 h1 (by cases x with|nm=>exact .inl rfl|rt=>exact .inr rfl|ex id=>exact(hne id rfl).elim) he
    ·cases he
   ·cases he
  ·rename_i ps asg hrnd
   rw[hrnd]at hpf
   obtain⟨hge,hm⟩:=hpf
   split at he
   ·rename_i f0 b0 args
    refine⟨fun h=>by omega,fun _ f1 b1 args1 hds=>?_⟩
    injection hds with h1 h2
    injection h1 with h1 h3
    subst h1 h2 h3
    exact runR_good hg hm he
   ·cases he
end
theorem EF_good {prog:Nat->Option Fn} (hp:MProg P prog):Good P (EF prog):=by
 have key:∀f ds B r,EFr prog f ds B r->∀c:Caller,(∀f' ds' B' r',c f' ds' B'=some r'->f'=f∧ds'=ds∧B'=B∧r'=r)->Good P c:=by
  intro f ds B r h
  induction h with
  | @mk f ds B r c hc he ih=>
   have hg:Good P c:=fun f1 ds1 B1 r1 B1' h1=>by
    classical
    exact ih f1 ds1 B1 (r1,B1') h1 (fun f' ds' B'=>if f'=f1∧ds'=ds1∧B'=B1 then some (r1,B1')else none) (fun f' ds' B' r' h'=>by
     split at h'
     ·rename_i e;injection h' with h';exact⟨e.1,e.2.1,e.2.2,h'.symm⟩
     ·cases h') f1 ds1 B1 r1 B1' (by simp)
   intro c' hc' f1 ds1 B1 r1 B1' h1
   obtain⟨rfl,rfl,rfl,rfl⟩:=hc' _ _ _ _ h1
   exact runF_good hp hg _ _ _ _ _ he
 intro f ds B r B' he
 classical
 exact key f ds B (r,B') (EF_r he) (fun f' ds' B1=>if f'=f∧ds'=ds∧B1=B then some (r,B')else none) (fun f' ds' B1 r' h'=>by
  split at h'
  ·rename_i e;injection h' with h';exact⟨e.1,e.2.1,e.2.2,h'.symm⟩
  ·cases h') f ds B r B' (by simp)
end Go.Proofs.Ytfopbiiffiickaa.Ev
namespace Go.Proofs.Ytfopbiiffiickaa.Ev
open Go
def CLe (c c':Caller):Prop:=∀f ds B r,c f ds B=some r->c' f ds B=some r
theorem lim_ex {α:Type} {f:Nat->Option α} {r:α} (h:lim f=some r):∃n,f n=some r:=by
 unfold lim at h
 split at h
 ·rename_i hx
  injection h with h
  exact⟨hx.choose,by rw[hx.choose_spec.choose_spec,h]⟩
 ·cases h
theorem mono_le {α:Type} {f:Nat->Option α} (hm:∀n r,f n=some r->f (n+1)=some r) {n m:Nat} (h:n<=m) {r:α} (hr:f n=some r):f m=some r:=by
 induction h with
 |refl=>exact hr
 |step _ ih=>exact hm _ _ ih
theorem lim_eq {α:Type} {f:Nat->Option α} (hm:∀n r,f n=some r->f (n+1)=some r) {n:Nat} {r:α} (h:f n=some r):lim f=some r:=by
 have hx:∃n r,f n=some r:=⟨n,r,h⟩
 unfold lim
 rw[dif_pos hx]
 have h2:=hx.choose_spec.choose_spec
 generalize hx.choose_spec.choose=r2 at h2
 generalize hx.choose=n2 at h2
 have a:=mono_le hm (Nat.le_max_left n n2) h
 have b:=mono_le hm (Nat.le_max_right n n2) h2
 rw[a]at b
 exact b.symm
theorem doCall_mono {c c':Caller} (h:CLe c c') {f:Nat} {ds:List D} {s:S} {r:D×S} (he:doCall c f ds s=some r):doCall c' f ds s=some r:=by
 unfold doCall at he ⊢
 cases hq:c f ds (s.o++[s.l])with
 |none=>rw[hq]at he;cases he
 |some p=>rw[hq]at he;rw[h _ _ _ _ hq];exact he
theorem evOp_mono {c c':Caller} (h:CLe c c') {t:Option Nat} {p:Op} {s:S} {r:D×S} (he:evOp c t p s=some r):evOp c' t p s=some r:=by
 cases p with
 |call f args=>exact doCall_mono h he
 |calf f args=>
  simp only[evOp]at he ⊢
  generalize hq:doCall c f (rdL args s).1 (rdL args s).2=q at he
  cases q with
  |none=>cases he
  |some p=>rw[doCall_mono h hq];exact he
 |cv f args=>
  simp only[evOp]at he ⊢
  split at he
  ·exact doCall_mono h he
  ·split at he
   ·exact doCall_mono h he
   ·cases he
  ·cases he
 |pcal f args=>
  simp only[evOp]at he ⊢
  split at he
  ·split at he
   ·rename_i hd _ hq
    rw[h _ _ _ _ hq];exact he
   ·cases he
  ·cases he
 |_=>exact he
theorem evR_mono {c c':Caller} (h:CLe c c') {x:Opd} {b rid:Nat} {ks:List Nat} {s:S} {r:Ex×S} (he:evR c x b rid ks s=some r):evR c' x b rid ks s=some r:=by
 unfold evR at he ⊢
 split at he
 ·split at he
  ·rename_i hc
   rw[if_pos hc]
   split at he
   ·rename_i hd
    rw[doCall_mono h hd]
    exact he
   ·cases he
  ·cases he
 ·cases he
theorem qv_mono {c c':Caller} (h:CLe c c') {n f:Nat} {ds:List D} {d:D} (he:qv c n f ds=some d):qv c' n f ds=some d:=qv_of fun B hB=>h _ _ _ _ (qv_some he B hB)
theorem inst_mono {c c':Caller} (h:CLe c c') {t:Option Nat} {p:Op} {s:S} {i:Ins} (he:inst c t p s=some i):inst c' t p s=some i:=by
 unfold inst at he ⊢
 split at he
 ·exact he
 ·exact he
 ·exact he
 ·exact he
 ·exact he
 ·split at he
  ·rename_i hc
   rw[if_pos hc]
   obtain⟨d,q1,q2⟩:=Option.map_eq_some_iff.1 he
   rw[qv_mono h q1]
   exact congrArg some q2
  ·cases he
 ·split at he
  ·rename_i hc
   rw[if_pos hc]
   obtain⟨d,q1,q2⟩:=Option.map_eq_some_iff.1 he
   rw[qv_mono h q1]
   exact congrArg some q2
  ·cases he
 ·split at he
  ·rename_i hc
   rw[if_pos hc]
   split at he
   ·obtain⟨d,q1,q2⟩:=Option.map_eq_some_iff.1 he
    simp only[qv_mono h q1]
    exact congrArg some q2
   ·cases he
  ·cases he
 ·split at he
  ·rename_i hc
   rw[if_pos hc]
   obtain⟨r,q1,q2⟩:=Option.map_eq_some_iff.1 he
   rw[evOp_mono h q1]
   exact congrArg some q2
  ·cases he
theorem instS_mono {c c':Caller} (h:CLe c c') {p:Stp} {s:S} {i:Ins} (he:instS c p s=some i):instS c' p s=some i:=by
 unfold instS at he ⊢
 split at he
 ·exact inst_mono h he
 ·split at he
  ·split at he
   ·rename_i e;rw[if_pos e];exact inst_mono h he
   ·rename_i e;rw[if_neg e];exact he
  ·exact he
  ·cases he
theorem evDr_mono {c c':Caller} (h:CLe c c') {l:List (Stp×List Nat)}:∀{acts:List Ba} {s s':S},evDr c l acts s=some s'->evDr c' l acts s=some s':=by
 induction l with
 |nil=>intro acts s s' he;exact he
 |cons p l ih=>
  intro acts s s' he
  obtain⟨p,un⟩:=p
  simp only[evDr]at he ⊢
  split at he
  ·rename_i i hi
   rw[instS_mono h hi]
   simp only
   split at he
   ·rename_i hu;rw[if_pos hu];exact ih he
   ·cases he
  ·cases he
theorem evStp_mono {c c':Caller} (h:CLe c c') {p:Stp} {s s':S} (he:evStp c p s=some s'):evStp c' p s=some s':=by
 have one:∀r:S,(evOp c p.t p.op s).map (fun r=>putO p.t r.1 r.2)=some r->(evOp c' p.t p.op s).map (fun r=>putO p.t r.1 r.2)=some r:=by
  intro r hr
  obtain⟨q,h1,h2⟩:=Option.map_eq_some_iff.1 hr
  rw[evOp_mono h h1]
  exact congrArg some h2
 unfold evStp at he ⊢
 split at he
 ·rename_i hg;exact one _ he
 ·rename_i q want hg
  split at he
  ·rename_i b hb
   by_cases e:b=want
   ·rw[if_pos e]at he ⊢;exact one _ he
   ·rw[if_neg e]at he ⊢;exact he
  ·exact he
  ·cases he
theorem evOps_mono {c c':Caller} (h:CLe c c') {l:List Stp} {s s':S} (he:evOps c l s=some s'):evOps c' l s=some s':=by
 induction l generalizing s with
 |nil=>exact he
 |cons p r ih=>
  simp only[evOps]at he ⊢
  obtain⟨s1,h1,h2⟩:=Option.bind_eq_some_iff.1 he
  rw[evStp_mono h h1]
  exact ih h2
theorem iter_mono {b b':S->Option (Ex×S)} {cr:S->Option S} (h:∀s r,b s=some r->b' s=some r) {n m:Nat} (hn:n<=m) {s:S} {r:Ex×S} (he:iter b cr n s=some r):iter b' cr m s=some r:=by
 induction n generalizing s m with
 |zero=>cases he
 |succ n ih=>
  obtain⟨m,rfl⟩:∃k,m=k+1:=⟨m-1,by omega⟩
  simp only[iter]at he ⊢
  cases hc:cr s with
  |none=>rw[hc]at he;cases he
  |some s1=>
   rw[hc]at he
   simp only at he ⊢
   cases hb:b s1 with
   |none=>rw[hb]at he;cases he
   |some p=>
    rw[hb]at he
    rw[h _ _ hb]
    obtain⟨x,s2⟩:=p
    cases x with
    |nm=>exact ih (by omega) he
    |ex id=>exact he
    |rt=>exact he
theorem iter_step {b:S->Option (Ex×S)} {cr:S->Option S} {s:S} (n:Nat) (r:Ex×S) (h:iter b cr n s=some r):iter b cr (n+1) s=some r:=iter_mono (fun _ _ h=>h) (Nat.le_succ n) h
theorem AllR_mono {c c':Caller} (h:CLe c c') {l:List (Stp×List Nat)}:∀{n:Nat} {done:List Nat} {s s':S},AllR c l n done s s'->AllR c' l n done s s'
 |0,done,s,s',he=>he
 |n+1,done,s,s',he=>fun i p ds hp hr=>by
  obtain⟨s1,h1,h2⟩:=he i p ds hp hr
  exact⟨s1,evStp_mono h h1,AllR_mono h h2⟩
theorem evC_mono {c c':Caller} (h:CLe c c') {p:Cd}:∀{s:S} {r:Ex×S},evC c p s=some r->evC c' p s=some r:=by
 induction p with
 |sk=>intro s r he;exact he
 |ex id=>intro s r he;exact he
 |rt=>intro s r he;exact he
 |rg l=>
  intro s r he
  simp only[evC]at he ⊢
  obtain⟨s1,h1,h2⟩:=Option.map_eq_some_iff.1 he
  rw[evOps_mono h h1];exact congrArg some h2
 |sq a b iha ihb=>
  intro s r he
  simp only[evC]at he ⊢
  cases ha:evC c a s with
  |none=>rw[ha]at he;cases he
  |some p=>
   rw[ha]at he
   rw[iha ha]
   obtain⟨x,s2⟩:=p
   cases x with
   |nm=>exact ihb he
   |ex id=>exact he
   |rt=>exact he
 |ff q a b iha ihb=>
  intro s r he
  simp only[evC]at he ⊢
  split at he
  ·rename_i v hv
   by_cases e:v=true
   ·subst e;simp only[if_true]at he ⊢;exact iha he
   ·simp only[if_neg e]at he ⊢;exact ihb he
  ·cases he
 |bl id a iha=>
  intro s r he
  simp only[evC]at he ⊢
  cases ha:evC c a s with
  |none=>rw[ha]at he;cases he
  |some p=>rw[ha]at he;rw[iha ha];exact he
 |rf x b rid ks=>intro s r he;exact evR_mono h he
 |dead=>intro s r he;cases he
 |del z=>intro s r he;exact he
 |dra l=>
  intro s r he
  simp only[evC]at he ⊢
  split at he
  ·rename_i s1 h1
   split at he
   ·rename_i hR
    rw[evOps_mono h h1]
    simp only
    rw[if_pos (AllR_mono h hR)];exact he
   ·cases he
  ·cases he
 |gs l a iha=>
  intro s r he
  simp only[evC]at he ⊢
  cases hl:evG l s with
  |none=>rw[hl]at he;cases he
  |some s1=>rw[hl]at he;exact iha he
 |dr l=>
  intro s r he
  simp only[evC]at he ⊢
  obtain⟨s1,h1,h2⟩:=Option.map_eq_some_iff.1 he
  rw[evDr_mono h h1];exact congrArg some h2
 |lp ks bs a iha=>
  intro s r he
  simp only[evC]at he ⊢
  obtain⟨n,hn⟩:=lim_ex he
  exact lim_eq (fun n r=>iter_step n r) (iter_mono (fun s r=>iha) (Nat.le_refl n) hn)
section
variable {C:Nat->Caller} {E:Caller}
theorem res1_same {c c':Caller} (r:Res) (s:S):res1 c r s=res1 c' r s:=by cases r<;>rfl
theorem resL_same {c c':Caller} (l:List Res):∀s:S,resL c l s=resL c' l s:=by
 induction l with
 |nil=>intro s;rfl
 |cons r l ih=>intro s;simp only[resL,res1_same (c:=c) (c':=c'),ih]
theorem runR_of {c c':Caller} (h:∀p s r,evC c p s=some r->evC c' p s=some r) {F:Fn} {ps:List Nat} {asg:Cd} {rid f b:Nat} {args:List D} {B:List Bx} {r:D×List Bx} (he:runR c F ps asg rid f b args B=some r):runR c' F ps asg rid f b args B=some r:=by
 unfold runR at he ⊢
 split at he
 ·split at he
  ·rename_i hc
   rw[if_pos hc]
   split at he
   ·rename_i s1 h1
    rw[h _ _ _ h1]
    simp only
    split at he
    ·rename_i h2
     split at he
     ·rename_i h3
      rw[h _ _ _ h3]
      exact he
     ·cases he
    ·cases he
   ·cases he
  ·cases he
 ·cases he
theorem runF_of {prog:Nat->Option Fn} {c c':Caller} {f:Nat} {ds:List D} {B:List Bx} {r:D×List Bx} (h:∀p s r,evC c p s=some r->evC c' p s=some r) (he:runF prog c f ds B=some r):runF prog c' f ds B=some r:=by
 unfold runF at he ⊢
 cases hp:prog f with
 |none=>rw[hp]at he;cases he
 |some F=>
  rw[hp]at he
  simp only at he ⊢
  split at he
  ·rename_i hrn
   split at he
   ·rename_i hc
    rw[if_pos hc]
    cases hb:evC c F.body ⟨argE 0 ds,[],B⟩with
    |none=>rw[hb]at he;cases he
    |some p=>
     rw[hb]at he
     rw[h _ _ _ hb]
     obtain⟨x,s2⟩:=p
     cases x with
     |ex id=>exact he
     |nm=>simp only[resL_same (c:=c) (c':=c')]at he;exact he
     |rt=>simp only[resL_same (c:=c) (c':=c')]at he;exact he
   ·cases he
  ·rename_i ps asg hrn
   split at he
   ·exact runR_of h he
   ·cases he
end
theorem runF_mono {prog:Nat->Option Fn} {c c':Caller} (h:CLe c c'):CLe (runF prog c) (runF prog c'):=fun f ds B r he=>runF_of (fun p s r hr=>evC_mono h hr) he
theorem EFr_fun {prog:Nat->Option Fn} {f:Nat} {ds:List D} {B:List Bx} {r:D×List Bx} (h:EFr prog f ds B r):∀r',EFr prog f ds B r'->r=r':=by
 induction h with
 | @mk f ds B r c hc he ih=>
  intro r' h'
  cases h' with
  |mk c' hc' he'=>
   let u:Caller:=fun f ds B=>match c f ds B with
    |some r=>some r
    |none=>c' f ds B
   have h1:CLe c u:=fun f ds B r hr=>by simp only[u,hr]
   have h2:CLe c' u:=fun f ds B r hr=>by
    simp only[u]
    cases hq:c f ds B with
    |none=>exact hr
    |some x=>simp only;rw[ih _ _ _ _ hq r (hc' _ _ _ _ hr)]
   have a:=runF_mono (prog:=prog) h1 _ _ _ _ he
   have b:=runF_mono (prog:=prog) h2 _ _ _ _ he'
   rw[a]at b
   injection b
theorem EF_of {prog:Nat->Option Fn} {f:Nat} {ds:List D} {B:List Bx} {r:D×List Bx} (h:EFr prog f ds B r):EF prog f ds B=some r:=by
 have hx:∃r,EFr prog f ds B r:=⟨r,h⟩
 unfold EF
 rw[dif_pos hx,EFr_fun hx.choose_spec r h]
theorem EF_eq (prog:Nat->Option Fn) (f:Nat) (ds:List D) (B:List Bx):EF prog f ds B=runF prog (EF prog) f ds B:=by
 have a:∀r,EF prog f ds B=some r->runF prog (EF prog) f ds B=some r:=by
  intro r h
  cases EF_r h with
  |mk c hc he=>exact runF_mono (fun f ds B r hr=>EF_of (hc _ _ _ _ hr)) _ _ _ _ he
 have b:∀r,runF prog (EF prog) f ds B=some r->EF prog f ds B=some r:=fun r h=>EF_of (.mk (EF prog) (fun _ _ _ _ h=>EF_r h) h)
 cases h:EF prog f ds B with
 |some r=>exact(a r h).symm
 |none=>cases h':runF prog (EF prog) f ds B with
  |none=>rfl
  |some r=>rw[b r h']at h;cases h
theorem evC_lp (c:Caller) (ks bs:List Nat) (a:Cd) (s:S):evC c (.lp ks bs a) s=(match carry ks bs s with
  |none=>none
  |some s1=>match evC c a s1 with
   |none=>none
   |some (.nm,s2)=>evC c (.lp ks bs a) s2
   |some (x,s2)=>some (x,s2)):=by
 have hm:∀(s:S) n r,iter (evC c a) (carry ks bs) n s=some r->iter (evC c a) (carry ks bs) (n+1) s=some r:=fun s n r=>iter_step n r
 have e:∀s,evC c (.lp ks bs a) s=lim fun n=>iter (evC c a) (carry ks bs) n s:=fun s=>rfl
 have a1:∀r,evC c (.lp ks bs a) s=some r->(match carry ks bs s with
  |none=>none
  |some s1=>match evC c a s1 with
   |none=>none
   |some (.nm,s2)=>evC c (.lp ks bs a) s2
   |some (x,s2)=>some (x,s2))=some r:=by
  intro r h
  rw[e]at h
  obtain⟨n,hn⟩:=lim_ex h
  cases n with
  |zero=>cases hn
  |succ n=>
   simp only[iter]at hn
   cases hc:carry ks bs s with
   |none=>rw[hc]at hn;cases hn
   |some s1=>
    rw[hc]at hn
    simp only at hn ⊢
    cases hb:evC c a s1 with
    |none=>rw[hb]at hn;cases hn
    |some p=>
     rw[hb]at hn
     obtain⟨x,s2⟩:=p
     cases x with
     |nm=>simp only at hn ⊢;rw[e];exact lim_eq (hm s2) hn
     |ex id=>exact hn
     |rt=>exact hn
 have b1:∀r,(match carry ks bs s with
  |none=>none
  |some s1=>match evC c a s1 with
   |none=>none
   |some (.nm,s2)=>evC c (.lp ks bs a) s2
   |some (x,s2)=>some (x,s2))=some r->evC c (.lp ks bs a) s=some r:=by
  intro r h
  cases hc:carry ks bs s with
  |none=>rw[hc]at h;cases h
  |some s1=>
   rw[hc]at h
   simp only at h
   cases hb:evC c a s1 with
   |none=>rw[hb]at h;cases h
   |some p=>
    rw[hb]at h
    obtain⟨x,s2⟩:=p
    have fin:∀n,iter (evC c a) (carry ks bs) (n+1) s=some r->evC c (.lp ks bs a) s=some r:=fun n hn=>by rw[e];exact lim_eq (hm s) hn
    cases x with
    |nm=>
     simp only at h
     rw[e]at h
     obtain⟨n,hn⟩:=lim_ex h
     exact fin n (by simp only[iter,hc,hb];exact hn)
    |ex id=>exact fin 0 (by simp only[iter,hc,hb];exact h)
    |rt=>exact fin 0 (by simp only[iter,hc,hb];exact h)
 cases h:evC c (.lp ks bs a) s with
 |some r=>exact(a1 r h).symm
 |none=>
  generalize hR:(match carry ks bs s with
   |none=>none
   |some s1=>match evC c a s1 with
    |none=>none
    |some (.nm,s2)=>evC c (.lp ks bs a) s2
    |some (x,s2)=>some (x,s2))=R
  cases R with
  |none=>rfl
  |some r=>rw[b1 r hR]at h;cases h
end Go.Proofs.Ytfopbiiffiickaa.Ev
namespace Go.Proofs.Ytfopbiiffiickaa.Ev
open Go
def vEq:Value->Value->Bool
 | .int k a,.int k' b=>k==k'&&a==b
 | .bool a,.bool b=>a==b
 | .string a,.string b=>a.data.toList==b.data.toList
 | .slice none 0 0,.slice none 0 0=>true
 | .pointer none,.pointer none=>true
 | .map none,.map none=>true
 | .nilFunc,.nilFunc=>true
 | .nilIface,.nilIface=>true
 |_,_=>false
theorem vEq_ok {a b:Value} (h:vEq a b=true):a=b:=by
 unfold vEq at h
 split at h<;>first|(cases h;done)|rfl|skip
 ·simp only[Bool.and_eq_true,beq_iff_eq]at h;rw[h.1,h.2]
 ·rw[beq_iff_eq.1 h]
 ·rename_i a b
  have:=beq_iff_eq.1 h
  obtain⟨x⟩:=a
  obtain⟨y⟩:=b
  simp only at this
  rw[show x=y from Array.ext' this]
def okD:Operand->Opd->Bool
 | .tmp n,.t m=>n==m
 | .tmp n,.m m=>n==m
 | .const x,.c y=>vEq x y
 | .const x,.cn=>vEq x (.slice none 0 0)
 | .func n,.f m=>n==m&&Nat.blt n RL
 |_,_=>false
theorem okD_ok {x:Operand} {y:Opd} (h:okD x y=true):MOpd x y:=by
 unfold okD at h
 split at h
 ·rw[beq_iff_eq.1 h];exact .t _
 ·rw[beq_iff_eq.1 h];exact .m _
 ·rw[vEq_ok h];exact .c _
 ·rw[vEq_ok h];exact .cn
 ·simp only[Bool.and_eq_true,beq_iff_eq,Nat.blt_eq]at h;rw[h.1];exact .f _ (by rw[<-h.1];exact h.2)
 ·cases h
def okDs:List Operand->List Opd->Bool
 |[],[]=>true
 |x::r,y::r'=>okD x y&&okDs r r'
 |_,_=>false
theorem okDs_ok:∀{xs:List Operand} {ys:List Opd},okDs xs ys=true->xs.length=ys.length∧∀(i:Nat) x y,xs[i]? =some x->ys[i]? =some y->MOpd x y
 |[],[],_=>⟨rfl,fun i x y h=>by simp at h⟩
 |x::r,y::r',h=>by
  simp only[okDs,Bool.and_eq_true]at h
  obtain⟨h1,h2⟩:=okDs_ok h.2
  refine⟨by simp[h1],fun i a b ha hb=>?_⟩
  cases i with
  |zero=>simp at ha hb;subst ha hb;exact okD_ok h.1
  |succ i=>exact h2 i a b (by simpa using ha) (by simpa using hb)
 |[],_::_,h=>by cases h
 |_::_,[],h=>by cases h
theorem okA_ok {xs:Array Operand} {ys:List Opd} (h:okDs xs.toList ys=true):MArgs xs ys:=by
 obtain⟨h1,h2⟩:=okDs_ok h
 have:=MArgs.mk h1 h2
 rwa[Array.toArray_toList]at this
def okO:Option Operand->Option Opd->Bool
 |none,none=>true
 |some x,some y=>okD x y
 |_,_=>false
theorem okO_ok {x:Option Operand} {y:Option Opd} (h:okO x y=true):MOpt x y:=by
 unfold okO at h
 split at h
 ·exact .n
 ·exact .s (okD_ok h)
 ·cases h
variable (P:Program)
def okSz (t:TypeId) (q:Option Nat):Bool:=match P.underlying t with
 |some d=>match q with
  |none=> !aggT d
  |some n=>aggT d&&(match P.info? t with|some i=>i.size==n|none=>false)
 |none=>false
theorem okSz_ok {t:TypeId} {q:Option Nat} (h:okSz P t q=true):Sz P t q:=by
 unfold okSz at h
 split at h
 ·rename_i d hd
  cases q with
  |none=>exact⟨d,hd,by simpa using h⟩
  |some n=>
   simp only[Bool.and_eq_true]at h
   obtain⟨h1,h2⟩:=h
   split at h2
   ·rename_i i hi
    exact⟨d,i,hd,h1,hi,beq_iff_eq.1 h2⟩
   ·cases h2
 ·cases h
def okB:BinOp->Bop->Bool
 | .add,.add| .sub,.sub| .mul,.mul| .quo,.quo| .rem,.rem| .and,.and| .or,.or| .xor,.xor| .andNot,.andNot| .shl,.shl| .shr,.shr
 | .eql,.eql| .neq,.neq| .lss,.lss| .leq,.leq| .gtr,.gtr| .geq,.geq=>true
 |_,_=>false
theorem okB_ok {o:BinOp} {p:Bop} (h:okB o p=true):MB o p:=by
 cases o<;>cases p<;>first|trivial|cases h
def okE (t:TypeId) (f:TypeId->TypeInfo->Bool):Bool:=match P.underlying t with
 |some (.slice e)=>match P.info? e with
  |some i=>f e i
  |none=>false
 |_=>false
theorem okE_ok {t:TypeId} {f:TypeId->TypeInfo->Bool} (h:okE P t f=true):∃e i,P.underlying t=some (.slice e)∧P.info? e=some i∧f e i=true:=by
 unfold okE at h
 split at h
 ·rename_i e he
  split at h
  ·rename_i i hi;exact⟨e,i,he,hi,h⟩
  ·cases h
 ·cases h
def okZ (z:Nat) (by_:Option Nat) (e:TypeId) (i:TypeInfo):Bool:=i.size==z&&(match i.zero with|some v=>v.cells.size==z|none=>false)&&decide (0<z)&&(match by_ with|some b=>i.bytes==b&&decide (1<=b)|none=>true)
theorem okZ_ok {z:Nat} {by_:Option Nat} {e:TypeId} {i:TypeInfo} (h:okZ z by_ e i=true):i.size=z∧(∃zv,i.zero=some zv∧zv.cells.size=z)∧0<z∧∀b,by_=some b->i.bytes=b∧1<=b:=by
 simp only[okZ,Bool.and_eq_true,beq_iff_eq,decide_eq_true_eq]at h
 obtain⟨⟨⟨h1,h2⟩,h3⟩,h4⟩:=h
 refine⟨h1,?_,h3,fun b hb=>?_⟩
 ·split at h2
  ·rename_i v hv;exact⟨v,hv,beq_iff_eq.1 h2⟩
  ·cases h2
 ·subst hb;simp only[Bool.and_eq_true,beq_iff_eq,decide_eq_true_eq]at h4;exact h4
def okCells (z:List Value) (v:Value):Bool:=z.length==v.cells.toList.length&&(z.zip v.cells.toList).all fun p=>vEq p.1 p.2
theorem okCells_ok {z:List Value} {v:Value} (h:okCells z v=true):v.cells.toList=z:=by
 simp only[okCells,Bool.and_eq_true,beq_iff_eq]at h
 generalize v.cells.toList=l at h
 obtain⟨h1,h2⟩:=h
 induction z generalizing l with
 |nil=>exact List.eq_nil_of_length_eq_zero (by simpa using h1.symm)
 |cons x z ih=>cases l with
  |nil=>simp at h1
  |cons y l=>
   simp only[List.zip_cons_cons,List.all_cons,Bool.and_eq_true]at h2
   rw[vEq_ok h2.1,ih l (by simpa using h1) h2.2]
def okParts (fs:Array Field):List (Nat×Operand)->List (Nat×Nat×Opd)->Bool
 |[],[]=>true
 |(f,x)::r,(off,sz,y)::r'=>okD x y&&(match fs[f]? with|some fd=>fd.offset==off&&(match P.info? fd.type with|some i=>i.size==sz|none=>false)|none=>false)&&okParts fs r r'
 |_,_=>false
theorem okParts_ok {fs:Array Field}:∀{ps:List (Nat×Operand)} {ps':List (Nat×Nat×Opd)},okParts P fs ps ps'=true->ps.length=ps'.length∧∀(j:Nat) f x off sz y,ps[j]? =some (f,x)->ps'[j]? =some (off,sz,y)->MOpd x y∧∃(fd:Field) (fi:TypeInfo),fs[f]? =some fd∧fd.offset=off∧P.info? fd.type=some fi∧fi.size=sz
 |[],[],_=>⟨rfl,fun j f x off sz y h=>by simp at h⟩
 |(f,x)::r,(off,sz,y)::r',h=>by
  simp only[okParts,Bool.and_eq_true]at h
  obtain⟨⟨h1,h2⟩,h3⟩:=h
  obtain⟨k1,k2⟩:=okParts_ok h3
  refine⟨by simp[k1],fun j f' x' off' sz' y' ha hb=>?_⟩
  cases j with
  |zero=>
   simp at ha hb
   obtain⟨rfl,rfl⟩:=ha
   obtain⟨rfl,rfl,rfl⟩:=hb
   refine⟨okD_ok h1,?_⟩
   split at h2
   ·rename_i fd hfd
    simp only[Bool.and_eq_true,beq_iff_eq]at h2
    split at h2
    ·rename_i i hi;exact⟨fd,i,hfd,h2.1,hi,beq_iff_eq.1 h2.2⟩
    ·cases h2.2
   ·cases h2
  |succ j=>exact k2 j f' x' off' sz' y' (by simpa using ha) (by simpa using hb)
 |[],_::_,h=>by cases h
 |_::_,[],h=>by cases h
def zcEq:D->Value->Bool
 | .v x,y=>vEq x y&& !(vEq y (.slice none 0 0))
 | .sl .nl 0 [],y=>vEq y (.slice none 0 0)
 |_,_=>false
theorem zcEq_ok {d:D} {y:Value} (h:zcEq d y=true):d=zc y:=by
 unfold zcEq at h
 split at h
 ·simp only[Bool.and_eq_true,Bool.not_eq_true']at h
  rw[vEq_ok h.1]
  unfold zc
  split
  ·exact absurd h.2 (by simp[vEq])
  ·rfl
 ·rw[vEq_ok h];rfl
 ·cases h
def zcsEq:List D->List Value->Bool
 |[],[]=>true
 |d::r,v::r'=>zcEq d v&&zcsEq r r'
 |_,_=>false
theorem zcsEq_ok:∀{ds:List D} {vs:List Value},zcsEq ds vs=true->ds=vs.map zc
 |[],[],_=>rfl
 |d::r,v::r',h=>by
  simp only[zcsEq,Bool.and_eq_true]at h
  rw[zcEq_ok h.1,zcsEq_ok h.2];rfl
 |[],_::_,h=>by cases h
 |_::_,[],h=>by cases h
def okPl:Nat->List Field->List Value->Bool
 |_,[],[]=>true
 | j, f :: fs, z :: zs => f.offset == j && !(f.name == "_") && (match P.underlying f.type with | some d => plainT d z | none => false) && okPl (j + 1) fs zs
 |_,_,_=>false
theorem okPl_ok:∀{j:Nat} {fs:List Field} {zs:List Value},okPl P j fs zs=true->PlainF P j fs zs
 |j,[],[],_=>.nil
 |j,f::fs,z::zs,h=>by
  simp only[okPl,Bool.and_eq_true,beq_iff_eq,Bool.not_eq_true']at h
  obtain⟨⟨⟨h1,h2⟩,h3⟩,h4⟩:=h
  split at h3
  ·rename_i d hd;exact .cons h1 h2 hd h3 (okPl_ok h4)
  ·cases h3
 |_,[],_::_,h=>by cases h
 |_,_::_,[],h=>by cases h
def okIdK (k:TypeId):Bool:=match P.underlying k with
 |some (.struct fs)=> !P.stoodInHeld k&&okPl P 0 fs.toList [.int .i64 0,.int .u32 0]
 |_=>false
theorem okIdK_ok {k:TypeId} (h:okIdK P k=true):IdKey P k:=by
 unfold okIdK at h
 split at h
 ·rename_i fs hfs
  simp only[Bool.and_eq_true,Bool.not_eq_true']at h
  exact⟨fs,hfs,h.1,okPl_ok P h.2⟩
 ·cases h
def okMap (t:TypeId):Bool:=match P.underlying t with
 |some (.map k e)=>okIdK P k&&(match P.info? e with|some i=>(match i.zero with|some v=>vEq v (.bool false)|none=>false)|none=>false)
 |_=>false
theorem okMap_ok {t:TypeId} (h:okMap P t=true):∃k e i,P.underlying t=some (.map k e)∧IdKey P k∧P.info? e=some i∧i.zero=some (.bool false):=by
 unfold okMap at h
 split at h
 ·rename_i k e hu
  simp only[Bool.and_eq_true]at h
  obtain⟨h1,h2⟩:=h
  split at h2
  ·rename_i i hi
   split at h2
   ·rename_i v hv
    exact⟨k,e,i,hu,okIdK_ok P h1,hi,by rw[hv,vEq_ok h2]⟩
   ·cases h2
  ·cases h2
 ·cases h
def okOp (o:Go.Op) (p:Op):Bool:=match o,p with
 | .move x,.mv x'=>okD x x'
 | .assign x,.mv x'=>okD x x'
 | .pick c a b,.pk c' a' b'=>okD c c'&&okD a a'&&okD b b'
 | .makeMap _ r,.mkm=>r.isNone
 | .makeMap _ r,.mkn u=>r.isNone&&Nat.ble ML u
 | .lookup t x y false,.mlk x' y'=>okD x x'&&okD y y'&&okMap P t
 | .mapUpdate t x y v,.mup x' y'=>okD x x'&&okD y y'&&okMap P t&&(match v with| .const v=>vEq v (.bool true)|_=>false)
 | .alloc t,.al z=>(match P.info? t with|some i=>(match i.zero with|some v=>okCells z v&&z.all Value.oneCell'|none=>false)|none=>false)
 | .box _ x,.bx x'=>okD x x'
 | .box _ x,.bxo u x'=>okD x x'&&Nat.blt u RL
 | .load t p,.ld n p'=>okD p p'&&okSz P t n
 | .load t p,.ldm n p'=>okD p p'&&okSz P t n
 | .store t p x,.st n p' x'=>okD p p'&&okD x x'&&(match P.info? t with|some i=>i.size==n|none=>false)
 | .binOp op t x y _,.bin op' x' y'=>okB op op'&&okD x x'&&okD y y'
 | .unOp .not _ x,.no x'=>okD x x'
 | .unOp op _ x,.un xr x'=>okD x x'&&(match op with| .xor=>xr| .neg=> !xr|_=>false)
 | .fieldAddr t x f,.fa x' off=>okD x x'&&(match P.underlying t with|some (.struct fs)=>(match fs[f]? with|some fd=>fd.offset==off&&(match P.info? fd.type with|some i=> !(i.size==0)|none=>false)|none=>false)|_=>false)
 | .indexAddr t x (.const (.int _ q)),.fa x' off=>okD x x'&&(match P.underlying t with|some (.array n e)=>decide (0<=q)&&decide (q<(n:Int))&&(match P.info? e with|some i=>q.toNat*i.size==off|none=>false)|_=>false)
 | .indexAddr t x y,.ia x' y' z=>okD x x'&&okD y y'&&okE P t fun _ i=>i.size==z
 | .index t x y,.six x' y'=>okD x x'&&okD y y'&&(match P.underlying t with|some .string=>true|_=>false)
 | .extract x i,.ext x' i'=>okD x x'&&i==i'
 | .call c,.call f args=>(match c.callee with| .value (.func f')=>f==f'&&Nat.blt f RL&&okDs c.args.toList args|_=>false)
 | .call c,.calf f args=>(match c.callee with| .value (.func f')=>f==f'&&Nat.blt f RL&&okDs c.args.toList args|_=>false)
 | .call c,.cv f args=>(match c.callee with| .value f'=>okD f' f&&okDs c.args.toList args|_=>false)
 | .call c,.len x=>(match c.callee,c.args.toList,c.argTypes.toList with| .builtin .len,[y],[t]=>okD y x&&okE P t fun _ _=>true|_,_,_=>false)
 | .call c,.lns x=>(match c.callee,c.args.toList,c.argTypes.toList with| .builtin .len,[y],[t]=>okD y x&&(match P.underlying t with|some .string=>true|_=>false)|_,_,_=>false)
 | .call c,.ap _ z by_ x y=>(match c.callee,c.args.toList,c.argTypes.toList with| .builtin .append,[x',y'],[t,tx]=>okD x' x&&okD y' y&&okE P t (okZ z (some by_))&&(match P.underlying tx with|some (.slice _)=>true|_=>false)|_,_,_=>false)
 | .call c,.mm mx x r=>(match c.callee,c.args.toList with| .builtin b,x'::r'=>(match b with| .max=>mx| .min=> !mx|_=>false)&&okD x' x&&okDs r' r|_,_=>false)
 | .buildSlice t len ps,.bs _ z ps'=>okDs (ps.toList.map (·.2)) ps'&&(ps.toList.map (·.1)==List.range len)&&okE P t (okZ z none)&&decide (len*z<=16777216)
 | .makeSlice t x y,.mk _ z by_ ze x' y'=>okD x x'&&okD y y'&&okE P t fun e i=>okZ z (some by_) e i&&(match i.zero with|some v=>zcsEq ze.cells v.cells.toList&&v.cells.toList.all Value.oneCell'|none=>false)
 | .build t ps,.bd z ps'=>(match P.underlying t with|some (.struct fs)=>okParts P fs ps.toList ps'&&fs.all (fun fd=>(P.info? fd.type).isSome)|_=>false)&&(match P.info? t with|some i=>(match i.zero with|some v=>okCells z v|none=>false)|none=>false)
 | .slice t x lo hi none,.slc z x' lo' hi'=>okD x x'&&okO lo lo'&&okO hi hi'&&okE P t fun _ i=>i.size==z
 | .binOp op t x y _,.eqn ne x'=>okD x x'&&(match y with| .const v=>vEq v (.slice none 0 0)|_=>false)&&(match op with| .eql=> !ne| .neq=>ne|_=>false)&&okE P t fun _ _=>true
 | .binOp op t x y _,.eqs ne x' y'=>okD x x'&&okD y y'&&(match op with| .eql=> !ne| .neq=>ne|_=>false)
 | .binOp op t x y _,.eqb ne x' y'=>okD x x'&&okD y y'&&(match op with| .eql=> !ne| .neq=>ne|_=>false)&&(match P.underlying t with|some .bool=>true|_=>false)
 | .binOp op t x y _,.eqa ne z x' y'=>okD x x'&&okD y y'&&(match op with| .eql=> !ne| .neq=>ne|_=>false)&&(match P.underlying t with|some (.struct fs)=> !P.stoodInHeld t&& !P.eqGuardType P.depth t&&okPl P 0 fs.toList z|_=>false)
 | .binOp op t x y _,.sh op' x' y'=>okB op op'&&okD x x'&&okD y y'
 | .convert s t x,.ci k x'=>okD x x'&&(P.underlying s).isSome&&(match P.underlying t with|some (.int k')=>k==k'|_=>false)
 | .makeFunc (.func f) first caps,.mf f' caps'=>f==f'&&Nat.blt f RL&&first.isEmpty&&okDs caps.toList caps'
 | .nilCheck x,.nck x'=>okD x x'
 | .convert s t x,.bst x'=>okD x x'&&(match P.underlying s with|some (.slice e)=>(match P.underlying e with|some (.int .u8)=>true|_=>false)|_=>false)&&(match P.underlying t with|some .string=>true|_=>false)
 | .call c,.cpy x y=>(match c.callee,c.args.toList,c.argTypes.toList with| .builtin .copy,[x',y'],[t,tx]=>okD x' x&&okD y' y&&okE P t (fun _ i=>i.size==1)|_,_,_=>false)
 | .call c,.pcal f args=>(match c.callee with| .value (.func f')=>f==f'&&Nat.blt f RL&&okDs c.args.toList args|_=>false)
 |_,_=>false
end Go.Proofs.Ytfopbiiffiickaa.Ev
