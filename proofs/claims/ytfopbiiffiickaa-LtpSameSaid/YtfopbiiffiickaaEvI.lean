/- Blocks, loops, functions, and the limit. Conditions: none. -/
import Derived.Test.YtfopbiiffiickaaEv2
import Derived.Test.YtfopbiiffiickaaEvX
import Derived.ControlIn
import Derived.Attr
import Derived.IntWalk
set_option linter.all false
namespace Go.Proofs.Ytfopbiiffiickaa.Ev
open Go
variable {P:Program}
section
variable {g:G} {w:World} {n:Nat} {tmps:Array Value} {s s':S}
def G.kl (g:G) (k id blk:Nat) (ℓ:Loc):G:={g with bx:=fun f s=>if f=k∧s=id then none else g.bx f s,tk:=fun b=>if b=blk then some ℓ else g.tk b}
structure KlH (g:G) (w:World) (k id blk:Nat):Prop where
 inv:Inv g w
 bx:g.bx k id=some blk
 RLid:id<RL
variable {k id blk:Nat} {ℓ0:Loc}
theorem KlH.keep (h:KlH g w k id blk) {f b B:Nat} (hb:g.bx f b=some B) (hne:¬(f=k∧b=id)):(g.kl k id blk ℓ0).bx f b=some B:=by
 show(if _ then _ else _)=_
 rw[if_neg hne];exact hb
theorem KlH.tk (h:KlH g w k id blk) {b:Nat} {ℓ:Loc} (hb:g.tk b=some ℓ):(g.kl k id blk ℓ0).tk b=some ℓ∧(g.kl k id blk ℓ0).fr b=g.fr b∧w.heap[b]? =w.heap[b]? :=by
 refine⟨?_,rfl,rfl⟩
 show(if _ then _ else _)=_
 rw[if_neg fun e=>by rw[e,(h.inv.box _ _ _ h.bx).2.2.2]at hb;cases hb];exact hb
theorem RP.kl (h:KlH g w k id blk) {x:Value} {d:D} (hr:RP g w x d) (hd:d.toV k id=false):RP (g.kl k id blk ℓ0) w x d:=by
 cases d with
 |v y=>exact hr
 |ptr f s off=>
  obtain⟨h0,b,h1,h2⟩:=hr
  exact⟨h0,b,h.keep h1 fun q=>by simp[D.toV,q]at hd,h2⟩
 |fptr cs off=>exact hr
 |_=>exact hr.elim
theorem RC.kl (h:KlH g w k id blk) {ℓ:Loc} {x:Value} {d:D} (hr:RC g w ℓ x d):RC (g.kl k id blk ℓ0) w ℓ x (d.kl1 k id):=by
 cases d with
 |u=>trivial
 |v y=>exact hr
 |sl m z xs=>cases m with
  |nl=>exact hr
  |ro=>exact hr
  |app=>exact Own.ext (show Own g w ℓ x .app z xs from hr) (fun _ _ _=>rfl) (fun _=>Nat.le_refl _) fun b hb=>h.tk hb
  |mu=>exact Own.ext (show Own g w ℓ x .mu z xs from hr) (fun _ _ _=>rfl) (fun _=>Nat.le_refl _) fun b hb=>h.tk hb
 |ptr f s off=>
  show RC _ _ _ _ (if _ then _ else _)
  split
  ·trivial
  ·rename_i hne
   obtain⟨h0,b,h1,h2⟩:=(show RP g w x (.ptr f s off)from hr)
   exact(show RP _ w x (.ptr f s off)from⟨h0,b,h.keep h1 hne,h2⟩)
 |fptr cs off=>exact hr
 |ref f s off m z=>
  show RC _ _ _ _ (if _ then _ else _)
  split
  ·trivial
  ·rename_i hne
   obtain⟨h0,B,cap,off',h1,h2,h3,h4,h5,h6⟩:=hr
   exact⟨h0,B,cap,off',h.keep h1 hne,h2,h3,h4,h5,h6⟩
 |clo fn caps=>
  obtain⟨h0,vs,h1,h2,h3⟩:=hr
  show RC _ _ _ _ (if _ then _ else _)
  split
  ·trivial
  ·rename_i hne
   refine⟨h0,vs,h1,h2,fun j c hj=>?_⟩
   obtain⟨y,q3,q4⟩:=h3 j c hj
   refine⟨y,q3,q4.kl h ?_⟩
   cases hv:c.toV k id with
   |false=>rfl
   |true=>exact absurd (List.any_eq_true.2 ⟨c,List.mem_of_getElem? hj,hv⟩) hne
 |yld f b=>
  obtain⟨h0,l,h1,h2⟩:=hr
  exact⟨h0,l,h.keep h1 fun q=>by have:=h.RLid;omega,h2⟩
 |_=>exact hr.elim
theorem klP_ne {d:D} (h:d.aggB=false):(d.klP k id).aggB=false:=by
 cases d with
 |ptr f b off=>simp only[D.klP];split<;>rfl
 |ref f b off n z=>simp only[D.klP];split<;>rfl
 |agg cs=>cases h
 |_=>rfl
theorem kl1_ne {d:D} (h:d.aggB=false):(d.kl1 k id).aggB=false:=by
 cases d with
 |clo fn caps=>simp only[D.kl1];split<;>rfl
 |agg cs=>cases h
 |_=>exact klP_ne (k:=k) (id:=id) h
theorem klP_tup {d:D} (h:d.tupB=false):(d.klP k id).tupB=false:=by
 cases d with
 |ptr f b off=>simp only[D.klP];split<;>rfl
 |ref f b off n z=>simp only[D.klP];split<;>rfl
 |tup cs=>cases h
 |_=>rfl
theorem kl1_tup {d:D} (h:d.tupB=false):(d.kl1 k id).tupB=false:=by
 cases d with
 |clo fn caps=>simp only[D.kl1];split<;>rfl
 |tup cs=>cases h
 |_=>exact klP_tup (k:=k) (id:=id) h
theorem kl2_ne {d:D} (h:d.aggB=false):d.kl2 k id=d.kl1 k id:=by cases d<;>first|rfl|cases h
theorem kl3_ne {d:D} (h:d.tupB=false):d.kl3 k id=d.kl2 k id:=by cases d<;>first|rfl|cases h
theorem kl2_tup {d:D} (h:d.tupB=false):(d.kl2 k id).tupB=false:=by
 rcases agg_or d with⟨ds,rfl⟩|hd
 ·rfl
 ·rw[kl2_ne hd];exact kl1_tup h
theorem RV.kl (h:KlH g w k id blk) {L:Nat->Loc} {x:Value} {d:D} (hr:RV g w L x d):RV (g.kl k id blk ℓ0) w L x (d.kl2 k id):=by
 rcases agg_or d with⟨ds,rfl⟩|hd
 ·obtain⟨vs,h1,h2,h3⟩:=hr
  refine⟨vs,h1,by simpa using h2,fun c e hc=>?_⟩
  rw[List.getElem?_map]at hc
  obtain⟨e0,q1,q2⟩:=Option.map_eq_some_iff.1 hc
  subst q2
  obtain⟨y,q3,q4⟩:=h3 c e0 q1
  exact⟨y,q3,q4.kl h⟩
 ·rw[RV_ne hd]at hr
  rw[kl2_ne hd,RV_ne (kl1_ne hd)]
  exact hr.kl h
theorem RT.kl (h:KlH g w k id blk) {L:Nat->Nat->Loc} {x:Value} {d:D} (hr:RT g w L x d):RT (g.kl k id blk ℓ0) w L x (d.kl3 k id):=by
 rcases tup_or d with⟨ds,rfl⟩|hd
 ·obtain⟨vs,h1,h2,h3⟩:=hr
  refine⟨vs,h1,by simpa using h2,fun c e hc=>?_⟩
  rw[List.getElem?_map]at hc
  obtain⟨e0,q1,q2⟩:=Option.map_eq_some_iff.1 hc
  subst q2
  obtain⟨y,q3,q4⟩:=h3 c e0 q1
  exact⟨y,q3,q4.kl h⟩
 ·rw[RT_ne hd]at hr
  rw[kl3_ne hd,RT_ne (kl2_tup hd)]
  exact hr.kl h
theorem kl1_low {d:D} (h:d.bnd1 k=true):d.kl1 k id=d:=by
 cases d with
 |ptr f b off=>
  have:f<k:=by simpa[D.bnd1]using h
  show(if _ then _ else _)=_;rw[if_neg (by omega)]
 |ref f b off n z=>
  have:f<k:=by simpa[D.bnd1]using h
  show(if _ then _ else _)=_;rw[if_neg (by omega)]
 |clo fn caps=>
  show(if _ then _ else _)=_
  rw[if_neg]
  intro hv
  obtain⟨c,hc,hv⟩:=List.any_eq_true.1 hv
  have:=List.all_eq_true.1 (show caps.all _=true from h) c hc
  cases c with
  |ptr f s off=>
   have h1:f<k:=by simpa using this
   simp[D.toV]at hv
   omega
  |_=>cases hv
 |_=>rfl
theorem klP_bnd {d:D} {k':Nat} (h:d.bnd1 k'=true):(d.klP k id).bnd1 k'=true:=by
 cases d with
 |ptr f b off=>simp only[D.klP];split<;>first|rfl|exact h
 |ref f b off n z=>simp only[D.klP];split<;>first|rfl|exact h
 |_=>exact h
theorem kl1_bnd {d:D} {k':Nat} (h:d.bnd1 k'=true):(d.kl1 k id).bnd1 k'=true:=by
 cases d with
 |clo fn caps=>simp only[D.kl1];split<;>first|rfl|exact h
 |_=>exact klP_bnd (k:=k) (id:=id) h
theorem lk_kl {b:Nat} {l:Bx}:lk b (klL k id l)=(lk b l).map fun ds=>ds.map (D.kl1 k id):=by
 unfold klL
 induction l with
 |nil=>rfl
 |cons p r ih=>
  obtain⟨c,ds⟩:=p
  simp only[List.map_cons,lk]
  split
  ·rfl
  ·exact ih
theorem get_kl {t:Nat} {e:Env}:get t (klE k id e)=(get t e).kl3 k id:=by
 unfold klE
 induction e with
 |nil=>rfl
 |cons p r ih=>
  obtain⟨c,d⟩:=p
  simp only[List.map_cons,get]
  split
  ·rfl
  ·exact ih
theorem own_back (h:SN g w n tmps s) {id m z:Nat} {cs:List D} (hRL:id<RL) (hb:lk id s.l=some cs) (hall:cs.all D.rf1=true) (hm:m*z=cs.length) {ℓ:Loc} {x:Value} (hx:RC g w ℓ x (.ref s.k id 0 m z)):
  ∃blk,KlH g w s.k id blk∧g.fr blk=0∧blk<w.heap.size∧g.base<=blk∧g.dm blk=false∧∀ℓ0,RC (g.kl s.k id blk ℓ0) w ℓ0 x (.sl .mu z (chunks z m cs)):=by
 have hB:bxl s.B s.k id=some cs:=by simp only[bxl,S.B,S.k];simpa using hb
 obtain⟨blk,vs,et,h1,h2,h3,h4⟩:=(h.st.sb.rel _ _ _ hB).c hRL
 obtain⟨h0,B,cap,off',r1,r2,r3,r4,r5,r6⟩:=hx
 rw[h1]at r1
 injection r1 with r1
 subst r1
 have ho:off'=0:=by omega
 subst ho
 have hi:=h.st.inv
 obtain⟨a1,a2,a3,a4⟩:=hi.box _ _ _ h1
 have hsz:cap*z<=vs.size:=by
  rcases Nat.eq_zero_or_pos (cap*z)with e|e
  ·omega
  ·have:=r6 (cap*z-1) (by omega)
   simp only[World.cell?,h2,Nat.zero_add]at this
   have:cap*z-1<vs.size:=by simpa using this
   omega
 have hch:=chunks_ok (z:=z) (n:=m) (cs:=cs) hall (by omega)
 have hl:=chunks_len z m cs
 have hval:∀(i:Nat) d (j:Nat) c,(chunks z m cs)[i]? =some d->d.cells[j]? =some c->∃y,vs[i*z+j]? =some y∧RF w g.fr y c:=fun i d j c hi' hj=>by
  have q:=(hch i d hi').2 j c hj
  obtain⟨y,u1,u2⟩:=h4 _ c q
  exact⟨y,u1,RC.toRF u2 (List.all_eq_true.1 hall c (List.mem_of_getElem? q))⟩
 refine⟨blk,⟨hi,h1,hRL⟩,a3,a2,a1,hi.mkc h2,fun ℓ0=>?_⟩
 generalize chunks z m cs=xs at hch hl hval
 subst hl
 refine(show Own _ w ℓ0 x .mu z xs from⟨blk,0,cap,vs,et,fun i j=>vs.getD (i*z+j) undef,r2,h2,r3,r4,by omega,if_pos rfl,a3,fun _=>rfl,fun i d hi'=>(hch i d hi').1,fun i d j c hi' hj=>?_,fun i d j c hi' hj=>?_⟩)
 ·obtain⟨y,u1,u2⟩:=hval i d j c hi' hj
  simp[World.cell?,h2,u1,Array.getD_eq_getD_getElem?]
 ·obtain⟨y,u1,u2⟩:=hval i d j c hi' hj
  have:vs.getD (i*z+j) undef=y:=by rw[Array.getD_eq_getD_getElem?,u1];rfl
  show RF w g.fr (vs.getD (i*z+j) undef) c
  rw[this];exact u2
theorem kl_inv (h:SN g w n tmps s) {id blk:Nat} (H:KlH g w s.k id blk) (ℓ0:Loc) (hfr:g.fr blk=0) (hlt:blk<w.heap.size) (hbase:g.base<=blk) (hdm:g.dm blk=false) (h0:ℓ0.f=s.k∨ℓ0.k≠0):
  Inv (g.kl s.k id blk ℓ0) w∧Ext s.k g w (g.kl s.k id blk ℓ0) w:=by
 have hi:=h.st.inv
 refine⟨⟨hi.base,fun b hb'=>?_,fun f s1 b hb'=>?_,fun f1 s1 f2 s2 b e1 e2=>?_,fun b ℓ hb=>?_,hi.cells,hi.dm,fun b hb=>?_⟩,⟨rfl,rfl,rfl,rfl,Nat.le_refl _,fun _ _=>rfl,fun _=>Nat.le_refl _,fun _ _ _=>rfl,eqb (fun f s1 hf=>?_),fun b ℓ hb' h0 hk=>H.tk hb',fun _ h=>h,Gr.refl _⟩⟩
 ·have:=hi.fresh b hb'
  refine⟨this.1,?_⟩
  show(if _ then _ else _)=_
  rw[if_neg (by omega)];exact this.2
 ·have hb2:(if f=s.k∧s1=id then none else g.bx f s1)=some b:=hb'
  split at hb2
  ·cases hb2
  ·rename_i hne
   obtain⟨a1,a2,a3,a4⟩:=hi.box f s1 b hb2
   refine⟨a1,a2,a3,?_⟩
   show(if _ then _ else _)=_
   rw[if_neg fun e=>by subst e;exact hne (hi.inj _ _ _ _ _ hb2 H.bx)];exact a4
 ·have e1':(if f1=s.k∧s1=id then none else g.bx f1 s1)=some b:=e1
  have e2':(if f2=s.k∧s2=id then none else g.bx f2 s2)=some b:=e2
  split at e1'<;>split at e2'<;>first|cases e1'|cases e2'|exact hi.inj _ _ _ _ _ e1' e2'
 ·have hb2:(if b=blk then some ℓ0 else g.tk b)=some ℓ:=hb
  split at hb2
  ·rename_i e;rw[e];exact hbase
  ·exact hi.tk _ _ hb2
 ·have hb':g.dm b=true:=hb
  show(if _ then _ else _)=_
  rw[if_neg fun e=>by rw[e,hdm]at hb';cases hb'];exact hi.dt b hb'
 ·show(if _ then _ else _)=_
  rw[if_neg fun e=>by omega]
theorem kl_up (h:SN g w n tmps s) {f b:Nat} (hb:(g.bx f b).isSome):f<=s.k:=by
 obtain⟨blk,hblk⟩:=Option.isSome_iff_exists.1 hb
 have:=h.boxlt (a:=⟨tmps,[]⟩) hblk
 omega
theorem kl_rb (h:SN g w n tmps s) {id blk:Nat} (H:KlH g w s.k id blk) (ℓ0:Loc) {f b:Nat} {ds:List D} (hds:bxl s.B f b=some ds) (hne:¬(f=s.k∧b=id)):RB (g.kl s.k id blk ℓ0) w f b (ds.map (D.kl1 s.k id)):=by
 rcases h.st.sb.rel f b ds hds with⟨h0,B,cs',et,r1,r2,r3,r4⟩|⟨h0,hM,l,r,st,j,rid,ks,caps,r1,r2,r3,r4,r4',r5,r6,r7,r8⟩|⟨h0,hm⟩
 ·refine .inl ⟨h0,B,cs',et,H.keep r1 hne,r2,by simpa using r3,fun c d hc=>?_⟩
  rw[List.getElem?_map]at hc
  obtain⟨d0,q1,q2⟩:=Option.map_eq_some_iff.1 hc
  subst q2
  obtain⟨y,q3,q4⟩:=r4 c d0 q1
  exact⟨y,q3,q4.kl H⟩
 ·subst r3
  refine .inr (.inl ⟨h0,hM,l,r,st,j,rid,ks,caps.map (D.kl1 s.k id),H.keep r1 hne,r2,rfl,r4,r4',r5,r6,by simpa using r7,fun c d t hc ht=>?_⟩)
  rw[List.getElem?_map]at hc
  obtain⟨d0,q1,q2⟩:=Option.map_eq_some_iff.1 hc
  subst q2
  exact(r8 c d0 t q1 ht).kl H
 ·exact .inr (.inr ⟨h0,hm.map (fun _=>rfl) (fun l h1=>H.keep h1 hne) fun _ _=>rfl⟩)
theorem kl_same (h:SN g w n tmps s) {id f b:Nat} {ds:List D} (hds:bxl s.B f b=some ds) (e:f≠s.k):ds.map (D.kl1 s.k id)=ds:=by
 conv=>rhs;rw[<-List.map_id ds]
 refine List.map_congr_left fun c hc=>kl1_low (bnd1_le (h.st.sb.bnd _ _ _ _ hds hc) ?_)
 have:=kl_up h (h.st.sb.rel f b ds hds).bx
 omega
theorem kl_B {id:Nat} {e:Env} (f b:Nat):bxl (⟨e,klL s.o.length id (rmL id s.l),s.o⟩:S).B f b=if f=s.k then(if b=id then none else(lk b s.l).map fun ds=>ds.map (D.kl1 s.k id))else bxl s.B f b:=by
 by_cases e:f=s.k
 ·subst e
  simp only[bxl,S.B,S.k,List.getElem?_append_right (Nat.le_refl _),Nat.sub_self,List.getElem?_cons_zero,Option.bind_some,if_true,lk_kl,lk_rm]
  split<;>rfl
 ·rw[if_neg e]
  have e:f≠s.o.length:=e
  simp only[bxl,S.B]
  rcases Nat.lt_or_ge f s.o.length with hl|hl
  ·rw[List.getElem?_append_left hl,List.getElem?_append_left hl]
  ·rw[List.getElem?_append_right hl,List.getElem?_append_right hl]
   have:f-s.o.length=(f-s.o.length-1)+1:=by omega
   rw[this];simp
theorem kl_sb (h:SN g w n tmps s) {id blk:Nat} (H:KlH g w s.k id blk) (ℓ0:Loc) (e:Env):SB (g.kl s.k id blk ℓ0) w (⟨e,klL s.o.length id (rmL id s.l),s.o⟩:S).B:=by
 refine⟨fun f b ds hds=>?_,fun f b hd=>?_,fun f b ds d hds hd=>?_⟩
 ·rw[kl_B]at hds
  by_cases e:f=s.k
  ·rw[if_pos e]at hds
   split at hds
   ·cases hds
   ·rename_i hne
    obtain⟨ds0,q1,q2⟩:=Option.map_eq_some_iff.1 hds
    subst q2 e
    exact kl_rb h H ℓ0 (by simp only[bxl,S.B,S.k];simpa using q1) fun q=>hne q.2
  ·rw[if_neg e]at hds
   have:=kl_rb h H ℓ0 hds fun q=>e q.1
   rwa[kl_same h hds e]at this
 ·have hd':(if f=s.k∧b=id then none else g.bx f b).isSome=true:=hd
  rw[kl_B]
  split at hd'
  ·cases hd'
  ·rename_i hne
   have:=h.st.sb.dom f b hd'
   by_cases e:f=s.k
   ·rw[if_pos e,if_neg fun q=>hne ⟨e,q⟩]
    subst e
    simp only[bxl,S.B,S.k]at this
    simpa using this
   ·rw[if_neg e];exact this
 ·rw[kl_B]at hds
  by_cases e:f=s.k
  ·rw[if_pos e]at hds
   split at hds
   ·cases hds
   ·obtain⟨ds0,q1,q2⟩:=Option.map_eq_some_iff.1 hds
    subst q2 e
    obtain⟨d0,q3,rfl⟩:=List.mem_map.1 hd
    exact kl1_bnd (h.st.sb.bnd _ _ ds0 d0 (by simp only[bxl,S.B,S.k];simpa using q1) q3)
  ·rw[if_neg e]at hds
   exact h.st.sb.bnd _ _ _ _ hds hd
theorem ufc_ok (h:SN g w n tmps s) {b0 c id:Nat} (hRL0:b0<RL) (hRL:id<RL) (he:evG1 (.ufc b0 c id) s=some s'):∃g',SN g' w n tmps s'∧Ext s.k g w g' w∧s'.k=s.k:=by
 simp only[evG1]at he
 split at he
 ·rename_i hb
  split at he
  ·rename_i f b' off m z hd
   split at he
   ·rename_i hc
    obtain⟨rfl,rfl⟩:=hc
    exfalso
    obtain⟨ds,hb0,hd⟩:=Option.bind_eq_some_iff.1 hd
    have hB0:bxl s.B s.k b0=some ds:=by simp only[bxl,S.B,S.k];simpa using hb0
    obtain⟨blk0,cs0,et0,u1,u2,u3,u4⟩:=(h.st.sb.rel _ _ _ hB0).c hRL0
    obtain⟨y,u5,u6⟩:=u4 c _ hd
    obtain⟨h0,B,cap,off',r1,r2⟩:=u6
    have:=h.st.sb.dom s.k b' (by rw[show s.k=s.o.length from rfl,r1];rfl)
    simp only[bxl,S.B,S.k]at this
    simp[hb]at this
   ·injection he with he;subst he;exact⟨g,h,Ext.refl _ _ _,rfl⟩
  ·injection he with he;subst he;exact⟨g,h,Ext.refl _ _ _,rfl⟩
 ·rename_i cs hb
  split at he
  ·cases he
  ·rename_i ds hb0
   split at he
   ·rename_i f b off m z hd
    split at he
    ·rename_i hc
     obtain⟨rfl,rfl,rfl,hm,hall,hne0⟩:=hc
     injection he with he
     subst he
     have hB0:bxl s.B s.k b0=some ds:=by simp only[bxl,S.B,S.k];simpa using hb0
     obtain⟨blk0,cs0,et0,u1,u2,u3,u4⟩:=(h.st.sb.rel _ _ _ hB0).c hRL0
     obtain⟨y,u5,u6⟩:=u4 c _ hd
     obtain⟨blk,H,a3,a2,a1,a5,hown⟩:=own_back h hRL hb hall hm u6
     have hE:=kl_inv h H (boxL s.k b0 c) a3 a2 a1 a5 (.inl rfl)
     have hsb:=kl_sb h H (boxL s.k b0 c) (klE s.o.length b s.e)
     have hbs:∀f' b',bxl (⟨klE s.o.length b s.e,sb b0 ((ds.map (D.kl1 s.o.length b)).set c (.sl .mu z (chunks z m cs))) (klL s.o.length b (rmL b s.l)),s.o⟩:S).B f' b'=if f'=s.k∧b'=b0 then some ((ds.map (D.kl1 s.k b)).set c (.sl .mu z (chunks z m cs)))else bxl (⟨klE s.o.length b s.e,klL s.o.length b (rmL b s.l),s.o⟩:S).B f' b':=fun f' b'=>
      B_sbl (s:=⟨klE s.o.length b s.e,klL s.o.length b (rmL b s.l),s.o⟩) (ds0:=ds.map (D.kl1 s.o.length b)) (by show lk b0 (klL _ _ (rmL b s.l))=_;rw[lk_kl,lk_rm,if_neg hne0,hb0];rfl) f' b'
     refine⟨_,⟨⟨hE.1,⟨fun f' b' ds' hds=>?_,fun f' b' hd'=>?_,fun f' b' ds' d hds hd'=>?_⟩,fun t'=>?_⟩,h.size⟩,hE.2,rfl⟩
     ·rw[hbs]at hds
      split at hds
      ·rename_i e
       obtain⟨rfl,rfl⟩:=e
       injection hds with hds
       subst hds
       refine .inl ⟨hRL0,blk0,cs0,et0,H.keep u1 fun q=>hne0 q.2,u2,by simpa using u3,fun c' d hc'=>?_⟩
       rw[List.getElem?_set]at hc'
       split at hc'
       ·rename_i e
        subst e
        split at hc'
        ·injection hc' with hc'
         subst hc'
         exact⟨y,u5,hown _⟩
        ·cases hc'
       ·rw[List.getElem?_map]at hc'
        obtain⟨d0,q1,q2⟩:=Option.map_eq_some_iff.1 hc'
        subst q2
        obtain⟨y',q3,q4⟩:=u4 c' d0 q1
        exact⟨y',q3,q4.kl H⟩
      ·exact hsb.rel f' b' ds' hds
     ·rw[hbs]
      split
      ·rfl
      ·exact hsb.dom f' b' hd'
     ·rw[hbs]at hds
      split at hds
      ·rename_i e
       obtain⟨rfl,rfl⟩:=e
       injection hds with hds
       subst hds
       rcases List.mem_or_eq_of_mem_set hd' with h1|h1
       ·obtain⟨d0,q3,rfl⟩:=List.mem_map.1 h1
        exact kl1_bnd (h.st.sb.bnd _ _ ds d0 hB0 q3)
       ·rw[h1];rfl
      ·exact hsb.bnd f' b' ds' d hds hd'
     ·show RT _ _ (slotL s.k t') _ (get t' (klE s.o.length b s.e))
      rw[get_kl]
      exact(h.st.e t').kl H
    ·cases he
   ·injection he with he;subst he;exact⟨g,h,Ext.refl _ _ _,rfl⟩
theorem gs_ok {l:List Gc}:∀{g:G} {s:S},SN g w n tmps s->l.all Gc.ok=true->evG l s=some s'->∃g',SN g' w n tmps s'∧Ext s.k g w g' w∧s'.k=s.k:=by
 induction l with
 |nil=>intro g s h _ he;injection he with he;subst he;exact⟨g,h,Ext.refl _ _ _,rfl⟩
 |cons p r ih=>
  intro g s h hok he
  rw[List.all_cons,Bool.and_eq_true]at hok
  obtain⟨s1,h1,h2⟩:=Option.bind_eq_some_iff.1 he
  have:∃g',SN g' w n tmps s1∧Ext s.k g w g' w∧s1.k=s.k:=by
   cases p with
   |th b c id=>
    have:=hok.1
    simp only[Gc.ok,Bool.and_eq_true,decide_eq_true_eq]at this
    exact th_ok h this.1 this.2 h1
   |dg b c=>exact dg_ok h (by simpa[Gc.ok]using hok.1) h1
   |ufc b c id=>
    have:=hok.1
    simp only[Gc.ok,Bool.and_eq_true,decide_eq_true_eq]at this
    exact ufc_ok h this.1 this.2 h1
  obtain⟨g1,k1,k2,k3⟩:=this
  obtain⟨g2,j1,j2,j3⟩:=ih k1 hok.2 h2
  exact⟨g2,j1,k2.trans (by rw[k3]at j2;exact j2),j3.trans k3⟩
end
end Go.Proofs.Ytfopbiiffiickaa.Ev
namespace Go.Proofs.Ytfopbiiffiickaa.Ev
open Go
variable {P:Program}
end Go.Proofs.Ytfopbiiffiickaa.Ev
namespace Go.Proofs.Ytfopbiiffiickaa.Ev
open Go
variable {P:Program}
def Ex.to:Ex->Exit
 | .nm=>.normal
 | .ex id=>.exit id
 | .rt=>.ret
inductive Mo where
 |pl
 |J (l:Nat) (r:Code)
 |G (l:Nat)
inductive MCx (P:Program) (n:Nat):Mo->Code->Cd->Prop
 |sk:MCx P n .pl .skip .sk
 |rg {id ops ps} (h:MOps P n ops (List.range ops.size) ps):MCx P n .pl (.region id ops false) (.rg ps)
 |sq {a b a' b'} (ha:MCx P n .pl a a') (hb:MCx P n .pl b b'):MCx P n .pl (.seq a b) (.sq a' b')
 |ff {c a b c' a' b'} (hc:MOpd c c') (ha:MCx P n .pl a a') (hb:MCx P n .pl b b'):MCx P n .pl (.cond c a b) (.ff c' a' b')
 |bl {id a a'} (ha:MCx P n .pl a a'):MCx P n .pl (.block id a) (.bl id a')
 |lp {a a' ks bs} (ha:MCx P n .pl a a'):MCx P n .pl (.loop a) (.lp ks bs a')
 |rf {x x' ps asg body b rid ks} (hx:MOpd x x') (hb:RL<=b) (hbm:b<ML) (hr:RL<=rid) (hro:roundOf PP rid=some (n,ps,asg,body)):MCx P n .pl (.rangeFunc x ps asg body) (.rf x' b rid ks)
 |dr {id ops l cl} (hmx:P.follows .mixedOrders=true) (h:MOps P n ops (List.range ops.size) (l.map (·.1))) (hD:Deps ops l cl):MCx P n .pl (.region id ops true) (.dr l)
 |dra {id ops l} (hmx:P.follows .mixedOrders=true) (h:MOps P n ops (List.range ops.size) (l.map (·.1))) (hlt:∀(j:Nat) o e,ops[j]? =some o->e∈o.after->Region.binds .any e=true->e.on<j) (hdp:∀(i:Nat) p ds d,l[i]? =some (p,ds)->d∈ds->∃o e,ops[i]? =some o∧e∈o.after∧Region.binds .any e=true∧e.on=d):MCx P n .pl (.region id ops true) (.dra l)
 |gs {c c' l} (hl:l.all Gc.ok=true) (hc:MCx P n .pl c c'):MCx P n .pl c (.gs l c')
 |sc {c c'} (hc:MCx P n .pl c c'):MCx P n .pl (.scope c) (.gs [] c')
 |lb {l}:MCx P n .pl (.label l) .sk
 |tg {c c' l} (hl:l.all Gc.ok=true) (hc:MCx P n .pl c c'):MCx P n .pl c (.sq c' (.gs l .sk))
 |ex {id}:MCx P n .pl (.exit id) (.ex id)
 |rt:MCx P n .pl .ret .rt
 |dd {c}:MCx P n .pl c .dead
 |sj {c c' l r} (hc:MCx P n (.J l r) c c'):MCx P n .pl (.scope c) c'
 |jh {l r b' ks bs} (hr:MCx P n (.G l) r b'):MCx P n (.J l r) (.seq (.label l) r) (.lp ks bs b')
 |js {a b a' b' l r} (hno:findLabel a l=none) (ha:MCx P n .pl a a') (hb:MCx P n (.J l r) b b'):MCx P n (.J l r) (.seq a b) (.sq a' b')
 |gh {l}:MCx P n (.G l) (.goto l) .sk
 |gq {a b a' b' l} (ha:MCx P n .pl a a') (hb:MCx P n (.G l) b b'):MCx P n (.G l) (.seq a b) (.sq a' b')
abbrev MCd (P:Program) (n:Nat) (c:Code) (c':Cd):Prop:=MCx P n .pl c c'
section
variable {b:Frame} {a:Act} {k:List Item} {cs:List Frame} {w:World} {F:Fence} {n:Nat} {Q:Exit->Act->World->Prop}
theorem stepR_scope {c:Code}:step P (lone (b.atR a (.code (.scope c)::k)) cs w)= .next (lone (b.atR a (.code c:: .inScope c::k)) cs w):=
 step_lone_go (by simp[stepG,stepG.exec,Frame.atR])
theorem stepR_inScope {c:Code}:step P (lone (b.atR a (.inScope c::k)) cs w)= .next (lone (b.atR a k) cs w):=
 step_lone_go (by simp[stepG,stepG.exec,Frame.atR])
def noGo (Q:Exit->Act->World->Prop):Exit->Act->World->Prop
 | .goto _,_,_=>False
 |e,a,w=>Q e a w
theorem wpIn_scope {c:Code} (h:c.wpIn F n P (noGo Q) a w):(Code.scope c).wpIn F n P Q a w:=by
 intro b k cs hro hb hr
 have h0:(lone (b.atR a (.code (.scope c)::k)) cs w).fenced P F:=fenced_calm hb hr rfl
 obtain⟨e,a₁,w₁,hq,harr⟩:=h b (.inScope c::k) cs hro hb hr
 cases e with
 |normal=>exact⟨.normal,a₁,w₁,hq,.head h0 stepR_scope (StepsIn.trans harr (.one (fenced_calm hb hr rfl) stepR_inScope))⟩
 |exit id'=>
  have hx:exitTo id' (.inScope c::k)=exitTo id' k:=by simp[exitTo]
  exact⟨.exit id',a₁,w₁,hq,fun k' hk=>.head h0 stepR_scope (harr.1 k' (by rw[hx];exact hk)),
   fun hr' hk=>let⟨k₁,h1,h2⟩:=harr.2 hr' (by rw[hx];exact hk);⟨k₁,h1,.head h0 stepR_scope h2⟩⟩
 |goto l=>exact hq.elim
 |ret=>exact⟨_,a₁,w₁,hq,.of_steps (.one h0 stepR_scope) harr⟩
 |panic ch=>exact⟨_,a₁,w₁,hq,.of_steps (.one h0 stepR_scope) harr⟩
 |outgrown=>exact⟨_,a₁,w₁,hq,.of_steps (.one h0 stepR_scope) harr⟩
end
def jumpTo (l:Nat) (J:Act->World->Prop) (Q:Exit->Act->World->Prop):Exit->Act->World->Prop
 | .goto l',a,w=>l'=l∧J a w
 |e,a,w=>Q e a w
section
variable {F:Fence} {n:Nat} {Q:Exit->Act->World->Prop} {a:Act} {w:World}
theorem wpIn_jumps {c rest:Code} (l:Nat) (J:Act->World->Prop) (μ:Act->World->Nat) (hf:findLabel c l=some rest)
  (first:c.wpIn F n P (jumpTo l J Q) a w)
  (pass:∀a w,J a w->rest.wpIn F n P (jumpTo l (fun a' w'=>J a' w'∧μ a' w'<μ a w) Q) a w):(Code.scope c).wpIn F n P Q a w:=by
 intro b k cs hro hb hr
 have hg:gotoIn l (.inScope c::k)=some (.code rest:: .inScope c::k):=by simp[gotoIn,hf]
 have h0:(lone (b.atR a (.code (.scope c)::k)) cs w).fenced P F:=fenced_calm hb hr rfl
 have out:∀{m:Machine} {e:Exit} {a₁:Act} {w₁:World},ArrivesIn (Machine.fenced P F) P m b (.inScope c::k) cs e a₁ w₁->Q e a₁ w₁->(∀l,e≠ .goto l)->∃e a' w',Q e a' w'∧ArrivesIn (Machine.fenced P F) P m b k cs e a' w':=by
  intro m e a₁ w₁ harr hq hne
  cases e with
  |normal=>exact⟨.normal,a₁,w₁,hq,StepsIn.trans harr (.one (fenced_calm hb hr rfl) stepR_inScope)⟩
  |exit id'=>
   have hx:exitTo id' (.inScope c::k)=exitTo id' k:=by simp[exitTo]
   exact⟨.exit id',a₁,w₁,hq,fun k' hk=>harr.1 k' (by rw[hx];exact hk),fun hr' hk=>harr.2 hr' (by rw[hx];exact hk)⟩
  |goto l'=>exact absurd rfl (hne l')
  |ret=>exact⟨_,a₁,w₁,hq,harr⟩
  |panic ch=>exact⟨_,a₁,w₁,hq,harr⟩
  |outgrown=>exact⟨_,a₁,w₁,hq,harr⟩
 have key:∀j a w,μ a w=j->J a w->∃e a' w',Q e a' w'∧ArrivesIn (Machine.fenced P F) P (lone (b.atR a (.code rest:: .inScope c::k)) cs w) b k cs e a' w':=by
  intro j
  induction j using Nat.strongRecOn with
  |_ j ih=>
   intro a w hn hJ
   obtain⟨e,a₁,w₁,hq,harr⟩:=pass a w hJ b (.inScope c::k) cs hro hb hr
   by_cases hgo:∃l',e= .goto l'
   ·obtain⟨l',rfl⟩:=hgo
    obtain⟨rfl,hJ',hlt⟩:=hq
    obtain⟨e₂,a₂,w₂,hq₂,harr₂⟩:=ih _ (by omega) a₁ w₁ rfl hJ'
    exact⟨e₂,a₂,w₂,hq₂,.of_steps (harr.1 _ hg) harr₂⟩
   ·refine out harr ?_ fun l' h=>hgo ⟨l',h⟩
    cases e<;>first|exact hq|exact absurd ⟨_,rfl⟩ hgo
 obtain⟨e,a₁,w₁,hq,harr⟩:=first b (.inScope c::k) cs hro hb hr
 by_cases hgo:∃l',e= .goto l'
 ·obtain⟨l',rfl⟩:=hgo
  obtain⟨rfl,hJ'⟩:=hq
  obtain⟨e₂,a₂,w₂,hq₂,harr₂⟩:=key _ a₁ w₁ rfl hJ'
  exact⟨e₂,a₂,w₂,hq₂,.of_steps (.head h0 stepR_scope (harr.1 _ hg)) harr₂⟩
 ·obtain⟨e₂,a₂,w₂,hq₂,harr₂⟩:=out harr (by cases e<;>first|exact hq|exact absurd ⟨_,rfl⟩ hgo) fun l' h=>hgo ⟨l',h⟩
  exact⟨e₂,a₂,w₂,hq₂,.of_steps (.one h0 stepR_scope) harr₂⟩
end
theorem least {p:Nat->Prop} (h:∃m,p m):∃m,p m∧∀k,p k->m<=k:=by
 obtain⟨m,hm⟩:=h
 induction m using Nat.strongRecOn with
 |_ m ih=>
  by_cases hx:∃k,k<m∧p k
  ·obtain⟨k,h1,h2⟩:=hx;exact ih k h1 h2
  ·exact⟨m,hm,fun k hk=>Nat.le_of_not_lt fun hlt=>hx ⟨k,hlt,hk⟩⟩
theorem lim_some {α:Type} {f:Nat->Option α} {r:α} (h:lim f=some r):∃n,f n=some r:=by
 unfold lim at h
 split at h
 ·rename_i hx
  injection h with h
  exact⟨hx.choose,by rw[hx.choose_spec.choose_spec,h]⟩
 ·cases h
section
variable {g:G} {w:World} {n:Nat} {s s':S}
def G.cut (g:G) (k:Nat) (bs:List Nat):G:={g with bx:=fun f b=>if f=k∧¬ b∈bs then none else g.bx f b}
theorem RP.cut {k:Nat} {bs:List Nat} {x:Value} {d:D} (h:RP g w x d) (hi:d.in1 k bs=true):RP (g.cut k bs) w x d:=by
 cases d with
 |v y=>exact h
 |ptr f s off=>
  obtain⟨h0,b,h1,h2⟩:=h
  refine⟨h0,b,?_,h2⟩
  show(if _ then _ else _)=_
  rw[if_neg fun e=>?_]
  ·exact h1
  ·simp[D.in1]at hi
   rcases hi with hi|hi
   ·omega
   ·exact e.2 hi.2
 |fptr cs off=>exact h
 |_=>exact h.elim
theorem RC.cut {k:Nat} {bs:List Nat} {ℓ:Loc} {x:Value} {d:D} (h:RC g w ℓ x d) (hi:d.in1 k bs=true):RC (g.cut k bs) w ℓ x d:=by
 cases d with
 |u=>trivial
 |v y=>exact h
 |sl m z xs=>cases m<;>exact h
 |ptr f s off=>exact RP.cut (show RP g w x (.ptr f s off)from h) hi
 |fptr cs off=>exact h
 |clo fn caps=>
  obtain⟨h0,vs,h1,h2,h3⟩:=h
  refine⟨h0,vs,h1,h2,fun j d hj=>?_⟩
  obtain⟨y,h4,h5⟩:=h3 j d hj
  refine⟨y,h4,h5.cut ?_⟩
  have:=List.all_eq_true.1 (show caps.all _=true from hi) d (List.mem_of_getElem? hj)
  cases d with
  |ptr f s off=>exact this
  |v y=>rfl
  |fptr cs off=>rfl
  |_=>cases this
 |yld f s=>
  obtain⟨h0,l,h1,h2⟩:=h
  refine⟨h0,l,?_,h2⟩
  have hf:f<k:=by simpa[D.in1]using hi
  show(if _ then _ else _)=_
  rw[if_neg fun e=>by omega]
  exact h1
 |ref f s off n z=>
  obtain⟨h0,b,cap,off',h1,h2⟩:=h
  refine⟨h0,b,cap,off',?_,h2⟩
  show(if _ then _ else _)=_
  rw[if_neg fun e=>?_]
  ·exact h1
  ·simp[D.in1]at hi
   rcases hi with hi|hi
   ·omega
   ·exact e.2 hi.2
 |_=>exact h.elim
theorem RV.cut {k:Nat} {bs:List Nat} {L:Nat->Loc} {x:Value} {d:D} (h:RV g w L x d) (hi:d.in2 k bs=true):RV (g.cut k bs) w L x d:=by
 rcases agg_or d with⟨ds,rfl⟩|hd
 ·obtain⟨cs,h1,h2,h3⟩:=h
  refine⟨cs,h1,h2,fun c d hc=>?_⟩
  obtain⟨y,h4,h5⟩:=h3 c d hc
  exact⟨y,h4,h5.cut (List.all_eq_true.1 (show ds.all _=true from hi) d (List.mem_of_getElem? hc))⟩
 ·rw[RV_ne hd]at h ⊢
  exact h.cut (by cases d<;>first|exact hi|cases hd)
theorem RT.cut {k:Nat} {bs:List Nat} {L:Nat->Nat->Loc} {x:Value} {d:D} (h:RT g w L x d) (hi:d.inn k bs=true):RT (g.cut k bs) w L x d:=by
 rcases tup_or d with⟨ds,rfl⟩|hd
 ·obtain⟨cs,h1,h2,h3⟩:=h
  refine⟨cs,h1,h2,fun c d hc=>?_⟩
  obtain⟨y,h4,h5⟩:=h3 c d hc
  exact⟨y,h4,h5.cut (List.all_eq_true.1 (show ds.all _=true from hi) d (List.mem_of_getElem? hc))⟩
 ·rw[RT_ne hd]at h ⊢
  exact h.cut (by cases d<;>first|exact hi|cases hd)
theorem carE_get {k:Nat} {bs:List Nat} {e e':Env} {ks:List Nat} (h:carE k bs e ks=some e') (t:Nat):get t e'= .u∨(get t e'=get t e∧(get t e).inn k bs=true):=by
 induction ks generalizing e' with
 |nil=>simp only[carE]at h;injection h with h;subst h;exact .inl rfl
 |cons q r ih=>
  simp only[carE]at h
  split at h
  ·rename_i hq
   obtain⟨e1,h1,rfl⟩:=Option.map_eq_some_iff.1 h
   by_cases ht:t=q
   ·subst ht;right;simp only[get,if_true];exact⟨trivial,hq⟩
   ·simp only[get,if_neg ht];exact ih h1
  ·cases h
theorem carL_lk {k:Nat} {bs:List Nat} {l l':Bx} {rs:List Nat} (h:carL k bs l rs=some l') (b:Nat):(b∈rs->(lk b l').isSome)∧∀ds,lk b l'=some ds->b∈rs∧lk b l=some ds∧ds.all (D.in1 k bs)=true:=by
 induction rs generalizing l' with
 |nil=>simp only[carL]at h;injection h with h;subst h;exact⟨fun h=>by simp at h,fun ds hd=>by simp[lk]at hd⟩
 |cons q r ih=>
  simp only[carL]at h
  split at h
  ·rename_i ds0 hq
   split at h
   ·rename_i hall
    obtain⟨l1,h1,rfl⟩:=Option.map_eq_some_iff.1 h
    by_cases hb:b=q
    ·subst hb
     simp only[lk,if_true]
     exact⟨fun _=>rfl,fun ds hd=>by injection hd with hd;subst hd;exact⟨by simp,hq,hall⟩⟩
    ·simp only[lk,List.mem_cons,hb,false_or,if_false]
     exact ih h1
   ·cases h
  ·cases h
theorem bnd_in {k f:Nat} {bs:List Nat} {d:D} (h:d.bnd1 (f+1)=true) (hf:f<k) (hu:d.sto1=true∨d= .u∨∃x,d= .v x):d.in1 k bs=true:=by
 cases d with
 |v x=>rfl
 |sl m z xs=>rfl
 |u=>rfl
 |ptr f' s off=>simp[D.bnd1]at h;simp[D.in1];omega
 |fptr cs off=>rfl
 |yld f' s=>simp[D.bnd1]at h;simp[D.in1];omega
 |ref f' s off n z=>simp[D.bnd1]at h;simp[D.in1];omega
 |clo fn caps=>
  refine List.all_eq_true.2 fun c hc=>?_
  have:=List.all_eq_true.1 (show caps.all _=true from h) c hc
  cases c with
  |ptr f' s off=>simp at this ⊢;left;omega
  |v y=>rfl
  |fptr cs off=>rfl
  |_=>cases this
 |_=>rcases hu with hu|hu|⟨x,hu⟩<;>cases hu
theorem RC.kinds {ℓ:Loc} {x:Value} {d:D} (h:RC g w ℓ x d):d.sto1=true∨d= .u∨∃x,d= .v x:=by
 cases d with
 |v y=>exact .inr (.inr ⟨y,rfl⟩)
 |u=>exact .inr (.inl rfl)
 |sl m z xs=>exact .inl rfl
 |ptr f s off=>exact .inl rfl
 |fptr cs off=>exact .inl rfl
 |clo fn caps=>exact .inl rfl
 |yld f s=>exact .inl rfl
 |ref f s off n z=>exact .inl rfl
 |_=>exact h.elim
theorem SB.cut {k:Nat} {bs:List Nat} {B:List Bx} (h:SB g w B) (B':List Bx) (hlow:∀f b,f≠k->bxl B' f b=bxl B f b) (hup:∀f b,(g.bx f b).isSome->f<=k)
  (hk:∀b,(b∈bs->(bxl B' k b).isSome)∧∀ds,bxl B' k b=some ds->b∈bs∧bxl B k b=some ds∧ds.all (D.in1 k bs)=true):SB (g.cut k bs) w B':=by
 have rb:∀f b ds,bxl B f b=some ds->(∀d∈ds,d.in1 k bs=true∨∃st j rid ks,d= .rcd st j rid ks)->(f=k->b∈bs)->RB (g.cut k bs) w f b ds:=by
  intro f b ds hds hin hb
  have hbx:∀blk,g.bx f b=some blk->(g.cut k bs).bx f b=some blk:=fun blk h1=>by
   show(if _ then _ else _)=_
   rw[if_neg fun e=>e.2 (hb e.1)];exact h1
  have hc1:∀{ℓ:Loc} {y:Value} {d:D},d∈ds->RC g w ℓ y d->RC (g.cut k bs) w ℓ y d:=fun{ℓ y d} hd h6=>by
   rcases hin d hd with hi|⟨st,j,rid,ks,rfl⟩
   ·exact h6.cut hi
   ·exact h6.elim
  rcases h.rel f b ds hds with⟨h0,blk,cs,et,h1,h2,h3,h4⟩|⟨h0,hM,l,r,st,j,rid,ks,caps,h1,h2,h3,h4,h4',h5,h6,h7,h8⟩|⟨h0,hm⟩
  ·refine .inl ⟨h0,blk,cs,et,hbx _ h1,h2,h3,fun c d hc=>?_⟩
   obtain⟨y,h5,h6⟩:=h4 c d hc
   exact⟨y,h5,hc1 (List.mem_of_getElem? hc) h6⟩
  ·exact .inr (.inl ⟨h0,hM,l,r,st,j,rid,ks,caps,hbx _ h1,h2,h3,h4,h4',h5,h6,h7,fun c d t hc ht=>hc1 (by rw[h3];exact List.mem_cons_of_mem _ (List.mem_of_getElem? hc)) (h8 c d t hc ht)⟩)
  ·exact .inr (.inr ⟨h0,hm.up hbx fun _ _=>rfl⟩)
 refine⟨fun f b ds hds=>?_,fun f b hd=>?_,fun f b ds d hds hd=>?_⟩
 ·by_cases e:f=k
  ·subst e
   obtain⟨h1,h2,h3⟩:=(hk b).2 ds hds
   exact rb _ _ _ h2 (fun d hd=>.inl (List.all_eq_true.1 h3 d hd)) fun _=>h1
  ·rw[hlow f b e]at hds
   refine rb _ _ _ hds (fun d hd=>?_) fun e'=>absurd e' e
   have:=hup f b (h.rel f b ds hds).bx
   rcases h.rel f b ds hds with⟨h0,blk,cs,et,h1,h2,h3,h4⟩|⟨h0,hM,l,r,st,j,rid,ks,caps,h1,h2,h3,h4,h4',h5,h6,h7,h8⟩|⟨h0,hm⟩
   ·obtain⟨c,hc⟩:=List.mem_iff_getElem?.1 hd
    obtain⟨y,h5,h6⟩:=h4 c d hc
    exact .inl (bnd_in (h.bnd _ _ _ _ hds hd) (by omega) h6.kinds)
   ·have hd0:=hd
    rw[h3]at hd
    rcases List.mem_cons.1 hd with rfl|hd
    ·exact .inr ⟨_,_,_,_,rfl⟩
    ·obtain⟨c,hc⟩:=List.mem_iff_getElem?.1 hd
     have hlt:c<ks.length:=by rw[h7];exact getq_lt hc
     exact .inl (bnd_in (h.bnd _ _ _ _ hds hd0) (by omega) (h8 c d _ hc (List.getElem?_eq_getElem hlt)).kinds)
   ·obtain⟨x,rfl,_⟩:=hm.cell hd
    exact .inl rfl
 ·have hd':(if f=k∧¬ b∈bs then none else g.bx f b).isSome:=hd
  by_cases e:f=k
  ·subst e
   by_cases hb:b∈bs
   ·exact(hk b).1 hb
   ·simp[hb]at hd'
  ·rw[if_neg fun e'=>e e'.1]at hd'
   rw[hlow f b e]
   exact h.dom f b hd'
 ·by_cases e:f=k
  ·subst e
   obtain⟨h1,h2,h3⟩:=(hk b).2 ds hds
   exact h.bnd _ _ _ _ h2 hd
  ·rw[hlow f b e]at hds
   exact h.bnd _ _ _ _ hds hd
theorem Inv.cut {k:Nat} {bs:List Nat} (h:Inv g w):Inv (g.cut k bs) w where
 base:=h.base
 fresh:=h.fresh
 box:=fun f s b hb=>by
  have hb':(if f=k∧¬ s∈bs then none else g.bx f s)=some b:=hb
  split at hb'
  ·cases hb'
  ·exact h.box f s b hb'
 inj:=fun f s f' s' b h1 h2=>by
  have h1':(if f=k∧¬ s∈bs then none else g.bx f s)=some b:=h1
  have h2':(if f'=k∧¬ s'∈bs then none else g.bx f' s')=some b:=h2
  split at h1'<;>split at h2'<;>first|cases h1'|cases h2'|exact h.inj _ _ _ _ _ h1' h2'
 tk:=h.tk
 cells:=h.cells
 dm:=h.dm
 dt:=h.dt
theorem G.cut_ext {k:Nat} {bs:List Nat}:Ext k g w (g.cut k bs) w:=
 ⟨rfl,rfl,rfl,rfl,Nat.le_refl _,fun _ _=>rfl,fun _=>Nat.le_refl _,fun _ _ _=>rfl,eqb (fun f s hf=>by show(if _ then _ else _)=_;rw[if_neg fun e=>by omega]),fun b ℓ hb _ _=>⟨hb,rfl,rfl⟩,fun _ h=>h,Gr.refl _⟩
theorem carry_ok {tmps:Array Value} {ks bs:List Nat} (h:SN g w n tmps s) (hc:carry ks bs s=some s'):∃g',SN g' w n tmps s'∧Ext s.k g w g' w∧s'.k=s.k:=by
 unfold carry at hc
 split at hc
 ·rename_i e l he hl
  injection hc with hc
  subst hc
  refine⟨g.cut s.k bs,⟨⟨h.st.inv.cut,h.st.sb.cut _ (fun f b hf=>?_) (fun f b hb=>?_) (fun b=>?_),fun t=>?_⟩,h.size⟩,G.cut_ext,rfl⟩
  ·simp only[bxl,S.B]
   have hf':f≠s.o.length:=hf
   rcases Nat.lt_or_ge f s.o.length with hlt|hge
   ·rw[List.getElem?_append_left hlt,List.getElem?_append_left hlt]
   ·rw[List.getElem?_append_right hge,List.getElem?_append_right hge]
    have:f-s.o.length=(f-s.o.length-1)+1:=by omega
    rw[this];simp
  ·obtain⟨blk,hblk⟩:=Option.isSome_iff_exists.1 hb
   have:=h.boxlt (a:=⟨tmps,[]⟩) hblk
   omega
  ·have hk:=carL_lk hl b
   have e1:bxl (⟨e,l,s.o⟩:S).B s.k b=lk b l:=by simp[bxl,S.B,S.k]
   have e2:bxl s.B s.k b=lk b s.l:=by simp[bxl,S.B,S.k]
   rw[e1,e2]
   exact hk
  ·show RT _ _ (slotL s.k t) _ (get t e)
   rcases carE_get he t with h1|⟨h1,h2⟩
   ·rw[h1];trivial
   ·rw[h1];exact(h.st.e t).cut h2
 ·cases hc
end
section
variable {g:G} {w:World} {n:Nat} {a:Act} {s s':S} {call:Caller}
def Rnd (g:G) (ro:Option Nat) (k:Nat):Prop:=∀l,ro=some l->∃f b,f<k∧RL<=b∧b<ML∧g.bx f b=some l
theorem Rnd.ext {g g':G} {w w':World} {ro:Option Nat} {k:Nat} (h:Rnd g ro k) (e:Ext k g w g' w'):Rnd g' ro k:=fun l hl=>by
 obtain⟨f,b,h1,h2,hM,h3⟩:=h l hl
 exact⟨f,b,h1,h2,hM,e.bx f b _ h1 h3⟩
theorem enter_ok {ro:Option Nat} (h:SN g w n a.tmps s) (hro:Rnd g ro s.k) (fn:FuncId) (ps:Array Tmp) (asg body:Code):∃g1 w1 mark dv,SN g1 w1 n a.tmps s∧Ext s.k g w g1 w1∧Marks g g1 a.defers (mark++a.defers)∧
  (Instr.enterLoop fn a.tmps ps asg body ro).run P w= .ok (w1.heap.size,mark) (w1.alloc (.loop {state:=.ready,pending:=none,fn,tmps:=a.tmps,params:=ps,assign:=asg,body,defers:=dv})):=by
 cases ro with
 |none=>
  obtain⟨h1,h2,h3⟩:=newmark_ok h
  refine⟨_,_,[mkD w.heap.size],w.heap.size,h1,h2,⟨[w.heap.size],rfl,by simp,fun b hb=>?_⟩,?_⟩
  ·simp at hb
   subst hb
   exact⟨h3,by show(if _ then _ else _)=_;rw[if_pos rfl]⟩
  ·rw[run_enterLoop_outer,alloc_size];rfl
 |some l=>
  obtain⟨f,b,q1,q2,hM,q3⟩:=hro l rfl
  have hd:=h.st.sb.dom f b (by rw[q3];rfl)
  obtain⟨ds,hds⟩:=Option.isSome_iff_exists.1 hd
  obtain⟨l',r',st',j',rid',ks',caps',e1,e2,_⟩:=(h.st.sb.rel f b ds hds).rr q2 hM
  rw[q3]at e1
  injection e1 with e1
  subst e1
  refine⟨g,w,[],r'.defers,h,Ext.refl _ _ _,Marks.same rfl,?_⟩
  unfold Instr.enterLoop
  simp only[Sem.run_bind,run_getLoop e2,run_newObj_alloc,Result.andThen,Sem.run_pure]
theorem rf_ok {ro:Option Nat} (hg:Good P call) {x:Operand} {x':Opd} {ps:Array Tmp} {asg body:Code} {b rid:Nat} {ks:List Nat} (hx:MOpd x x') (hb:RL<=b) (hbm:b<ML) (hr:RL<=rid) (hrnd:roundOf PP rid=some (n,ps,asg,body)) {e:Ex}
  {Q:Exit->Act->World->Prop} (h:SN g w n a.tmps s) (hro:Rnd g ro s.k) (he:evR call x' b rid ks s=some (e,s'))
  (hq:∀a' w' g',SN g' w' n a'.tmps s'->Ext s.k g w g' w'->s'.k=s.k->Marks g g' a.defers a'.defers->Q e.to a' w'):(Code.rangeFunc x ps asg body).wpIn (W ro) 0 P Q a w:=by
 unfold evR at he
 split at he
 ·rename_i fn caps0 hfn
  split at he
  ·rename_i hc
   split at he
   ·rename_i r1 s2 hcall
    split at he
    ·rename_i st jm rid2 ks2 caps2 hrec
     split at he
     ·cases he
     ·rename_i hst
      injection he with he
      injection he with e1 e2
      subst e1
      refine wpIn_rangeFunc fun fid _=>?_
      obtain⟨g1,w1,mark,dv,k1,k2,k3,k4⟩:=enter_ok (P:=P) h hro fid ps asg body
      generalize hrc:({state:=.ready,pending:=none,fn:=fid,tmps:=a.tmps,params:=ps,assign:=asg,body,defers:=dv}:Loop)=rc at k4
      obtain⟨g2,q1,q2,q3,hkeep⟩:=newrec_ok (r:=rc) k1 hb hbm (Option.isNone_iff_eq_none.1 hc.1) hr (by rw[<-hrc];show roundOf PP rid=some (a.tmps.size,ps,asg,body);rw[h.size];exact hrnd) (by rw[<-hrc]) (by rw[<-hrc]) (by rw[<-hrc]) hc.2
      generalize hs1:s.wl (ins b (D.rcd 0 0 rid ks::ks.map fun t=>(get t s.e).strip) s.l)=s1 at q1 hcall
      have hk1:s1.k=s.k:=by rw[<-hs1];rfl
      obtain⟨L,hL⟩:=rd_at k1 hx
      rw[hfn]at hL
      obtain⟨z0,vs,z1,z2,z3⟩:=(show RC g1 w1 (L 0 0) (a.eval x) (.clo fn caps0)from hL)
      have hyl:RC g2 (w1.alloc (.loop rc)) (flyL 0 0 0) (.func (.yield w1.heap.size) #[] #[]) (.yld s.k b):=⟨hb,_,q2,(if_pos hbm).symm⟩
      obtain⟨c1,c2⟩:=call_ok (a:=a) (vs:= #[.func (.yield w1.heap.size) #[] #[]]++vs) hg z0 q1 hcall (by simp[z2];omega) (fun i d hi=>by
       cases i with
       |zero=>simp at hi;subst hi;exact⟨.func (.yield w1.heap.size) #[] #[],by rw[Array.getElem?_append_left (by simp)];rfl,hyl⟩
       |succ i=>
        obtain⟨y,r1,r2⟩:=z3 i d (by simpa using hi)
        refine⟨y,by rw[Array.getElem?_append_right (by simp)];simpa using r1,RP.toRV (r2.keep q3.cell q3.fr hkeep)⟩)
      obtain⟨fnn,v1,v2,v3⟩:=c1
      refine⟨w1.heap.size,mark,w1.alloc (.loop rc),{target:=.fn (.func fn) vs,args:= #[.func (.yield w1.heap.size) #[] #[]]},w1.alloc (.loop rc),fn,#[.func (.yield w1.heap.size) #[] #[]]++vs,w1.alloc (.loop rc),k4,?_,fun _ _=>trivial,?_,fun hs=>by simp[W,Fence.wide]at hs,?_⟩
      ·simp only[resolve,z1]
       simp[go_sem]
      ·have hrr:(callFunc fn (#[.func (.yield w1.heap.size) #[] #[]]++vs)).run P (w1.alloc (.loop rc))= .ok (.enter fn (#[.func (.yield w1.heap.size) #[] #[]]++vs)) (w1.alloc (.loop rc)):=by
        unfold callFunc
        rw[Sem.run_bind,show(program).run P (w1.alloc (.loop rc))= .ok P (w1.alloc (.loop rc))from rfl]
        simp only[Result.andThen_ok,v1,v2,v3,Bool.false_eq_true,if_false]
        rfl
       rw[<-hrr]
       simp[invoke]
      ·have c3:CallsIn (W ro) 0 P fn (#[.func (.yield w1.heap.size) #[] #[]]++vs) (w1.alloc (.loop rc)) _:=c2
       refine c3.mono ?_
       rintro e' w3 ⟨y,g3,rfl,r1,r2,r3,r4⟩
       have hk2:s2.k=s.k:=r4.trans hk1
       have hrec':Ev.bx s.k b s2=some (.rcd st jm rid2 ks2::caps2):=by
        unfold Ev.bx
        rw[if_pos (show s.k=s2.o.length from hk2.symm)]
        exact hrec
       have hbx3:g3.bx s.k b=some w1.heap.size:=r3.bx s.k b _ (by rw[hk1];omega) q2
       obtain⟨l0,r0,st0,j0,rid0,ks0,caps0',y1,y2,y3,y4,y5,y6,y7,y8,y9⟩:=(r1.st.sb.rel s.k b _ (bx_bxl hrec')).r hb
       rw[hbx3]at y1
       injection y1 with y1
       subst y1
       injection y3 with y3 y3'
       injection y3 with x1 x2 x3 x4
       subst x1 x2 x3 x4 y3'
       have hnb:r0.state≠ .busy:=by
        rw[y6]
        match st,hst with
        |0,_=>exact fun e=>by cases e
        |1,hs=>exact absurd rfl hs
        |2,_=>exact fun e=>by cases e
        |q+3,_=>exact fun e=>by cases e
       obtain⟨m1,m2⟩:=wrec_ok (st':=3) (j':=jm) r1 hb hrec' hbx3 y2 {r0 with state:=.exhausted} ⟨rfl,rfl,rfl,rfl⟩ rfl y7
       have hs':sbx s.k b (.rcd 3 jm rid2 ks2::caps2) s2=s':=by
        rw[<-e2]
        unfold sbx
        rw[if_pos (show s.k=s2.o.length from hk2.symm)]
       rw[hs']at m1
       have hE:Ext s.k g w g3 (w3.putObj w1.heap.size (.loop {r0 with state:=.exhausted})):=((k2.trans q3).trans (r3.less (by rw[hk1];omega))).trans (m2 _)
       have hE2:Ext s.k g1 w1 g3 (w3.putObj w1.heap.size (.loop {r0 with state:=.exhausted})):=(q3.trans (r3.less (by rw[hk1];omega))).trans (m2 _)
       have hM:Marks g g3 a.defers (mark++a.defers):=k3.trans (Marks.same rfl) k2 hE2
       have hk':s'.k=s.k:=by rw[<-hs',sbx_k];exact hk2
       have hel:=run_endLoop (P:=P) y2 hnb
       generalize w3.putObj w1.heap.size (.loop {r0 with state:=.exhausted})=W4 at m1 hE hE2 hel
       refine⟨r0.pending,W4,hel,?_⟩
       rw[y7]
       match jm with
       |0=>exact hq {a with defers:=mark++a.defers} _ g3 m1 hE hk' hM
       |1=>exact wpIn_ret (hq {a with defers:=mark++a.defers} _ g3 m1 hE hk' hM)
       |q+2=>exact wpIn_exit (hq {a with defers:=mark++a.defers} _ g3 m1 hE hk' hM)
    ·cases he
   ·cases he
  ·cases he
 ·cases he
def Ex.toG (l:Nat):Ex->Exit
 | .nm=>.goto l
 | .ex id=>.exit id
 | .rt=>.ret
def Cok (P:Program) (n:Nat) (call:Caller) (ro:Option Nat):Mo->Code->Cd->Prop
 | .pl,c,c'=>∀{g:G} {w:World} {a:Act} {s s':S} {x:Ex} {Q:Exit->Act->World->Prop},SN g w n a.tmps s->Rnd g ro s.k->evC call c' s=some (x,s')->
  (∀a' w' g',SN g' w' n a'.tmps s'->Ext s.k g w g' w'->s'.k=s.k->Marks g g' a.defers a'.defers->Q x.to a' w')->c.wpIn (W ro) 0 P Q a w
 | .G l,c,c'=>∀{g:G} {w:World} {a:Act} {s s':S} {x:Ex} {Q:Exit->Act->World->Prop},SN g w n a.tmps s->Rnd g ro s.k->evC call c' s=some (x,s')->
  (∀a' w' g',SN g' w' n a'.tmps s'->Ext s.k g w g' w'->s'.k=s.k->Marks g g' a.defers a'.defers->Q (x.toG l) a' w')->c.wpIn (W ro) 0 P Q a w
 | .J l r,c,c'=>findLabel c l=some (.seq .skip r)∧∃b' ks bs,(∀{g:G} {w:World} {a:Act} {s s':S} {x:Ex} {Q:Exit->Act->World->Prop},SN g w n a.tmps s->Rnd g ro s.k->evC call b' s=some (x,s')->
   (∀a' w' g',SN g' w' n a'.tmps s'->Ext s.k g w g' w'->s'.k=s.k->Marks g g' a.defers a'.defers->Q (x.toG l) a' w')->r.wpIn (W ro) 0 P Q a w)∧
  ∀{g:G} {w:World} {a:Act} {s s':S} {x:Ex} {Q:Exit->Act->World->Prop},SN g w n a.tmps s->Rnd g ro s.k->evC call c' s=some (x,s')->
  ∀I:Act->World->Prop,(∀a1 w1 s1 g1 m,iter (evC call b') (carry ks bs) m s1=some (x,s')->SN g1 w1 n a1.tmps s1->Ext s.k g w g1 w1->s1.k=s.k->Marks g g1 a.defers a1.defers->I a1 w1)->
  (∀a' w' g',SN g' w' n a'.tmps s'->Ext s.k g w g' w'->s'.k=s.k->Marks g g' a.defers a'.defers->Q x.to a' w')->c.wpIn (W ro) 0 P (jumpTo l I Q) a w
theorem code_okx {ro:Option Nat} (hg:Good P call) {m:Mo} {c:Code} {c':Cd} (hm:MCx P n m c c'):Cok P n call ro m c c':=by
 induction hm with
 |sk=>intro g w a s s' x Q h hrn he hq;simp only[evC]at he;injection he with he;injection he with e1 e2;subst e1 e2;exact wpIn_skip (hq a w g h (Ext.refl _ _ _) rfl (Marks.same rfl))
 |ex=>intro g w a s s' x Q h hrn he hq;simp only[evC]at he;injection he with he;injection he with e1 e2;subst e1 e2;exact wpIn_exit (hq a w g h (Ext.refl _ _ _) rfl (Marks.same rfl))
 |rt=>intro g w a s s' x Q h hrn he hq;simp only[evC]at he;injection he with he;injection he with e1 e2;subst e1 e2;exact wpIn_ret (hq a w g h (Ext.refl _ _ _) rfl (Marks.same rfl))
 |rg hops=>
  intro g w a s s' x Q h hrn he hq
  simp only[evC]at he
  obtain⟨s1,h1,h2⟩:=Option.map_eq_some_iff.1 he
  injection h2 with e1 e2
  subst e1 e2
  exact wpIn_region (ops_ok hg hops h h1 fun a' w' g' q1 q2 q3 q4=>hq a' w' g' q1 q2 q3 (Marks.same q4))
 |rf hx hb hbm hr hro=>intro g w a s s' x Q h hrn he hq;simp only[evC]at he;exact rf_ok hg hx hb hbm hr hro h hrn he hq
 |dr hmx hops hD=>
  intro g w a s s' x Q h hrn he hq
  simp only[evC]at he
  obtain⟨s1,h1,h2⟩:=Option.map_eq_some_iff.1 he
  injection h2 with e1 e2
  subst e1 e2
  exact dr_ok hg hmx hops hD h h1 fun a' w' g' q1 q2 q3 q4=>hq a' w' g' q1 q2 q3 (Marks.same q4)
 |dra hmx hops hlt hdp=>
  intro g w a s s' x Q h hrn he hq
  simp only[evC]at he
  split at he
  ·split at he
   ·rename_i s1 _ hR
    injection he with he
    injection he with e1 e2
    subst e1 e2
    exact dra_ok hg hmx hops hlt hdp h hR fun a' w' g' q1 q2 q3 q4=>hq a' w' g' q1 q2 q3 (Marks.same q4)
   ·cases he
  ·cases he
 |gs hl hc ih=>
  intro g w a s s' x Q h hrn he hq
  simp only[evC]at he
  split at he
  ·rename_i s1 h1
   obtain⟨g1,k1,k2,k3⟩:=gs_ok h hl h1
   exact ih k1 (by rw[k3];exact hrn.ext k2) he fun a2 w2 g2 r1 r2 r3 r4=>hq a2 w2 g2 r1 (k2.trans (by rw[k3]at r2;exact r2)) (r3.trans k3) ((Marks.same rfl).trans r4 k2 (by rw[k3]at r2;exact r2))
  ·cases he
 |sc hc ih=>
  intro g w a s s' x Q h hrn he hq
  simp only[evC,evG]at he
  exact wpIn_scope (ih h hrn he fun a2 w2 g2 r1 r2 r3 r4=>by
   have:=hq a2 w2 g2 r1 r2 r3 r4
   cases x<;>exact this)
 |tg hl hc ih=>
  intro g w a s s' x Q h hrn he hq
  simp only[evC]at he
  split at he
  ·rename_i s1 h1
   split at he
   ·rename_i s2 h2
    injection he with he
    injection he with e1 e2
    subst e1 e2
    refine ih h hrn h1 fun a1 w1 g1 q1 q2 q3 q4=>?_
    obtain⟨g2,k1,k2,k3⟩:=gs_ok q1 hl h2
    exact hq a1 w1 g2 k1 (q2.trans (by rw[q3]at k2;exact k2)) (k3.trans q3) (q4.trans (Marks.same rfl) q2 k2)
   ·cases he
  ·rename_i hne
   refine ih h hrn he fun a1 w1 g1 q1 q2 q3 q4=>hq a1 w1 g1 q1 q2 q3 q4
 |lb=>intro g w a s s' x Q h hrn he hq;simp only[evC]at he;injection he with he;injection he with e1 e2;subst e1 e2;exact wpIn_label (hq a w g h (Ext.refl _ _ _) rfl (Marks.same rfl))
 |sq ha hb iha ihb=>
  intro g w a s s' x Q h hrn he hq
  simp only[evC]at he
  split at he
  ·rename_i s1 h1
   refine wpIn_seq (iha h hrn h1 fun a1 w1 g1 q1 q2 q3 q4=>?_)
   exact ihb q1 (by rw[q3];exact hrn.ext q2) he fun a2 w2 g2 r1 r2 r3 r4=>hq a2 w2 g2 r1 (q2.trans (by rw[q3]at r2;exact r2)) (r3.trans q3) (q4.trans r4 q2 r2)
  ·rename_i hne
   refine wpIn_seq (iha h hrn he fun a1 w1 g1 q1 q2 q3 q4=>?_)
   have:=hq a1 w1 g1 q1 q2 q3 q4
   cases x with
   |nm=>exact absurd he (hne s')
   |ex id=>exact this
   |rt=>exact this
 |ff hc ha hb iha ihb=>
  intro g w a s s' x Q h hrn he hq
  simp only[evC]at he
  split at he
  ·rename_i q hv
   have hv':=rd_v h hc hv
   cases q with
   |true=>exact wpIn_cond_true hv' (iha h hrn he hq)
   |false=>exact wpIn_cond_false hv' (ihb h hrn he hq)
  ·cases he
 | @bl id c c' ha iha=>
  intro g w a s s' x Q h hrn he hq
  simp only[evC]at he
  split at he
  ·rename_i i s1 h1
   by_cases e:i=id
   ·rw[if_pos e]at he
    injection he with he
    injection he with e1 e2
    subst e1 e2 e
    exact wpIn_block (iha h hrn h1 fun a1 w1 g1 q1 q2 q3 q4=>by simp only[Ex.to,Exit.inBlock,if_true];exact hq a1 w1 g1 q1 q2 q3 q4)
   ·rw[if_neg e]at he
    injection he with he
    injection he with e1 e2
    subst e1 e2
    exact wpIn_block (iha h hrn h1 fun a1 w1 g1 q1 q2 q3 q4=>by simp only[Ex.to,Exit.inBlock,if_neg e];exact hq a1 w1 g1 q1 q2 q3 q4)
  ·rename_i hne
   refine wpIn_block (iha h hrn he fun a1 w1 g1 q1 q2 q3 q4=>?_)
   have:=hq a1 w1 g1 q1 q2 q3 q4
   cases x with
   |nm=>exact this
   |ex i=>exact absurd he (hne i s')
   |rt=>exact this
 | @lp c c' ks bs ha iha=>
  intro g w a s s' x Q h hrn he hq
  simp only[evC]at he
  obtain⟨m,hm⟩:=lim_some he
  -- what holds at the head of a round: so many rounds are left
  let I0:Nat->Act->World->Prop:=fun m a1 w1=>∃s1 g1,iter (evC call c') (carry ks bs) m s1=some (x,s')∧SN g1 w1 n a1.tmps s1∧Ext s.k g w g1 w1∧s1.k=s.k∧Marks g g1 a.defers a1.defers
  open Classical in
  refine wpIn_loop (fun a1 w1=>∃m,I0 m a1 w1) (fun a1 w1=>if hx:∃m,I0 m a1 w1 then(least hx).choose else 0) ⟨m,s,g,hm,h,Ext.refl _ _ _,rfl,Marks.same rfl⟩ ?_
  intro a1 w1 hI
  have hfind:=(least hI).choose_spec.1
  have hmu:(if hx:∃m,I0 m a1 w1 then(least hx).choose else 0)=(least hI).choose:=dif_pos hI
  rw[hmu]
  generalize(least hI).choose=m0 at hfind
  obtain⟨s1,g1,h1,h2,h3,h4,h5⟩:=hfind
  cases m0 with
  |zero=>simp[iter]at h1
  |succ m0=>
   simp only[iter]at h1
   split at h1
   ·cases h1
   ·rename_i s2 hcar
    obtain⟨g2,k1,k2,k3⟩:=carry_ok h2 hcar
    split at h1
    ·cases h1
    ·rename_i s3 hbody
     have hrn2:Rnd g2 ro s2.k:=by rw[k3,h4];exact hrn.ext (h3.trans (by rw[h4]at k2;exact k2))
     refine iha k1 hrn2 hbody fun a2 w2 g3 q1 q2 q3 q4=>?_
     have hM:Marks g g3 a.defers a2.defers:=h5.trans ((Marks.same rfl).trans q4 k2 q2) h3 (k2.trans (by rw[k3]at q2;exact q2))
     have hnext:I0 m0 a2 w2:=⟨s3,g3,h1,q1,(h3.trans (by rw[h4]at k2;exact k2)).trans (by rw[k3,h4]at q2;exact q2),q3.trans (k3.trans h4),hM⟩
     refine⟨⟨m0,hnext⟩,?_⟩
     rw[dif_pos ⟨m0,hnext⟩]
     exact Nat.lt_succ_of_le ((least (p:=fun m=>I0 m a2 w2) ⟨m0,hnext⟩).choose_spec.2 _ hnext)
    ·rename_i y s3 hne hbody
     injection h1 with h1
     injection h1 with e1 e2
     subst e1 e2
     have hrn2:Rnd g2 ro s2.k:=by rw[k3,h4];exact hrn.ext (h3.trans (by rw[h4]at k2;exact k2))
     refine iha k1 hrn2 hbody fun a2 w2 g3 q1 q2 q3 q4=>?_
     have hM:Marks g g3 a.defers a2.defers:=h5.trans ((Marks.same rfl).trans q4 k2 q2) h3 (k2.trans (by rw[k3]at q2;exact q2))
     have:=hq a2 w2 g3 q1 ((h3.trans (by rw[h4]at k2;exact k2)).trans (by rw[k3,h4]at q2;exact q2)) (q3.trans (k3.trans h4)) hM
     cases y with
     |nm=>exact absurd rfl hne
     |ex id=>exact this
     |rt=>exact this
 |dd=>intro g w a s s' x Q h hrn he hq;cases he
 |gh=>intro g w a s s' x Q h hrn he hq;simp only[evC]at he;injection he with he;injection he with e1 e2;subst e1 e2;exact wpIn_goto (hq a w g h (Ext.refl _ _ _) rfl (Marks.same rfl))
 |gq ha hb iha ihb=>
  intro g w a s s' x Q h hrn he hq
  simp only[evC]at he
  split at he
  ·rename_i s1 h1
   refine wpIn_seq (iha h hrn h1 fun a1 w1 g1 q1 q2 q3 q4=>?_)
   exact ihb q1 (by rw[q3];exact hrn.ext q2) he fun a2 w2 g2 r1 r2 r3 r4=>hq a2 w2 g2 r1 (q2.trans (by rw[q3]at r2;exact r2)) (r3.trans q3) (q4.trans r4 q2 r2)
  ·rename_i hne
   refine wpIn_seq (iha h hrn he fun a1 w1 g1 q1 q2 q3 q4=>?_)
   have:=hq a1 w1 g1 q1 q2 q3 q4
   cases x with
   |nm=>exact absurd he (hne s')
   |ex id=>exact this
   |rt=>exact this
 | @jh l r b' ks bs hr ihr=>
  refine⟨by simp[findLabel],b',ks,bs,ihr,?_⟩
  intro g w a s s' x Q h hrn he I hI hq
  simp only[evC]at he
  obtain⟨m,hm⟩:=lim_some he
  refine wpIn_seq (wpIn_label ?_)
  cases m with
  |zero=>simp[iter]at hm
  |succ m=>
   simp only[iter]at hm
   split at hm
   ·cases hm
   ·rename_i s2 hcar
    obtain⟨g2,k1,k2,k3⟩:=carry_ok h hcar
    have hrn2:Rnd g2 ro s2.k:=by rw[k3];exact hrn.ext k2
    split at hm
    ·cases hm
    ·rename_i s3 hbody
     refine ihr k1 hrn2 hbody fun a2 w2 g3 q1 q2 q3 q4=>?_
     exact⟨rfl,hI a2 w2 s3 g3 m hm q1 (k2.trans (by rw[k3]at q2;exact q2)) (q3.trans k3) ((Marks.same rfl).trans q4 k2 (by rw[k3]at q2;exact q2))⟩
    ·rename_i y s3 hne hbody
     injection hm with hm
     injection hm with e1 e2
     subst e1 e2
     refine ihr k1 hrn2 hbody fun a2 w2 g3 q1 q2 q3 q4=>?_
     have:=hq a2 w2 g3 q1 (k2.trans (by rw[k3]at q2;exact q2)) (q3.trans k3) ((Marks.same rfl).trans q4 k2 (by rw[k3]at q2;exact q2))
     cases y with
     |nm=>exact absurd rfl hne
     |ex id=>exact this
     |rt=>exact this
 |js hno ha hb iha ihb=>
  obtain⟨f1,b',ks,bs,f2,f3⟩:=ihb
  refine⟨by simp only[findLabel,hno];exact f1,b',ks,bs,f2,?_⟩
  intro g w a s s' x Q h hrn he I hI hq
  simp only[evC]at he
  split at he
  ·rename_i s1 h1
   refine wpIn_seq (iha h hrn h1 fun a1 w1 g1 q1 q2 q3 q4=>?_)
   exact f3 q1 (by rw[q3];exact hrn.ext q2) he I (fun a2 w2 s2 g2 m j1 j2 j3 j4 j5=>hI a2 w2 s2 g2 m j1 j2 (q2.trans (by rw[q3]at j3;exact j3)) (j4.trans q3) (q4.trans j5 q2 j3)) fun a2 w2 g2 r1 r2 r3 r4=>hq a2 w2 g2 r1 (q2.trans (by rw[q3]at r2;exact r2)) (r3.trans q3) (q4.trans r4 q2 r2)
  ·rename_i hne
   refine wpIn_seq (iha h hrn he fun a1 w1 g1 q1 q2 q3 q4=>?_)
   have:=hq a1 w1 g1 q1 q2 q3 q4
   cases x with
   |nm=>exact absurd he (hne s')
   |ex id=>exact this
   |rt=>exact this
 | @sj c c' l r hc ihc=>
  obtain⟨f1,b',ks,bs,f2,f3⟩:=ihc
  intro g w a s s' x Q h hrn he hq
  let I0:Nat->Act->World->Prop:=fun m a1 w1=>∃s1 g1,iter (evC call b') (carry ks bs) m s1=some (x,s')∧SN g1 w1 n a1.tmps s1∧Ext s.k g w g1 w1∧s1.k=s.k∧Marks g g1 a.defers a1.defers
  open Classical in
  refine wpIn_jumps l (fun a1 w1=>∃m,I0 m a1 w1) (fun a1 w1=>if hx:∃m,I0 m a1 w1 then(least hx).choose else 0) f1 (f3 h hrn he _ (fun a1 w1 s1 g1 m j1 j2 j3 j4 j5=>⟨m,s1,g1,j1,j2,j3,j4,j5⟩) hq) ?_
  intro a1 w1 hI
  have hfind:=(least hI).choose_spec.1
  have hmu:(if hx:∃m,I0 m a1 w1 then(least hx).choose else 0)=(least hI).choose:=dif_pos hI
  rw[hmu]
  generalize(least hI).choose=m0 at hfind
  obtain⟨s1,g1,h1,h2,h3,h4,h5⟩:=hfind
  refine wpIn_seq (wpIn_skip ?_)
  cases m0 with
  |zero=>simp[iter]at h1
  |succ m0=>
   simp only[iter]at h1
   split at h1
   ·cases h1
   ·rename_i s2 hcar
    obtain⟨g2,k1,k2,k3⟩:=carry_ok h2 hcar
    have hrn2:Rnd g2 ro s2.k:=by rw[k3,h4];exact hrn.ext (h3.trans (by rw[h4]at k2;exact k2))
    split at h1
    ·cases h1
    ·rename_i s3 hbody
     refine f2 k1 hrn2 hbody fun a2 w2 g3 q1 q2 q3 q4=>?_
     have hM:Marks g g3 a.defers a2.defers:=h5.trans ((Marks.same rfl).trans q4 k2 q2) h3 (k2.trans (by rw[k3]at q2;exact q2))
     have hnext:I0 m0 a2 w2:=⟨s3,g3,h1,q1,(h3.trans (by rw[h4]at k2;exact k2)).trans (by rw[k3,h4]at q2;exact q2),q3.trans (k3.trans h4),hM⟩
     refine⟨rfl,⟨m0,hnext⟩,?_⟩
     rw[dif_pos ⟨m0,hnext⟩]
     exact Nat.lt_succ_of_le ((least (p:=fun m=>I0 m a2 w2) ⟨m0,hnext⟩).choose_spec.2 _ hnext)
    ·rename_i y s3 hne hbody
     injection h1 with h1
     injection h1 with e1 e2
     subst e1 e2
     refine f2 k1 hrn2 hbody fun a2 w2 g3 q1 q2 q3 q4=>?_
     have hM:Marks g g3 a.defers a2.defers:=h5.trans ((Marks.same rfl).trans q4 k2 q2) h3 (k2.trans (by rw[k3]at q2;exact q2))
     have:=hq a2 w2 g3 q1 ((h3.trans (by rw[h4]at k2;exact k2)).trans (by rw[k3,h4]at q2;exact q2)) (q3.trans (k3.trans h4)) hM
     cases y with
     |nm=>exact absurd rfl hne
     |ex id=>exact this
     |rt=>exact this
theorem code_ok {ro:Option Nat} (hg:Good P call) {c:Code} {c':Cd} (hm:MCd P n c c') {g:G} {w:World} {a:Act} {s s':S} {x:Ex} {Q:Exit->Act->World->Prop} (h:SN g w n a.tmps s) (hr:Rnd g ro s.k) (he:evC call c' s=some (x,s'))
  (hq:∀a' w' g',SN g' w' n a'.tmps s'->Ext s.k g w g' w'->s'.k=s.k->Marks g g' a.defers a'.defers->Q x.to a' w'):c.wpIn (W ro) 0 P Q a w:=code_okx hg hm h hr he hq
end
end Go.Proofs.Ytfopbiiffiickaa.Ev
