/- Steps in another order. Conditions: none. -/
import Derived.Test.YtfopbiiffiickaaEv1
import Derived.Test.YtfopbiiffiickaaEv6
import Derived.RangeFuncRecord
import Derived.WideKeyRuns
import Derived.Test.YtfopbiiffiickaaEvC
set_option linter.all false
namespace Go.Proofs.Ytfopbiiffiickaa.Ev
open Go
variable {P:Program}
section
variable {w:World}
def idV (a c:Int):Value:=.agg #[.int .i64 a,.int .u32 c]
theorem plain_int {u:TypeDesc} {k:IntKind} {n:Int} (h:plainT u (.int k n)=true):∃k',u= .int k':=by
 cases u<;>first|(cases h;done)|exact⟨_,rfl⟩
theorem chk_int {t:TypeId} {k:IntKind} (h:P.underlying t=some (.int k)) (em:Bool) (v:Value) (hv:∃q n,v= .int q n) (n:Nat):(Instr.checkKey em (n+1) t v).run P w= .ok () w:=by
 obtain⟨q,m,rfl⟩:=hv
 simp[Instr.checkKey,run_underlying h]
theorem run_check {k:TypeId} (hk:IdKey P k) (em:Bool) (a c:Int):(Instr.checkKey em 10000 k (idV a c)).run P w= .ok () w:=by
 obtain⟨fs,h1,h2,h3⟩:=hk.st
 show(Instr.checkKey em (9999+1) k _).run P w=_
 rw[Instr.checkKey]
 simp only[run_underlying h1,Sem.run_bind,Result.andThen_ok,idV]
 rw[<-Array.forIn_toList]
 generalize fs.toList=l at h3
 cases h3 with
 |cons ho hn hu hd hr=>
  cases hr with
  |cons ho' hn' hu' hd' hr'=>
   cases hr'
   obtain⟨k1,rfl⟩:=plain_int hd
   obtain⟨k2,rfl⟩:=plain_int hd'
   have p1:=part_one (w:=w) hu rfl (cs:= #[.int .i64 a,.int .u32 c]) (off:=0) (v:=.int .i64 a) rfl
   have p2:=part_one (w:=w) hu' rfl (cs:= #[.int .i64 a,.int .u32 c]) (off:=1) (v:=.int .u32 c) rfl
   have c1:=chk_int (w:=w) hu em (.int .i64 a) ⟨_,_,rfl⟩ 9998
   have c2:=chk_int (w:=w) hu' em (.int .u32 c) ⟨_,_,rfl⟩ 9998
   have n1:=beq_eq_false_iff_ne.1 hn
   have n2:=beq_eq_false_iff_ne.1 hn'
   simp[List.forIn_cons,n1,n2,ho,ho',p1,p2,c1,c2]
theorem run_eqId {k:TypeId} (hk:IdKey P k) (a c a' c':Int):(Op.equal k (idV a c) (idV a' c')).run P w= .ok (decide (a=a'∧c=c')) w:=by
 obtain⟨fs,h1,h2,h3⟩:=hk.st
 have hfo:P.fieldsOf k=fs:=by simp[Program.fieldsOf,h1]
 show(Go.Op.equalIn (9999+1) k (.agg #[.int .i64 a,.int .u32 c]) (.agg #[.int .i64 a',.int .u32 c'])).run P w=_
 rw[run_equalIn_struct (P:=P) w 9999 k _ _ (by rw[hfo];exact h1) h2,hfo]
 have hv:veqs [.int .i64 0,.int .u32 0] [.v (.int .i64 a),.v (.int .u32 c)] [.v (.int .i64 a'),.v (.int .u32 c')]=some (decide (a=a'∧c=c')):=by
  have:(a==a'&&c==c')=decide (a=a'∧c=c'):=by rw[Bool.eq_iff_iff];simp
  simp[veqs,veq,<-this]
 refine eqFields_ok (k:=9998) h3 hv (fun i v hi=>?_) (fun i v hi=>?_)<;>
 ·match i with
  |0=>simpa using hi
  |1=>simpa using hi
  |i+2=>simp at hi
theorem wide_id {k:TypeId} (hk:IdKey P k):(match P.underlying k with|some (.array _ _)|some (.struct _)=>true|_=>false)=true:=by
 obtain⟨fs,h1,_⟩:=hk.st
 rw[h1]
def EntK (es:List MapEntry) (ds:List D):Prop:=ds.length=2*es.length∧∀(i:Nat) e,es[i]? =some e->∃a c:Int,e.key=idV a c∧e.val= .bool true∧ds[2*i]? =some (.v (.int .i64 a))∧ds[2*i+1]? =some (.v (.int .u32 c))
theorem EntK.cons {e:MapEntry} {es:List MapEntry} {ds:List D} (h:EntK (e::es) ds):∃a c r,e.key=idV a c∧e.val= .bool true∧ds= .v (.int .i64 a):: .v (.int .u32 c)::r∧EntK es r:=by
 obtain⟨h1,h2⟩:=h
 obtain⟨a,c,q1,q2,q3,q4⟩:=h2 0 e rfl
 match ds,h1,q3,q4 with
 |x::y::r,h1,q3,q4=>
  simp at q3 q4
  subst q3 q4
  refine⟨a,c,r,q1,q2,rfl,by simp at h1 ⊢;omega,fun i e he=>?_⟩
  obtain⟨a,c,q1,q2,q3,q4⟩:=h2 (i+1) e (by simpa using he)
  exact⟨a,c,q1,q2,by rw[<-q3,show 2*(i+1)=2*i+1+1 by omega];rfl,by rw[<-q4,show 2*(i+1)+1=2*i+1+1+1 by omega];rfl⟩
 |[],h1,q3,_=>simp at q3
 |[x],h1,_,q4=>simp at q4
theorem find_id {k:TypeId} (hk:IdKey P k) (a c:Int):∀{es:List MapEntry} {ds:List D} {q:Bool} (i0:Nat),EntK es ds->memK a c ds=some q->
  (q=false∧(Instr.findAsking k (idV a c) es i0).run P w= .ok none w)∨(q=true∧∃i e,es[i]? =some e∧e.key=idV a c∧(Instr.findAsking k (idV a c) es i0).run P w= .ok (some (i0+i,.bool true)) w)
 |[],ds,q,i0,h,hm=>by
  obtain rfl:ds=[]:=List.eq_nil_of_length_eq_zero (by simpa using h.1)
  injection hm with hm
  subst hm
  exact .inl ⟨rfl,by simp[Instr.findAsking]⟩
 |e::es,ds,q,i0,h,hm=>by
  obtain⟨a',c',r,q1,q2,rfl,q4⟩:=h.cons
  have he:=run_eqId (w:=w) hk a c a' c'
  rw[<-q1]at he
  simp only[memK]at hm
  by_cases hq:a'=a∧c'=c
  ·rw[if_pos hq]at hm
   injection hm with hm
   subst hm
   rw[decide_eq_true (show a=a'∧c=c' from⟨hq.1.symm,hq.2.symm⟩)]at he
   refine .inr ⟨rfl,0,e,rfl,by rw[q1,hq.1,hq.2],?_⟩
   simp[Instr.findAsking,he,q2]
  ·rw[if_neg hq]at hm
   rw[decide_eq_false (fun h=>hq ⟨h.1.symm,h.2.symm⟩)]at he
   rcases find_id hk a c (i0+1) q4 hm with⟨r1,r2⟩|⟨r1,i,e2,r2,r3,r4⟩
   ·exact .inl ⟨r1,by simp[Instr.findAsking,he,r2]⟩
   ·refine .inr ⟨r1,i+1,e2,by simpa using r2,r3,?_⟩
    simp[Instr.findAsking,he,r4]
    omega
theorem stays_id (a c:Int):(Instr.keyThatStays (idV a c) (idV a c)).run P w= .ok (idV a c) w:=by
 have:Instr.sameBits 10000 (idV a c) (idV a c)=true:=by
  show Instr.sameBits (9999+1) _ _=true
  simp[Instr.sameBits,idV]
 simp[Instr.keyThatStays,this]
theorem run_find {k:TypeId} (hk:IdKey P k) (a c:Int) {es:Array MapEntry} {ds:List D} {q:Bool} (h:EntK es.toList ds) (hm:memK a c ds=some q):
  (q=false∧(Instr.findKey k (idV a c) es.toList).run P w= .ok none w)∨(q=true∧∃i e,es[i]? =some e∧e.key=idV a c∧(Instr.findKey k (idV a c) es.toList).run P w= .ok (some (i,.bool true)) w):=by
 rw[run_findKey_eq w (wide_id hk)]
 rcases find_id (w:=w) hk a c 0 h hm with⟨h1,h2⟩|⟨h1,i,e,h2,h3,h4⟩
 ·exact .inl ⟨h1,h2⟩
 ·exact .inr ⟨h1,i,e,by simpa using h2,h3,by rw[h4,Nat.zero_add]⟩
end
section
variable {o:Oper} {g:G} {w:World} {n:Nat} {a:Act} {s s':S} {d:D} {call:Caller} {t:Option Nat}
theorem wr_putObj {g:G} {w:World} {b:Nat} (ob:Obj) (hb:g.base<=b) (hf:g.fr b=0) (ht:g.tk b=none) (hd:g.dm b=false) (h0:∀o,w.cell? ⟨b,o,none⟩=none):Wr g w b (w.putObj b ob):=
 ⟨rfl,rfl,rfl,World.putObj_size,fun b' hb'=>World.putObj_heap_other hb',hb,hf,ht,hd,fun b' o q=>by
  by_cases e:b'=b
  ·subst e;rw[h0 o]at q;cases q
  ·rw[cell_of_block (World.putObj_heap_other e)];exact q⟩
theorem map_at (h:SN g w n a.tmps s) {x:Operand} {x':Opd} (hx:MOpd x x') {f b:Nat} (hr:(rd x' s).1= .yld f b) {ds:List D} (hb:Ev.bx f b s=some ds) {p c:Int} {q:Bool} (hm:memK p c ds=some q):
  ML<=b∧∃l es ck,a.eval x= .map (some l)∧g.bx f b=some l∧w.heap[l]? =some (.map es ck)∧EntK es.toList ds:=by
 obtain⟨L,hL⟩:=rd_at h hx
 rw[hr]at hL
 obtain⟨hRL,l,hl1,hl2⟩:=(show RC g w (L 0 0) (a.eval x) (.yld f b)from hL)
 rcases h.st.sb.rel f b ds (bx_bxl hb)with⟨h0,_⟩|⟨h0,_,l',r',st',j',rid',ks',caps',e1,e2,e3,_⟩|⟨h0,l',es,ck,h1,h2,h3,h4⟩
 ·omega
 ·subst e3;cases hm
 ·rw[hl1]at h1
  injection h1 with h1
  subst h1
  rw[if_neg (by omega)]at hl2
  exact⟨h0,l,es,ck,hl2,hl1,h2,by simpa using h3,fun i e he=>h4 i e (by simpa using he)⟩
theorem key_at (h:SN g w n a.tmps s) {y:Operand} {y':Opd} (hy:MOpd y y') {p c:Int} (hr:keyK (rd y' s).1=some (p,c)):a.eval y=idV p c:=by
 obtain⟨L,hL⟩:=rd_at h hy
 unfold keyK at hr
 split at hr
 ·rename_i p' c' hd
  injection hr with hr
  injection hr with e1 e2
  subst e1 e2
  rw[hd]at hL
  obtain⟨cs,h1,h2,h3⟩:=(show RV g w (L 0) (a.eval y) (.agg [.v (.int .i64 p'),.v (.int .u32 c')])from hL)
  rw[h1]
  obtain⟨y0,k1,k2⟩:=h3 0 _ rfl
  obtain⟨y1,k3,k4⟩:=h3 1 _ rfl
  have k2':y0= .int .i64 p':=k2
  have k4':y1= .int .u32 c':=k4
  subst k2' k4'
  unfold idV
  congr 1
  apply Array.ext (by simpa using h2)
  intro i hi1 hi2
  have:i<2:=by simpa using hi2
  match i,this with
  |0,_=>rw[Array.getElem?_eq_getElem hi1]at k1;injection k1
  |1,_=>rw[Array.getElem?_eq_getElem hi1]at k3;injection k3
 ·cases hr
theorem gives_mlk {x y:Operand} {x' y':Opd} {ty k e:TypeId} {i:TypeInfo} (ho:o.op= .lookup ty x y false) (hx:MOpd x x') (hy:MOpd y y') (hu:P.underlying ty=some (.map k e)) (hk:IdKey P k) (hi:P.info? e=some i) (hz:i.zero=some (.bool false))
  (h:SN g w n a.tmps s) (he:evOp call t (.mlk x' y') s=some (d,s')):Gives P o g w n a s d s':=by
 simp only[evOp]at he
 split at he
 ·rename_i f b p c hr hkk
  split at he
  ·rename_i ds hds
   obtain⟨q,hq,he⟩:=Option.map_eq_some_iff.1 he
   injection he with e1 e2
   subst e1 e2
   obtain⟨_,l,es,ck,k1,k2,k3,k4⟩:=map_at h hx hr hds hq
   have kk:=key_at h hy hkk
   refine⟨.bool q,w,g,?_,h,rfl,Ext.refl _ _ _,rfl⟩
   rcases run_find (w:=w) hk p c k4 hq with⟨rfl,r1⟩|⟨rfl,j,e',_,_,r1⟩
   ·simp[execOp,ho,k1,kk,Instr.lookup,run_underlying hu,run_getObj_map w l es ck k3,run_check hk,r1,zeroValue,typeInfo,hi,hz]
   ·simp[execOp,ho,k1,kk,Instr.lookup,run_underlying hu,run_getObj_map w l es ck k3,run_check hk,r1]
  ·cases he
 ·cases he
theorem wmap_ok (h:SN g w n a.tmps s) {f b l:Nat} {ds ds':List D} (hM:ML<=b) (hbx:Ev.bx f b s=some ds) (hl:g.bx f b=some l) {es es':Array MapEntry} {ck ck':Nat} (hr:w.heap[l]? =some (.map es ck)) (hE:EntK es'.toList ds'):
  SN g (w.putObj l (.map es' ck')) n a.tmps (sbx f b ds' s)∧∀k,Ext k g w g (w.putObj l (.map es' ck')):=by
 obtain⟨i1,i2,i3,i4⟩:=h.st.inv.box f b l hl
 have hdm:g.dm l=false:=by
  cases hq:g.dm l with
  |false=>rfl
  |true=>have:=(h.st.inv.dm l hq).2;rw[hr]at this;cases this
 have hW:=wr_putObj (w:=w) (.map es' ck') i1 i3 i4 hdm fun o=>by simp[World.cell?,hr]
 have hm:RBm g (w.putObj l (.map es' ck')) f b ds':=⟨l,es',ck',hl,World.putObj_heap_same i2,by simpa using hE.1,fun i e he=>hE.2 i e (by simpa using he)⟩
 refine⟨⟨⟨hW.inv h.st.inv,⟨fun f' b' ds1 hds'=>?_,fun f' b' hd=>?_,fun f' b' ds1 d' hds' hd'=>?_⟩,fun t'=>?_⟩,h.size⟩,fun k=>hW.ext k⟩
 ·rw[B_sbx hbx]at hds'
  split at hds'
  ·rename_i e'
   obtain⟨rfl,rfl⟩:=e'
   injection hds' with hds'
   subst hds'
   exact .inr (.inr ⟨hM,hm⟩)
  ·rename_i hne
   refine(h.st.sb.rel f' b' ds1 hds').keep (fun c=>hW.keep _) fun b1 hb1=>hW.same b1 fun e'=>?_
   subst e'
   exact hne (h.st.inv.inj _ _ _ _ _ hb1 hl)
 ·rw[B_sbx hbx]
  split
  ·rfl
  ·exact h.st.sb.dom f' b' hd
 ·rw[B_sbx hbx]at hds'
  split at hds'
  ·rename_i e'
   obtain⟨rfl,rfl⟩:=e'
   injection hds' with hds'
   subst hds'
   obtain⟨x,rfl,_⟩:=hm.cell hd'
   rfl
  ·exact h.st.sb.bnd _ _ _ _ hds' hd'
 ·rw[sbx_k,sbx_e]
  exact(h.st.e t').keep fun i c=>hW.keep _
theorem EntK.push {es:Array MapEntry} {ds:List D} (h:EntK es.toList ds) (p c:Int) (ck:Nat):EntK (es.push {key:=idV p c,val:=.bool true,born:=ck}).toList (ds++[.v (.int .i64 p),.v (.int .u32 c)]):=by
 obtain⟨h1,h2⟩:=h
 refine⟨by simp at h1 ⊢;omega,fun i e he=>?_⟩
 rw[Array.toList_push]at he
 rcases Nat.lt_or_ge i es.toList.length with q|q
 ·rw[List.getElem?_append_left q]at he
  obtain⟨a,c,q1,q2,q3,q4⟩:=h2 i e he
  exact⟨a,c,q1,q2,by rw[List.getElem?_append_left (by omega)];exact q3,by rw[List.getElem?_append_left (by omega)];exact q4⟩
 ·rw[List.getElem?_append_right q]at he
  have hi:i-es.toList.length=0:=by
   rcases Nat.eq_zero_or_pos (i-es.toList.length)with z|z
   ·exact z
   ·rw[List.getElem?_eq_none (by simp only[List.length_singleton];omega)]at he;cases he
  rw[hi]at he
  injection he with he
  subst he
  refine⟨p,c,rfl,rfl,?_,?_⟩
  ·rw[List.getElem?_append_right (by omega),show 2*i-ds.length=0 by omega];rfl
  ·rw[List.getElem?_append_right (by omega),show 2*i+1-ds.length=1 by omega];rfl
theorem EntK.mod {es:Array MapEntry} {ds:List D} (h:EntK es.toList ds) (p c:Int) {i:Nat} {e:MapEntry} (hi:es[i]? =some e) (hk:e.key=idV p c):EntK (es.modify i fun e=>{e with key:=idV p c,val:=.bool true}).toList ds:=by
 obtain⟨h1,h2⟩:=h
 refine⟨by simpa using h1,fun j e' he=>?_⟩
 rw[Array.getElem?_toList,Array.getElem?_modify]at he
 split at he
 ·rename_i e0
  subst e0
  rw[hi,Option.map_some]at he
  injection he with he
  subst he
  obtain⟨a,c',q1,q2,q3,q4⟩:=h2 i e (by simpa using hi)
  exact⟨a,c',hk.symm.trans q1,rfl,q3,q4⟩
 ·exact h2 j e' (by simpa using he)
theorem does_mup {ro:Option Nat} {x y:Operand} {x' y':Opd} {ty k e:TypeId} (ho:o.op= .mapUpdate ty x y (.const (.bool true))) (hx:MOpd x x') (hy:MOpd y y') (hu:P.underlying ty=some (.map k e)) (hk:IdKey P k)
  (h:SN g w n a.tmps s) (he:evOp call t (.mup x' y') s=some (d,s')):Does P ro o g w n a s d s':=by
 simp only[evOp]at he
 split at he
 ·rename_i f b p c hr hkk
  split at he
  ·rename_i ds hds
   obtain⟨q,hq,he⟩:=Option.map_eq_some_iff.1 he
   injection he with e1 e2
   subst e1 e2
   obtain⟨hM,l,es,ck,k1,k2,k3,k4⟩:=map_at h hx hr hds hq
   have kk:=key_at h hy hkk
   have hv:a.eval (.const (.bool true))= .bool true:=rfl
   intro next Q hn
   refine⟨fun _ _=>trivial,?_⟩
   rw[Oper.semAt_eq _ _ _ (fun c=>by rw[ho];exact fun e=>by cases e)]
   rcases run_find (w:=w) hk p c k4 hq with⟨rfl,r1⟩|⟨rfl,j,e',r2,r3,r1⟩
   ·obtain⟨m1,m2⟩:=wmap_ok (ck':=ck+1) h hM hds k2 k3 (k4.push p c ck)
    have hrun:(execOp a.eval o).run P w= .ok .skip (w.putObj l (.map (es.push {key:=idV p c,val:=.bool true,born:=ck}) (ck+1))):=by
     simp[execOp,ho,k1,kk,hv,Instr.mapUpdate,run_underlying hu,run_getObj_map w l es ck k3,run_check hk,r1,MapKept.run_setObj_map _ k3,World.putObj]
    rw[hrun]
    exact hn undef _ g m1 trivial (m2 _) (sbx_k ..)
   ·obtain⟨m1,m2⟩:=wmap_ok (ck':=ck) h hM hds k2 k3 (k4.mod p c r2 r3)
    have hrun:(execOp a.eval o).run P w= .ok .skip (w.putObj l (.map (es.modify j fun e=>{e with key:=idV p c,val:=.bool true}) ck)):=by
     simp[execOp,ho,k1,kk,hv,Instr.mapUpdate,run_underlying hu,run_getObj_map w l es ck k3,run_check hk,r1,r2,r3,stays_id,MapKept.run_setObj_map _ k3,World.putObj]
    rw[hrun]
    exact hn undef _ g m1 trivial (m2 _) (sbx_k ..)
  ·cases he
 ·cases he
theorem gives_mkn {ty:TypeId} {u:Nat} (ho:o.op= .makeMap ty none) (hu:ML<=u) (h:SN g w n a.tmps s) (he:evOp call t (.mkn u) s=some (d,s')):Gives P o g w n a s d s':=by
 simp only[evOp]at he
 split at he
 ·rename_i hl
  injection he with he
  injection he with e1 e2
  subst e1 e2
  have hnone:g.bx s.k u=none:=by
   cases hq:g.bx s.k u with
   |none=>rfl
   |some x=>
    have:=h.st.sb.dom s.k u (by rw[hq];rfl)
    rw[<-bx_eq _ _ _ (Nat.le_refl _)]at this
    unfold Ev.bx at this
    rw[if_pos (show s.k=s.o.length from rfl),hl]at this
    cases this
  have hi:=h.st.inv
  have hK:∀ℓ,Keep g w ℓ (g.nbx s.k u w.heap.size) (w.alloc (.map #[] 0)) ℓ:=fun ℓ=>
   ⟨fun b o ho=>cell_of_block (alloc_same _ _ _ (hi.frlt ho)),fun b=>Nat.le_refl _,fun f s' b' hb=>by
    show(if f=s.k∧s'=u then _ else _)=_
    rw[if_neg fun e=>by rw[e.1,e.2,hnone]at hb;cases hb]
    exact hb,fun b hb=>⟨hb,rfl,alloc_same _ _ _ (hi.lt hb)⟩,gr_alloc _ _⟩
  have hnew:(g.nbx s.k u w.heap.size).bx s.k u=some w.heap.size:=by
   show(if _ then _ else _)=_
   rw[if_pos ⟨rfl,rfl⟩]
  refine⟨.map (some w.heap.size),w.alloc (.map #[] 0),g.nbx s.k u w.heap.size,by simp[execOp,ho,Instr.makeMap,run_newObj_alloc],⟨⟨⟨?_,?_,?_,?_,hi.tk,?_,fun b hb=>⟨(hi.dm b hb).1,(alloc_same _ _ _ (getq_lt' (hi.dm b hb).2)).trans (hi.dm b hb).2⟩,hi.dt⟩,⟨fun f' b' ds' hds'=>?_,fun f' b' hd=>?_,fun f' b' ds' d' hds' hd'=>?_⟩,fun t'=>?_⟩,h.size⟩,?_,?_,rfl⟩
  ·exact Nat.le_trans hi.base (by rw[alloc_size];omega)
  ·intro b hb
   exact hi.fresh b (by rw[alloc_size]at hb;omega)
  ·intro f' s' b' hb'
   have hb'':(if f'=s.k∧s'=u then some w.heap.size else g.bx f' s')=some b':=hb'
   split at hb''
   ·injection hb'' with hb''
    subst hb''
    exact⟨hi.base,by rw[alloc_size];omega,(hi.fresh _ (Nat.le_refl _)).1,(hi.fresh _ (Nat.le_refl _)).2⟩
   ·obtain⟨a1,a2,a3,a4⟩:=hi.box _ _ _ hb''
    exact⟨a1,by rw[alloc_size];omega,a3,a4⟩
  ·intro f1 s1 f2 s2 b' h1 h2
   have h1':(if f1=s.k∧s1=u then some w.heap.size else g.bx f1 s1)=some b':=h1
   have h2':(if f2=s.k∧s2=u then some w.heap.size else g.bx f2 s2)=some b':=h2
   split at h1'<;>split at h2'
   ·rename_i e1 e2;exact⟨e1.1.trans e2.1.symm,e1.2.trans e2.2.symm⟩
   ·injection h1' with h1';have:=(hi.box _ _ _ h2').2.1;omega
   ·injection h2' with h2';have:=(hi.box _ _ _ h1').2.1;omega
   ·exact hi.inj _ _ _ _ _ h1' h2'
  ·intro b o ho
   rw[cell_of_block (alloc_same _ _ _ (hi.frlt ho))]
   exact hi.cells b o ho
  ·rw[B_new _ hl]at hds'
   split at hds'
   ·rename_i e'
    obtain⟨rfl,rfl⟩:=e'
    injection hds' with hds'
    subst hds'
    exact .inr (.inr ⟨hu,w.heap.size,#[],0,hnew,alloc_new _ _,rfl,fun i e he=>by simp at he⟩)
   ·exact(h.st.sb.rel f' b' ds' hds').keep (fun c=>hK _) fun b hb=>alloc_same _ _ _ (hi.box _ _ _ hb).2.1
  ·rw[B_new _ hl]
   split
   ·rfl
   ·rename_i hne
    refine h.st.sb.dom f' b' ?_
    have:(if f'=s.k∧b'=u then some w.heap.size else g.bx f' b').isSome=true:=hd
    rwa[if_neg hne]at this
  ·rw[B_new _ hl]at hds'
   split at hds'
   ·rename_i e'
    obtain⟨rfl,rfl⟩:=e'
    injection hds' with hds'
    subst hds'
    cases hd'
   ·exact h.st.sb.bnd _ _ _ _ hds' hd'
  ·exact(h.st.e t').keep fun i c=>hK _
  ·exact⟨by simp only[RL,ML]at*;omega,_,hnew,by rw[if_neg (by omega)]⟩
  ·exact⟨rfl,rfl,rfl,rfl,by rw[alloc_size];omega,fun b hb=>alloc_same _ _ _ (Nat.lt_of_lt_of_le hb hi.base),fun _=>Nat.le_refl _,(hK (boxL 0 0 0)).cell,eqb (fun f' s' hf=>by show(if _ then _ else _)=_;rw[if_neg fun e=>by omega]),fun b ℓ hb h0 hk=>(hK ℓ).tk b hb,fun _ h=>h,gr_alloc _ _⟩
 ·cases he
end
end Go.Proofs.Ytfopbiiffiickaa.Ev
namespace Go.Proofs.Ytfopbiiffiickaa.Ev
open Go
variable {P:Program}
section
variable {o:Oper} {g:G} {w:World} {n:Nat} {a:Act} {s s':S} {d:D} {call:Caller} {t:Option Nat}
def gz (w:World):G:=⟨w.heap.size,fun _ _=>none,fun b=>match w.heap[b]? with|some (.cells cs _ _)=>cs.size|_=>0,fun _=>none,fun _=>false⟩
theorem frz0 {w:World} (b o:Nat) (h:(w.cell? ⟨b,o,none⟩).isSome):o<(gz w).fr b:=by
 unfold World.cell? at h
 simp only[Option.isSome_none,Bool.false_eq_true,↓reduceIte]at h
 simp only[gz]
 split at h
 ·rename_i hb
  rw[hb]
  simp only
  exact(Array.getElem?_eq_some_iff.1 (Option.isSome_iff_exists.1 h).choose_spec).1
 ·cases h
theorem invz (w:World):Inv (gz w) w where
 base:=Nat.le_refl _
 fresh b hb:=by
  refine⟨?_,rfl⟩
  simp only[gz]
  rw[Array.getElem?_eq_none hb]
 box f s b h:=by cases h
 inj f s f' s' b h:=by cases h
 tk b l h:=by cases h
 cells b o h:=by
  simp only[gz]at h
  split at h
  ·rename_i hb
   unfold World.cell?
   simp only[hb,Option.isSome_none,Bool.false_eq_true,↓reduceIte]
   rw[Array.getElem?_eq_getElem h];rfl
  ·cases h
 dm b h:=by cases h
 dt b h:=by cases h
theorem sbz (w:World):SB (gz w) w [] where
 rel f s ds h:=by simp[bxl]at h
 dom f s h:=by cases h
 bnd f s ds d h:=by simp[bxl]at h
theorem fr_le (h:Inv g w) (b:Nat):g.fr b<=(gz w).fr b:=by
 cases hq:g.fr b with
 |zero=>exact Nat.zero_le _
 |succ q=>exact frz0 b q (h.cells b q (by omega))
theorem RF.toz {x:Value} {d:D} (hi:Inv g w) (h:RF w g.fr x d):RF w (gz w).fr x d:=h.mono (fun _ _ _=>rfl) (fr_le hi)
theorem gz_fr {b:Nat} {cs:Array Value} {e:TypeId} {q:Nat×Nat} (h:w.heap[b]? =some (.cells cs e q)):(gz w).fr b=cs.size:=by simp only[gz,h]
theorem Own.toz {ℓ:Loc} {x:Value} {m:Mode} {z:Nat} {xs:List D} (hi:Inv g w) (h:Own g w ℓ x m z xs):RF w (gz w).fr x (.sl .ro z xs):=by
 obtain⟨b,off,cap,cur,e,val,rfl,h2,h3,h4,h5,h6,h7,h7',h8,h9,h10⟩:=h
 refine .ro b off cap z xs val h3 h4 (.inr ?_) h8 h9 fun i d j c p q=>(h10 i d j c p q).toz hi
 rw[gz_fr h2]
 have:xs.length*z<=cap*z:=Nat.mul_le_mul_right z h3
 omega
theorem snpP_ok (h:SN g w n a.tmps s) {x:Value} {d d':D} (hx:RP g w x d) (hd:d.snpP s=some d'):RP (gz w) w x d':=by
 have hi:=h.st.inv
 cases d with
 |v y=>injection hd with hd;subst hd;exact hx
 |fptr cs off=>
  injection hd with hd;subst hd
  obtain⟨b,o,val,h1,h2,h3⟩:=hx
  exact⟨b,o,val,h1,Nat.le_trans h2 (fr_le hi b),fun j c hj=>⟨(h3 j c hj).1,(h3 j c hj).2.toz hi⟩⟩
 |ptr f b off=>
  obtain⟨hRL,blk,k1,rfl⟩:=hx
  simp only[D.snpP]at hd
  obtain⟨cs,h1,h2⟩:=Option.bind_eq_some_iff.1 hd
  split at h2
  ·rename_i hc
   injection h2 with h2
   subst h2
   obtain⟨b1,vs,et,q1,q2,q3,q4⟩:=(h.st.sb.rel f b cs (bx_bxl h1)).c hRL
   rw[k1]at q1
   injection q1 with q1
   subst q1
   refine⟨blk,0,fun j=>vs.getD j undef,by rw[Nat.zero_add],by rw[gz_fr q2];omega,fun j c hj=>?_⟩
   obtain⟨y,r1,r2⟩:=q4 j c hj
   have e:vs.getD j undef=y:=by rw[Array.getD_eq_getD_getElem?,r1];rfl
   refine⟨?_,?_⟩
   ·show _=some (vs.getD j undef)
    rw[e,Nat.zero_add]
    simpa[World.cell?,q2]using r1
   ·show RF w _ (vs.getD j undef) c
    rw[e]
    exact(RC.toRF r2 (List.all_eq_true.1 hc c (List.mem_of_getElem? hj))).toz hi
  ·cases h2
 |_=>cases hd
theorem snpC_len {ds:List D}:∀{ds':List D},snpC s ds=some ds'->ds'.length=ds.length∧∀(c:Nat) d',ds'[c]? =some d'->∃d,ds[c]? =some d∧d.snpP s=some d':=by
 induction ds with
 |nil=>intro ds' h;simp only[snpC]at h;injection h with h;subst h;exact⟨rfl,fun c d h=>by simp at h⟩
 |cons x xs ih=>
  intro ds' h
  simp only[snpC]at h
  split at h
  ·rename_i d1 r1 h1 h2
   injection h with h
   subst h
   obtain⟨k1,k2⟩:=ih h2
   refine⟨by simp[k1],fun c d' hc=>?_⟩
   cases c with
   |zero=>simp at hc;subst hc;exact⟨x,rfl,h1⟩
   |succ c=>obtain⟨d,q1,q2⟩:=k2 c d' (by simpa using hc);exact⟨d,by simpa using q1,q2⟩
  ·cases h
theorem snp1_ok (h:SN g w n a.tmps s) {ℓ ℓ':Loc} {x:Value} {d d':D} (hx:RC g w ℓ x d) (hd:d.snp1 s=some d'):RC (gz w) w ℓ' x d':=by
 have hi:=h.st.inv
 cases d with
 |v y=>
  simp only[D.snp1]at hd
  split at hd
  ·injection hd with hd;subst hd;exact hx
  ·cases hd
 |sl m z xs=>cases m with
  |nl=>injection hd with hd;subst hd;exact RF.toz hi hx
  |ro=>injection hd with hd;subst hd;exact RF.toz hi hx
  |app=>injection hd with hd;subst hd;exact Own.toz hi (show Own g w ℓ x .app z xs from hx)
  |mu=>injection hd with hd;subst hd;exact Own.toz hi (show Own g w ℓ x .mu z xs from hx)
 |ref f b off m z=>
  obtain⟨hRL,blk,cap,off',k1,rfl,k3,k4,k5,_⟩:=hx
  simp only[D.snp1]at hd
  split at hd
  ·rename_i hm0
   subst hm0
   injection hd with hd
   subst hd
   exact .ro blk off' cap z [] (fun _ _=>undef) (Nat.zero_le _) k4 (.inl rfl) (fun i d h=>by simp at h) (fun i d j c h=>by simp at h) (fun i d j c h=>by simp at h)
  obtain⟨cs,h1,h2⟩:=Option.bind_eq_some_iff.1 hd
  have hc:off+m*z<=cs.length∧cs.all D.rf1=true:=by
   by_cases hc:off+m*z<=cs.length∧cs.all D.rf1=true
   ·exact hc
   ·rw[if_neg hc]at h2;cases h2
  rw[if_pos hc]at h2
  injection h2 with h2
  subst h2
  obtain⟨b1,vs,et,q1,q2,q3,q4⟩:=(h.st.sb.rel f b cs (bx_bxl h1)).c hRL
  rw[k1]at q1
  injection q1 with q1
  subst q1
  exact ref_ro k3 k4 (k5.imp (fun q=>by omega) id) q2 hc.2 (fun c d hcd=>by
   obtain⟨y,r1,r2⟩:=q4 c d hcd
   exact⟨y,r1,(RC.toRF r2 (List.all_eq_true.1 hc.2 d (List.mem_of_getElem? hcd))).toz hi⟩) (by rw[gz_fr q2];exact q3) hc.1
 |clo fn caps=>
  obtain⟨h0,vs,h1,h2,h3⟩:=(show RC g w ℓ x (.clo fn caps)from hx)
  simp only[D.snp1]at hd
  obtain⟨cs,k1,k2⟩:=Option.map_eq_some_iff.1 hd
  subst k2
  obtain⟨k3,k4⟩:=snpC_len k1
  refine(show RC _ _ _ _ (.clo fn cs)from⟨h0,vs,h1,by rw[h2,k3],fun j d hj=>?_⟩)
  obtain⟨d0,q1,q2⟩:=k4 j d hj
  obtain⟨y,q3,q4⟩:=h3 j d0 q1
  exact⟨y,q3,snpP_ok h q4 q2⟩
 |_=>cases hd
theorem snpL_len {ds:List D}:∀{ds':List D},snpL s ds=some ds'->ds'.length=ds.length∧∀(c:Nat) d',ds'[c]? =some d'->∃d,ds[c]? =some d∧d.snp1 s=some d':=by
 induction ds with
 |nil=>intro ds' h;simp only[snpL]at h;injection h with h;subst h;exact⟨rfl,fun c d h=>by simp at h⟩
 |cons x xs ih=>
  intro ds' h
  simp only[snpL]at h
  split at h
  ·rename_i d1 r1 h1 h2
   injection h with h
   subst h
   obtain⟨k1,k2⟩:=ih h2
   refine⟨by simp[k1],fun c d' hc=>?_⟩
   cases c with
   |zero=>simp at hc;subst hc;exact⟨x,rfl,h1⟩
   |succ c=>obtain⟨d,q1,q2⟩:=k2 c d' (by simpa using hc);exact⟨d,by simpa using q1,q2⟩
  ·cases h
theorem snp1_agg {d d':D} (h:d.snp1 s=some d'):d'.aggB=false:=by
 cases d with
 |v y=>
  simp only[D.snp1]at h
  split at h
  ·injection h with h;subst h;rfl
  ·cases h
 |sl m z xs=>cases m<;>(injection h with h;subst h;rfl)
 |ref f b off m z=>
  simp only[D.snp1]at h
  split at h
  ·injection h with h;subst h;rfl
  obtain⟨cs,h1,h2⟩:=Option.bind_eq_some_iff.1 h
  split at h2
  ·injection h2 with h2
   subst h2;rfl
  ·cases h2
 |clo fn caps=>
  simp only[D.snp1]at h
  obtain⟨cs,k1,k2⟩:=Option.map_eq_some_iff.1 h
  subst k2;rfl
 |_=>cases h
theorem snp_ok (h:SN g w n a.tmps s) {L:Nat->Nat->Loc} {L':Nat->Loc} {x:Value} {d d':D} (hx:RT g w L x d) (hd:d.snp s=some d'):RV (gz w) w L' x d':=by
 rcases agg_or d with⟨ds,rfl⟩|ha
 ·simp only[D.snp]at hd
  obtain⟨ds',h1,rfl⟩:=Option.map_eq_some_iff.1 hd
  obtain⟨cs,k1,k2,k3⟩:=(show RV g w (L 0) x (.agg ds)from hx)
  obtain⟨k4,k5⟩:=snpL_len h1
  refine⟨cs,k1,by rw[k2,k4],fun c d hc=>?_⟩
  obtain⟨d0,q1,q2⟩:=k5 c d hc
  obtain⟨y,q3,q4⟩:=k3 c d0 q1
  exact⟨y,q3,snp1_ok h q4 q2⟩
 ·have hd':d.snp1 s=some d':=by cases d<;>first|exact hd|cases ha
  have ht:d.tupB=false:=by cases d<;>first|rfl|cases hd'
  rw[RT_ne ht,RV_ne ha]at hx
  rw[RV_ne (snp1_agg hd')]
  exact snp1_ok h hx hd'
theorem snpA_len {ys:List Opd}:∀{ds:List D},snpA s ys=some ds->ds.length=ys.length∧∀(i:Nat) d,ds[i]? =some d->∃y,ys[i]? =some y∧(rdR y s).snp s=some d:=by
 induction ys with
 |nil=>intro ds h;simp only[snpA]at h;injection h with h;subst h;exact⟨rfl,fun c d h=>by simp at h⟩
 |cons x xs ih=>
  intro ds h
  simp only[snpA]at h
  split at h
  ·rename_i d1 r1 h1 h2
   injection h with h
   subst h
   obtain⟨k1,k2⟩:=ih h2
   refine⟨by simp[k1],fun c d' hc=>?_⟩
   cases c with
   |zero=>simp at hc;subst hc;exact⟨x,rfl,h1⟩
   |succ c=>obtain⟨d,q1,q2⟩:=k2 c d' (by simpa using hc);exact⟨d,by simpa using q1,q2⟩
  ·cases h
theorem rdR_at (h:SN g w n a.tmps s) {x:Operand} {x':Opd} (hm:MOpd x x'):∃L,RT g w L (a.eval x) (rdR x' s):=by
 cases hm with
 |t n=>exact⟨_,h.st.e n⟩
 |m n=>exact rd_at h (MOpd.m n)
 |c x=>exact rd_at h (MOpd.c x)
 |cn=>exact rd_at h MOpd.cn
 |f n hn=>exact rd_at h (MOpd.f n hn)
theorem same_ok {w':World} (h:SN g w n a.tmps s) (ho:w'.os=w.os) (ht:w'.tape=w.tape) (hp:w'.output=w.output) (hs:w.heap.size<=w'.heap.size) (hold:∀b,b<w.heap.size->w'.heap[b]? =w.heap[b]?):SN g w' n a.tmps s∧Ext s.k g w g w':=by
 have hi:=h.st.inv
 have hfr:∀b o,o<g.fr b->b<w.heap.size:=fun b o hb=>by
  rcases Nat.lt_or_ge b w.heap.size with hl|hl
  ·exact hl
  ·rw[(hi.fresh b hl).1]at hb;omega
 have htk:∀b ℓ,g.tk b=some ℓ->b<w.heap.size:=fun b ℓ hb=>by
  rcases Nat.lt_or_ge b w.heap.size with hl|hl
  ·exact hl
  ·rw[(hi.fresh b hl).2]at hb;cases hb
 have hcell:∀b o,o<g.fr b->w'.cell? ⟨b,o,none⟩=w.cell? ⟨b,o,none⟩:=fun b o hb=>cell_of_block (hold b (hfr b o hb))
 have hkeep:∀ℓ,Keep g w ℓ g w' ℓ:=fun ℓ=>⟨hcell,fun _=>Nat.le_refl _,fun _ _ _ q=>q,fun b q=>⟨q,rfl,hold b (htk b _ q)⟩,Gr.old hold⟩
 refine⟨⟨⟨⟨Nat.le_trans hi.base hs,fun b hb=>hi.fresh b (by omega),fun f s b q=>?_,hi.inj,hi.tk,fun b o q=>?_,fun b q=>?_,hi.dt⟩,⟨fun f s ds q=>?_,h.st.sb.dom,h.st.sb.bnd⟩,fun t=>(h.st.e t).keep fun i c=>hkeep _⟩,h.size⟩,
  ⟨rfl,ho,ht,hp,hs,fun b hb=>hold b (Nat.lt_of_lt_of_le hb hi.base),fun _=>Nat.le_refl _,hcell,fun _ _ _ _ h=>h,fun b ℓ q _ _=>⟨q,rfl,hold b (htk b _ q)⟩,fun _ q=>q,Gr.old hold⟩⟩
 ·obtain⟨q1,q2,q3⟩:=hi.box f s b q;exact⟨q1,by omega,q3⟩
 ·rw[hcell b o q];exact hi.cells b o q
 ·obtain⟨q1,q2⟩:=hi.dm b q
  refine⟨q1,?_⟩
  have:b<w.heap.size:=by
   rcases Nat.lt_or_ge b w.heap.size with hl|hl
   ·exact hl
   ·rw[Array.getElem?_eq_none hl]at q2;cases q2
  rw[hold b this];exact q2
 ·exact(h.st.sb.rel f s ds q).keep (fun c=>hkeep _) fun b hb=>hold b (hi.box f s b hb).2.1
theorem does_pcal {ro:Option Nat} (hg:Good P call) {f:Nat} (hf:f<RL) {args:Array Operand} {args':List Opd} {ts:Array TypeId} (ho:o.op= .call ⟨.value (.func f),args,ts⟩) (hm:MArgs args args') (h:SN g w n a.tmps s) (he:evOp call t (.pcal f args') s=some (d,s')):Does P ro o g w n a s d s':=by
 rcases hm with @⟨xs,ys,hl,hm⟩
 simp only[evOp]at he
 split at he
 ·rename_i ds hds
  split at he
  ·rename_i v hcall
   injection he with he
   injection he with e1 e2
   subst e1 e2
   obtain⟨k1,k2⟩:=snpA_len hds
   obtain⟨_,h1,h2⟩:=(hg _ _ _ _ _ hcall).1 hf
   have h3:=h2 (gz w) w (xs.toArray.map a.eval) (invz w) (sbz w) (by simp[k1,hl]) (fun i d hi=>by
    obtain⟨y,q1,q2⟩:=k2 i d hi
    have hlt:i<xs.length:=by rw[hl];exact getq_lt q1
    obtain⟨L,hL⟩:=rdR_at h (hm i _ y (List.getElem?_eq_getElem hlt) q1)
    exact⟨a.eval xs[i],by simp[hlt],snp_ok h hL q2⟩)
   refine does_enter (fun c=>by rw[ho];exact fun e=>by cases e) ?_ h1 (h3.mono ?_)
   ·simp[execOp,ho,resolve,Act.eval,Deferred.ofValue,invoke]
   ·rintro e w' ⟨x,g',rfl,_,_,_,hx,hr⟩
    obtain⟨q1,q2⟩:=same_ok h hx.os hx.tape hx.output hx.size hx.old
    exact⟨x,g,rfl,q1,hr,q2,rfl⟩
  ·cases he
 ·cases he
theorem does_op {ro:Option Nat} (hg:Good P call) {p:Op} (hm:MOp P o.op p) (hRL:∀t',t=some t'->t'<RL) (h:SN g w n a.tmps s) (he:evOp call t p s=some (d,s')):Does P ro o g w n a s d s':=by
 generalize ho:o.op=q at hm
 have nd:∀q',o.op=q'->(∀c,q'≠ .defer c)->∀c,o.op≠ .defer c:=fun q' e hq c=>by rw[e];exact hq c
 cases hm with
 |mv hx=>exact(gives_mv (.inl ho) hx h he).does (nd _ ho fun c e=>by cases e)
 |asg hx=>exact(gives_mv (.inr ho) hx h he).does (nd _ ho fun c e=>by cases e)
 |pk hc ha hb=>exact(gives_pk ho hc ha hb h he).does (nd _ ho fun c e=>by cases e)
 |al hi hz hc h1=>exact(gives_al ho hi hz hc h1 hRL h he).does (nd _ ho fun c e=>by cases e)
 |bx hx=>exact(gives_bx ho hx hRL h he).does (nd _ ho fun c e=>by cases e)
 |ld hp hs=>exact(gives_ld ho hp hs h he).does (nd _ ho fun c e=>by cases e)
 |ldm hp hs=>exact(gives_ldm ho hp hs h he).does (nd _ ho fun c e=>by cases e)
 |st hp hx hi hn=>exact does_store ho hp hx hi hn h he
 |bin hop hx hy=>exact(gives_bin ho hop hx hy h he).does (nd _ ho fun c e=>by cases e)
 |no hx=>exact(gives_no ho hx h he).does (nd _ ho fun c e=>by cases e)
 |xr hx=>exact(gives_un (xr:=true) ho hx h he).does (nd _ ho fun c e=>by cases e)
 |ng hx=>exact(gives_un (xr:=false) ho hx h he).does (nd _ ho fun c e=>by cases e)
 |fa hx hu hf hoff hi h0=>exact(gives_fa ho hx hu hf hoff hi h0 h he).does (nd _ ho fun c e=>by cases e)
 |fai hx hu hi h0 hq hoff=>exact(gives_fai ho hx hu hi h0 hq hoff h he).does (nd _ ho fun c e=>by cases e)
 |ia hx hy hu hi hz=>exact(gives_ia ho hx hy hu hi hz h he).does (nd _ ho fun c e=>by cases e)
 |ext hx=>exact(gives_ext ho hx h he).does (nd _ ho fun c e=>by cases e)
 |call hlt hargs=>exact does_call hg hlt ho hargs h he
 |calf hlt hargs=>exact does_calf hg hlt ho hargs h he
 |cv hf hargs=>exact does_cv hg ho hf hargs h he
 |lenS hx hu=>exact(gives_len ho hu hx h he).does (nd _ ho fun c e=>by cases e)
 |ap hx hy hu hu' hi hz hs hb hzs h0 h1=>exact(gives_ap ho hx hy hu hu' hi hz hs hb hzs h0 h1 h he).does (nd _ ho fun c e=>by cases e)
 |bs hl hm hu hi hz hs hzs h0 hlen=>exact(gives_bs ho hl hm hu hi hz hs hzs h0 hlen h he).does (nd _ ho fun c e=>by cases e)
 |mk hx hy hu hi hz hs hb hzs h0 h1 hze hze1=>exact(gives_mk ho hx hy hu hi hz hs hb hzs h0 h1 hze hze1 h he).does (nd _ ho fun c e=>by cases e)
 |bd hu hi hz hzc hl hm hall=>exact(gives_bd ho hu hi hz hzc hl hm hall h he).does (nd _ ho fun c e=>by cases e)
 |slc hx hu hi hs hlo hhi=>exact(gives_slc ho hx hu hi hs hlo hhi h he).does (nd _ ho fun c e=>by cases e)
 |eqn hx hu=>exact(gives_eqn (ne:=false) ho hx hu h he).does (nd _ ho fun c e=>by cases e)
 |nen hx hu=>exact(gives_eqn (ne:=true) ho hx hu h he).does (nd _ ho fun c e=>by cases e)
 |eqs hx hy=>exact(gives_eqs (ne:=false) ho hx hy h he).does (nd _ ho fun c e=>by cases e)
 |nes hx hy=>exact(gives_eqs (ne:=true) ho hx hy h he).does (nd _ ho fun c e=>by cases e)
 |eqb hx hy hu=>exact(gives_eqb (ne:=false) ho hx hy hu h he).does (nd _ ho fun c e=>by cases e)
 |neb hx hy hu=>exact(gives_eqb (ne:=true) ho hx hy hu h he).does (nd _ ho fun c e=>by cases e)
 |eqa hx hy hu hp hq hf=>exact(gives_eqa (ne:=false) ho hx hy hu hp hq hf h he).does (nd _ ho fun c e=>by cases e)
 |nea hx hy hu hp hq hf=>exact(gives_eqa (ne:=true) ho hx hy hu hp hq hf h he).does (nd _ ho fun c e=>by cases e)
 |sh hop hx hy=>exact(gives_sh ho hop hx hy h he).does (nd _ ho fun c e=>by cases e)
 |ci hx hs hu=>exact(gives_ci ho hx hs hu h he).does (nd _ ho fun c e=>by cases e)
 |mf hlt hm=>exact(gives_mf ho hlt hm h he).does (nd _ ho fun c e=>by cases e)
 |nck hx=>exact(gives_nck ho hx h he).does (nd _ ho fun c e=>by cases e)
 |mn hx hl hm=>exact(gives_mm (mx:=false) ho hx hl hm h he).does (nd _ ho fun c e=>by cases e)
 |mx hx hl hm=>exact(gives_mm (mx:=true) ho hx hl hm h he).does (nd _ ho fun c e=>by cases e)
 |bxo hx hu=>exact(gives_bxo ho hx hu h he).does (nd _ ho fun c e=>by cases e)
 |mkm=>exact(gives_mkm ho h he).does (nd _ ho fun c e=>by cases e)
 |mkn hu=>exact(gives_mkn ho hu h he).does (nd _ ho fun c e=>by cases e)
 |mlk hx hy hu hk hi hz=>exact(gives_mlk ho hx hy hu hk hi hz h he).does (nd _ ho fun c e=>by cases e)
 |mup hx hy hu hk=>exact does_mup ho hx hy hu hk h he
 |six hx hy hu=>exact(gives_six ho hu hx hy h he).does (nd _ ho fun c e=>by cases e)
 |lenT hx hu=>exact(gives_lns ho hu hx h he).does (nd _ ho fun c e=>by cases e)
 |bst hx hs he' ht=>exact(gives_bst ho hx hs he' ht h he).does (nd _ ho fun c e=>by cases e)
 |cpy hx hy hu hi hs=>exact(gives_cpy ho hx hy hu hi hs h he).does (nd _ ho fun c e=>by cases e)
 |pcal hlt hargs=>exact does_pcal hg hlt ho hargs h he
structure MStp (P:Program) (n:Nat) (ops:Array Oper) (o:Oper) (p:Stp):Prop where
 op:MOp P o.op p.op
 t:p.t=o.dst
 lt:∀t,p.t=some t->t<n
 rl:∀t,p.t=some t->t<RL
 g:match o.guard,p.g with
  |none,none=>True
  |some (j,want),some (q,want')=>want=want'∧(ops[j]?).bind (·.dst)=some q
  |_,_=>False
theorem putO_k (t:Option Nat) (d:D) (s:S):(Ev.putO t d s).k=s.k:=by cases t<;>rfl
theorem stp_ok {ro:Option Nat} (hg:Good P call) {ops:Array Oper} {p:Stp} (hm:MStp P n ops o p) (h:SN g w n a.tmps s) (he:evStp call p s=some s') {rest:Act->World->Prop} {Q:Exit->Act->World->Prop}
  (hn:∀a' w' g',SN g' w' n a'.tmps s'->Ext s.k g w g' w'->s'.k=s.k->a'.defers=a.defers->rest a' w'):
  if Region.wanted o (yielded ops a.tmps)then o.wpIn (W ro) 0 P a w rest Q else(∀f,o.about P w a.eval=some f->(W ro).fn f)∧rest (a.put o.dst undef) w:=by
 have put_def:∀(x:Value),(a.put o.dst x).defers=a.defers:=fun x=>by unfold Act.put;split<;>rfl
 have run:∀r,evOp call p.t p.op s=some r->s'=Ev.putO p.t r.1 r.2->o.wpIn (W ro) 0 P a w rest Q:=by
  intro r hr hs
  refine does_op (d:=r.1) (s':=r.2) hg hm.op hm.rl h hr _ _ fun x w' g' r1 r2 r3 r4=>?_
  obtain⟨g2,r5,r6⟩:=r1.putO (a:=a) (t:=p.t) hm.lt r2
  rw[<-hm.t]
  rw[r4]at r6
  exact hn _ w' g2 (hs▸r5) (r3.trans r6) (by rw[hs,putO_k,r4]) (by rw[hm.t];exact put_def x)
 have skip:s'=Ev.putO p.t (.v undef) s->(∀f,o.about P w a.eval=some f->(W ro).fn f)∧rest (a.put o.dst undef) w:=by
  intro hs
  obtain⟨g2,r5,r6⟩:=h.putO (a:=a) (t:=p.t) hm.lt (x:=undef) (d:=.v undef) (j:=0) rfl
  rw[<-hm.t]
  exact⟨fun _ _=>trivial,hn _ w g2 (hs▸r5) r6 (by rw[hs,putO_k]) (by rw[hm.t];exact put_def undef)⟩
 have hgd:=hm.g
 unfold evStp at he
 cases hpg:p.g with
 |none=>
  rw[hpg]at he hgd
  cases hog:o.guard with
  |some q=>rw[hog]at hgd;exact hgd.elim
  |none=>
   simp only at he
   obtain⟨r,h1,h2⟩:=Option.map_eq_some_iff.1 he
   simp only[Region.wanted,hog,if_true]
   exact run r h1 h2.symm
 |some qw=>
  obtain⟨q,want⟩:=qw
  rw[hpg]at he hgd
  cases hog:o.guard with
  |none=>rw[hog]at hgd;exact hgd.elim
  |some jw=>
   obtain⟨j,want'⟩:=jw
   rw[hog]at hgd
   obtain⟨rfl,hdst⟩:=hgd
   simp only at he
   have hq:=h.st.e q
   split at he
   ·rename_i b hb
    rw[hb]at hq
    have hv:a.tmps.getD q undef= .bool b:=hq
    have hy:yielded ops a.tmps j=some b:=by
     unfold yielded
     rw[hdst]
     simp only[Option.bind_some]
     have:a.tmps[q]? =some (.bool b):=by
      rw[Array.getD_eq_getD_getElem?]at hv
      cases h9:a.tmps[q]? with
      |none=>rw[h9]at hv;simp[undef]at hv
      |some v=>rw[h9]at hv;simp at hv;rw[hv]
     rw[this]
    simp only[Region.wanted,hog,hy]
    by_cases e:b=want'
    ·subst e
     rw[if_pos rfl]at he
     obtain⟨r,h1,h2⟩:=Option.map_eq_some_iff.1 he
     simp only[beq_self_eq_true,if_true]
     exact run r h1 h2.symm
    ·rw[if_neg e]at he
     injection he with he
     have:(some b==some want')=false:=by simp[e]
     simp only[this,Bool.false_eq_true,if_false]
     exact skip he.symm
   ·rename_i x hnb hx
    rw[hx]at hq
    have hv:a.tmps.getD q undef=x:=hq
    have hy:yielded ops a.tmps j=none:=by
     unfold yielded
     rw[hdst]
     simp only[Option.bind_some]
     split
     ·rename_i b hb
      rw[Array.getD_eq_getD_getElem?,hb]at hv
      simp at hv
      exact absurd hv.symm (hnb b)
     ·rfl
    injection he with he
    simp only[Region.wanted,hog,hy]
    simp only[show((none:Option Bool)==some want')=false from rfl,Bool.false_eq_true,if_false]
    exact skip he.symm
   ·cases he
inductive MOps (P:Program) (n:Nat) (ops:Array Oper):List Nat->List Stp->Prop
 |nil:MOps P n ops [] []
 |cons {i r o p ps} (hi:ops[i]? =some o) (h:MStp P n ops o p) (hr:MOps P n ops r ps):MOps P n ops (i::r) (p::ps)
theorem ops_ok {ro:Option Nat} (hg:Good P call) {ops:Array Oper} {l:List Nat} {ps:List Stp} (hm:MOps P n ops l ps) {Q:Exit->Act->World->Prop}:∀{g:G} {w:World} {a:Act} {s:S},SN g w n a.tmps s->evOps call ps s=some s'->
  (∀a' w' g',SN g' w' n a'.tmps s'->Ext s.k g w g' w'->s'.k=s.k->a'.defers=a.defers->Q .normal a' w')->wpOpsIn (W ro) 0 P ops Q l a w:=by
 induction hm with
 |nil=>intro g w a s h he hq;simp only[evOps]at he;injection he with he;subst he;exact hq a w g h (Ext.refl _ _ _) rfl rfl
 |cons hi hst hr ih=>
  intro g w a s h he hq
  simp only[evOps]at he
  obtain⟨s1,h1,h2⟩:=Option.bind_eq_some_iff.1 he
  simp only[wpOpsIn,hi]
  exact stp_ok hg hst h h1 fun a' w' g' r1 r2 r3 r4=>ih r1 h2 fun a2 w2 g2 q1 q2 q3 q4=>hq a2 w2 g2 q1 (r2.trans (by rw[r3]at q2;exact q2)) (q3.trans r3) (q4.trans r4)
end
end Go.Proofs.Ytfopbiiffiickaa.Ev
set_option maxRecDepth 4000
namespace Go.Proofs.Ytfopbiiffiickaa.Ev
open Go
variable {P:Program}
def mkD (r:Nat):Deferred:={target:=.collected r,args:= #[]}
def Marks (g g':G) (ds ds':List Deferred):Prop:=∃m:List Nat,ds'=m.map mkD++ds∧m.Nodup∧∀b∈m,g.dm b=false∧g'.dm b=true
theorem Marks.same {g g':G} {ds ds':List Deferred} (h:ds'=ds):Marks g g' ds ds':=⟨[],by simp[h],List.nodup_nil,fun b hb=>by simp at hb⟩
theorem Marks.trans {k k':Nat} {g g1 g2:G} {w w1 w2:World} {d d1 d2:List Deferred} (h:Marks g g1 d d1) (h':Marks g1 g2 d1 d2) (e:Ext k g w g1 w1) (e':Ext k' g1 w1 g2 w2):Marks g g2 d d2:=by
 obtain⟨m,rfl,h2,h3⟩:=h
 obtain⟨m',rfl,h5,h6⟩:=h'
 refine⟨m'++m,by simp,List.nodup_append.2 ⟨h5,h2,fun a ha b hb hab=>?_⟩,fun b hb=>?_⟩
 ·subst hab
  have:=(h6 a ha).1
  rw[(h3 a hb).2]at this
  cases this
 ·rcases List.mem_append.1 hb with hb|hb
  ·obtain⟨q1,q2⟩:=h6 b hb
   refine⟨?_,q2⟩
   cases hq:g.dm b with
   |false=>rfl
   |true=>rw[e.dm b hq]at q1;cases q1
  ·exact⟨(h3 b hb).1,e'.dm b (h3 b hb).2⟩
section
variable {g:G} {w:World} {n:Nat} {tmps:Array Value} {s:S}
theorem wrec_ok (h:SN g w n tmps s) {f b l st j rid st' j':Nat} {ks:List Nat} {caps:List D} {r:Loop} (hRL:RL<=b) (hbx:Ev.bx f b s=some (.rcd st j rid ks::caps)) (hl:g.bx f b=some l) (hr:w.heap[l]? =some (.loop r)) (r':Loop)
  (h1:r'.params=r.params∧r'.assign=r.assign∧r'.body=r.body∧r'.tmps=r.tmps) (h2:r'.state=stOf st') (h3:r'.pending=jumpOf j'):
  SN g (w.putObj l (.loop r')) n tmps (sbx f b (.rcd st' j' rid ks::caps) s)∧∀k,Ext k g w g (w.putObj l (.loop r')):=by
 obtain⟨i1,i2,i3,i4⟩:=h.st.inv.box f b l hl
 have hW:=wr_putObj (w:=w) (.loop r') i1 i3 i4 (h.st.inv.mkl hr) fun o=>by simp[World.cell?,hr]
 refine⟨⟨⟨hW.inv h.st.inv,⟨fun f' b' ds' hds'=>?_,fun f' b' hd=>?_,fun f' b' ds' d' hds' hd'=>?_⟩,fun t'=>?_⟩,h.size⟩,fun k=>hW.ext k⟩
 ·rw[B_sbx hbx]at hds'
  split at hds'
  ·rename_i e'
   obtain⟨rfl,rfl⟩:=e'
   injection hds' with hds'
   subst hds'
   obtain⟨l0,r0,st0,j0,rid0,ks0,caps0,e1,e2,e3,e4,e5,e6,e7,e8,e9⟩:=(h.st.sb.rel f' b' _ (bx_bxl hbx)).r hRL
   rw[hl]at e1
   injection e1 with e1
   subst e1
   rw[hr]at e2
   injection e2 with e2
   injection e2 with e2
   subst e2
   injection e3 with e3 e3'
   injection e3 with x1 x2 x3 x4
   subst x1 x2 x3 x4 e3'
   refine .inr (.inl ⟨hRL,((h.st.sb.rel f' b' _ (bx_bxl hbx)).rm hRL).1,l,r',st',j',rid,ks,caps,hl,World.putObj_heap_same i2,rfl,e4,by rw[h1.1,h1.2.1,h1.2.2.1,h1.2.2.2];exact e5,h2,h3,e8,fun c d t hc ht=>?_⟩)
   rw[h1.2.2.2]
   exact(e9 c d t hc ht).keep (hW.keep _)
  ·rename_i hne
   refine(h.st.sb.rel f' b' ds' hds').keep (fun c=>hW.keep _) fun b1 hb1=>hW.same b1 fun e'=>?_
   subst e'
   exact hne (h.st.inv.inj _ _ _ _ _ hb1 hl)
 ·rw[B_sbx hbx]
  split
  ·rfl
  ·exact h.st.sb.dom f' b' hd
 ·rw[B_sbx hbx]at hds'
  split at hds'
  ·rename_i e'
   obtain⟨rfl,rfl⟩:=e'
   injection hds' with hds'
   subst hds'
   rcases List.mem_cons.1 hd' with rfl|hd'
   ·rfl
   ·exact h.st.sb.bnd _ _ _ _ (bx_bxl hbx) (List.mem_cons_of_mem _ hd')
  ·exact h.st.sb.bnd _ _ _ _ hds' hd'
 ·rw[sbx_k,sbx_e]
  exact(h.st.e t').keep fun i c=>hW.keep _
def G.mark (g:G) (r:Nat):G:={g with dm:=fun b=>if b=r then true else g.dm b}
theorem newmark_ok (h:SN g w n tmps s):SN (g.mark w.heap.size) (w.alloc (.deferred (some []))) n tmps s∧Ext s.k g w (g.mark w.heap.size) (w.alloc (.deferred (some [])))∧g.dm w.heap.size=false:=by
 have hi:=h.st.inv
 have hdm:g.dm w.heap.size=false:=by
  cases hq:g.dm w.heap.size with
  |false=>rfl
  |true=>have:=getq_lt' (hi.dm _ hq).2;omega
 have hK:∀ℓ,Keep g w ℓ (g.mark w.heap.size) (w.alloc (.deferred (some []))) ℓ:=fun ℓ=>
  ⟨fun b o ho=>cell_of_block (alloc_same _ _ _ (hi.frlt ho)),fun b=>Nat.le_refl _,fun f s' b hb=>hb,fun b hb=>⟨hb,rfl,alloc_same _ _ _ (hi.lt hb)⟩,gr_alloc _ _⟩
 refine⟨⟨⟨⟨?_,?_,?_,hi.inj,hi.tk,?_,?_,fun b hb=>?_⟩,⟨fun f b ds hds=>?_,h.st.sb.dom,h.st.sb.bnd⟩,fun t=>?_⟩,h.size⟩,?_,hdm⟩
 ·exact Nat.le_trans hi.base (by rw[alloc_size];omega)
 ·intro b hb
  exact hi.fresh b (by rw[alloc_size]at hb;omega)
 ·intro f b b' hb
  obtain⟨a1,a2,a3,a4⟩:=hi.box f b b' hb
  exact⟨a1,by rw[alloc_size];omega,a3,a4⟩
 ·intro b o ho
  rw[cell_of_block (alloc_same _ _ _ (hi.frlt ho))]
  exact hi.cells b o ho
 ·intro b hb
  have hb':(if b=w.heap.size then true else g.dm b)=true:=hb
  split at hb'
  ·rename_i e;subst e;exact⟨hi.base,alloc_new _ _⟩
  ·exact⟨(hi.dm b hb').1,(alloc_same _ _ _ (getq_lt' (hi.dm b hb').2)).trans (hi.dm b hb').2⟩
 ·have hb':(if b=w.heap.size then true else g.dm b)=true:=hb
  split at hb'
  ·rename_i e;subst e;exact(hi.fresh _ (Nat.le_refl _)).2
  ·exact hi.dt b hb'
 ·exact(h.st.sb.rel f b ds hds).keep (fun c=>hK _) fun b' hb'=>alloc_same _ _ _ (hi.box _ _ _ hb').2.1
 ·exact(h.st.e t).keep fun i c=>hK _
 ·exact⟨rfl,rfl,rfl,rfl,by rw[alloc_size];omega,fun b hb=>alloc_same _ _ _ (Nat.lt_of_lt_of_le hb hi.base),fun _=>Nat.le_refl _,(hK (boxL 0 0 0)).cell,fun _ _ _ _ h=>h,fun b ℓ hb h0 hk=>(hK ℓ).tk b hb,fun b hb=>by
   show(if _ then _ else _)=_
   split
   ·rfl
   ·exact hb,gr_alloc _ _⟩
theorem newrec_ok {b:Nat} (h:SN g w n tmps s) (hRL:RL<=b) (hML:b<ML) (hl:lk b s.l=none) {r:Loop} {rid:Nat} {ks:List Nat} (hrid:RL<=rid) (hro:roundOf PP rid=some (r.tmps.size,r.params,r.assign,r.body)) (hst:r.state= .ready) (hpd:r.pending=none) (ht:r.tmps=tmps)
  (hb:((ks.map fun t=>(get t s.e).strip).all (D.cap (s.k+1)))=true):
  ∃g',SN g' (w.alloc (.loop r)) n tmps (s.wl (ins b (.rcd 0 0 rid ks::ks.map fun t=>(get t s.e).strip) s.l))∧g'.bx s.k b=some w.heap.size∧Ext s.k g w g' (w.alloc (.loop r))∧(∀f s' b',g.bx f s'=some b'->g'.bx f s'=some b'):=by
 have hnone:g.bx s.k b=none:=by
  cases hq:g.bx s.k b with
  |none=>rfl
  |some x=>
   have:=h.st.sb.dom s.k b (by rw[hq];rfl)
   rw[<-bx_eq _ _ _ (Nat.le_refl _)]at this
   unfold Ev.bx at this
   rw[if_pos (show s.k=s.o.length from rfl),hl]at this
   cases this
 have hi:=h.st.inv
 have hK:∀ℓ,Keep g w ℓ (g.nbx s.k b w.heap.size) (w.alloc (.loop r)) ℓ:=fun ℓ=>
  ⟨fun b o ho=>cell_of_block (alloc_same _ _ _ (hi.frlt ho)),fun b=>Nat.le_refl _,fun f s' b' hb=>by
   show(if f=s.k∧s'=b then _ else _)=_
   rw[if_neg fun e=>by rw[e.1,e.2,hnone]at hb;cases hb]
   exact hb,fun b hb=>⟨hb,rfl,alloc_same _ _ _ (hi.lt hb)⟩,gr_alloc _ _⟩
 refine⟨g.nbx s.k b w.heap.size,⟨⟨⟨?_,?_,?_,?_,hi.tk,?_,fun b hb=>⟨(hi.dm b hb).1,(alloc_same _ _ _ (getq_lt' (hi.dm b hb).2)).trans (hi.dm b hb).2⟩,hi.dt⟩,⟨fun f' b' ds' hds'=>?_,fun f' b' hd=>?_,fun f' b' ds' d' hds' hd'=>?_⟩,fun t'=>?_⟩,h.size⟩,?_,?_,(hK (boxL 0 0 0)).bx⟩
 ·exact Nat.le_trans hi.base (by rw[alloc_size];omega)
 ·intro b hb
  exact hi.fresh b (by rw[alloc_size]at hb;omega)
 ·intro f' s' b' hb'
  have hb'':(if f'=s.k∧s'=b then some w.heap.size else g.bx f' s')=some b':=hb'
  split at hb''
  ·injection hb'' with hb''
   subst hb''
   exact⟨hi.base,by rw[alloc_size];omega,(hi.fresh _ (Nat.le_refl _)).1,(hi.fresh _ (Nat.le_refl _)).2⟩
  ·obtain⟨a1,a2,a3,a4⟩:=hi.box _ _ _ hb''
   exact⟨a1,by rw[alloc_size];omega,a3,a4⟩
 ·intro f1 s1 f2 s2 b' h1 h2
  have h1':(if f1=s.k∧s1=b then some w.heap.size else g.bx f1 s1)=some b':=h1
  have h2':(if f2=s.k∧s2=b then some w.heap.size else g.bx f2 s2)=some b':=h2
  split at h1'<;>split at h2'
  ·rename_i e1 e2;exact⟨e1.1.trans e2.1.symm,e1.2.trans e2.2.symm⟩
  ·injection h1' with h1';have:=(hi.box _ _ _ h2').2.1;omega
  ·injection h2' with h2';have:=(hi.box _ _ _ h1').2.1;omega
  ·exact hi.inj _ _ _ _ _ h1' h2'
 ·intro b o ho
  rw[cell_of_block (alloc_same _ _ _ (hi.frlt ho))]
  exact hi.cells b o ho
 ·rw[B_new _ hl]at hds'
  split at hds'
  ·rename_i e'
   obtain⟨rfl,rfl⟩:=e'
   injection hds' with hds'
   subst hds'
   refine .inr (.inl ⟨hRL,hML,w.heap.size,r,0,0,rid,ks,_,by show(if _ then _ else _)=_;rw[if_pos ⟨rfl,rfl⟩],alloc_new _ _,rfl,hrid,hro,hst,hpd,by simp,fun c d t hc hk=>?_⟩)
   rw[List.getElem?_map,hk]at hc
   simp only[Option.map_some]at hc
   injection hc with hc
   subst hc
   have hcap:D.cap (s.k+1) (get t s.e).strip=true:=List.all_eq_true.1 hb _ (List.mem_map.2 ⟨t,List.mem_of_getElem? hk,rfl⟩)
   simp only[D.cap,Bool.and_eq_true,Bool.not_eq_true']at hcap
   have hx:=((h.st.e t).strip (fun _ c'=>boxL s.k b' c)).keep fun i c'=>hK (boxL s.k b' c)
   rw[RT_ne hcap.1.2,RV_ne hcap.1.1]at hx
   rw[ht]
   exact hx
  ·exact(h.st.sb.rel f' b' ds' hds').keep (fun c=>hK _) fun b hb=>alloc_same _ _ _ (hi.box _ _ _ hb).2.1
 ·rw[B_new _ hl]
  split
  ·rfl
  ·rename_i hne
   refine h.st.sb.dom f' b' ?_
   have:(if f'=s.k∧b'=b then some w.heap.size else g.bx f' b').isSome=true:=hd
   rwa[if_neg hne]at this
 ·rw[B_new _ hl]at hds'
  split at hds'
  ·rename_i e'
   obtain⟨rfl,rfl⟩:=e'
   injection hds' with hds'
   subst hds'
   rcases List.mem_cons.1 hd' with rfl|hd'
   ·rfl
   ·have hcap:=List.all_eq_true.1 hb _ hd'
    simp only[D.cap,Bool.and_eq_true,Bool.not_eq_true']at hcap
    exact hcap.2
  ·exact h.st.sb.bnd _ _ _ _ hds' hd'
 ·exact(h.st.e t').keep fun i c=>hK _
 ·show(if _ then _ else _)=_
  rw[if_pos ⟨rfl,rfl⟩]
 ·exact⟨rfl,rfl,rfl,rfl,by rw[alloc_size];omega,fun b hb=>alloc_same _ _ _ (Nat.lt_of_lt_of_le hb hi.base),fun _=>Nat.le_refl _,(hK (boxL 0 0 0)).cell,eqb (fun f' s' hf=>by show(if _ then _ else _)=_;rw[if_neg fun e=>by omega]),fun b ℓ hb h0 hk=>(hK ℓ).tk b hb,fun _ h=>h,gr_alloc _ _⟩
def G.shut (g:G) (r:Nat):G:={g with dm:=fun b=>if b=r then false else g.dm b}
theorem shut_ok (h:SN g w n tmps s) {r:Nat} (hr:g.dm r=true):SN (g.shut r) (w.putObj r (.deferred none)) n tmps s∧∀k g0 w0,Ext k g0 w0 g w->g0.dm r=false->Ext k g0 w0 (g.shut r) (w.putObj r (.deferred none)):=by
 have hi:=h.st.inv
 obtain⟨h1,h2⟩:=hi.dm r hr
 have hfr:g.fr r=0:=by
  cases hq:g.fr r with
  |zero=>rfl
  |succ q=>
   have:=hi.cells r 0 (by omega)
   simp[World.cell?,h2]at this
 have htk:=hi.dt r hr
 have hi':Inv (g.shut r) w:=⟨hi.base,hi.fresh,hi.box,hi.inj,hi.tk,hi.cells,fun b hb=>by
  have hb':(if b=r then false else g.dm b)=true:=hb
  split at hb'
  ·cases hb'
  ·exact hi.dm b hb',fun b hb=>by
  have hb':(if b=r then false else g.dm b)=true:=hb
  split at hb'
  ·cases hb'
  ·exact hi.dt b hb'⟩
 have hW:Wr (g.shut r) w r (w.putObj r (.deferred none)):=wr_putObj _ h1 hfr htk (by show(if _ then _ else _)=_;rw[if_pos rfl]) fun o=>by simp[World.cell?,h2]
 have hK:∀ℓ,Keep g w ℓ (g.shut r) (w.putObj r (.deferred none)) ℓ:=fun ℓ=>by have:=hW.keep ℓ;exact⟨this.cell,this.fr,this.bx,this.tk,this.sz⟩
 have hne:∀f b blk,g.bx f b=some blk->blk≠r:=fun f b blk hb e=>by
  subst e
  obtain⟨ds,hds⟩:=Option.isSome_iff_exists.1 (h.st.sb.dom f b (by rw[hb];rfl))
  rcases h.st.sb.rel f b ds hds with⟨_,b',cs,et,q1,q2,_⟩|⟨_,_,l,r',st,j,rid,ks,caps,q1,q2,_⟩|⟨_,l,es,ck,q1,q2,_⟩
  ·rw[hb]at q1;injection q1 with q1;subst q1;rw[h2]at q2;cases q2
  ·rw[hb]at q1;injection q1 with q1;subst q1;rw[h2]at q2;cases q2
  ·rw[hb]at q1;injection q1 with q1;subst q1;rw[h2]at q2;cases q2
 refine⟨⟨⟨hW.inv hi',⟨fun f b ds hds=>(h.st.sb.rel f b ds hds).keep (fun c=>hK _) fun b' hb'=>hW.same b' (hne _ _ _ hb'),h.st.sb.dom,h.st.sb.bnd⟩,fun t=>(h.st.e t).keep fun i c=>hK _⟩,h.size⟩,fun k g0 w0 e hd=>?_⟩
 have e2:=hW.ext k
 refine⟨e.base,e.os,e.tape,e.output,by rw[World.putObj_size];exact e.size,fun b hb=>(hW.same b fun x=>?_).trans (e.old b hb),e.fr,fun b o ho=>(hW.cell b o (Nat.lt_of_lt_of_le ho (e.fr b))).trans (e.cell b o ho),e.bx,fun b ℓ hb h0 hk=>?_,fun b hb=>?_,e.sz.trans hW.sz⟩
 ·rw[x]at hb
  have:=e.base
  omega
 ·obtain⟨a1,a2,a3⟩:=e.tk b ℓ hb h0 hk
  exact⟨a1,a2,(hW.same b fun x=>by rw[x,htk]at a1;cases a1).trans a3⟩
 ·show(if _ then _ else _)=_
  rw[if_neg fun x=>by rw[x,hd]at hb;cases hb]
  exact e.dm b hb
theorem leaves_ok {fn:Func} {R:Ending->World->Prop} {k:Nat} {g0:G} {w0:World}:∀(m:List Nat) {g:G} {w:World},SN g w n tmps s->m.Nodup->(∀b∈m,g0.dm b=false∧g.dm b=true)->Ext k g0 w0 g w->
  (∀g' w',SN g' w' n tmps s->Ext k g0 w0 g' w'->∃v,(results fn tmps).run P w'= .ok v w'∧R (.returned v) w')->LeavesInM (W none) 0 P fn tmps R (m.map mkD) .returning w
 |[],g,w,h,_,_,e,hq=>by rw[List.map_nil,LeavesInM];exact hq g w h e
 |r::m,g,w,h,hnd,hm,e,hq=>by
  obtain⟨h1,h2⟩:=hm r (by simp)
  obtain⟨q1,q2⟩:=shut_ok h h2
  rw[List.map_cons,LeavesInM]
  refine⟨fun x=>(by cases x),.inl ⟨r,_,rfl,run_takeDeferred (h.st.inv.dm r h2).2,leaves_ok m q1 (List.nodup_cons.1 hnd).2 (fun b hb=>?_) (q2 _ _ _ e h1) hq⟩⟩
  obtain⟨h3,h4⟩:=hm b (by simp[hb])
  refine⟨h3,?_⟩
  show(if _ then _ else _)=_
  rw[if_neg fun(x:b=r)=>(List.nodup_cons.1 hnd).1 (by rw[<-x];exact hb)]
  exact h4
end
end Go.Proofs.Ytfopbiiffiickaa.Ev
namespace Go.Proofs.Ytfopbiiffiickaa.Ev
open Go
theorem qv_of {c:Caller} {n f:Nat} {ds:List D} {d:D} (h:∀B:List Bx,B.length=n->c f ds B=some (d,B)):qv c n f ds=some d:=by
 have hx:∃d,∀B:List Bx,B.length=n->c f ds B=some (d,B):=⟨d,h⟩
 unfold qv
 rw[dif_pos hx]
 have:=(hx.choose_spec (List.replicate n []) (by simp)).symm.trans (h (List.replicate n []) (by simp))
 injection this with this
 injection this with this
 rw[this]
theorem qv_some {c:Caller} {n f:Nat} {ds:List D} {d:D} (h:qv c n f ds=some d) (B:List Bx) (hB:B.length=n):c f ds B=some (d,B):=by
 unfold qv at h
 split at h
 ·rename_i hx
  injection h with h
  rw[<-h]
  exact hx.choose_spec B hB
 ·cases h
theorem SEq.refl (s:S):SEq s s:=⟨rfl,rfl,fun _=>rfl⟩
theorem SEq.trans {s t u:S} (h:SEq s t) (h':SEq t u):SEq s u:=⟨h.1.trans h'.1,h.2.1.trans h'.2.1,fun n=>(h.2.2 n).trans (h'.2.2 n)⟩
theorem SEq.symm {s t:S} (h:SEq s t):SEq t s:=⟨h.1.symm,h.2.1.symm,fun n=>(h.2.2 n).symm⟩
section
variable {c:Caller} {s s':S}
theorem rd_same {x:Opd} (h:∀n∈x.rs,get n s.e=get n s'.e):(rd x s).1=(rd x s').1:=by
 cases x with
 |t n=>simp only[rd];rw[h n (by simp[Opd.rs])]
 |m n=>simp only[rd];rw[h n (by simp[Opd.rs])]
 |_=>rfl
theorem rd_ot {x:Opd} (h:x.ot=true):(rd x s).2=s:=by cases x<;>first|rfl|cases h
theorem rd_moved {x:Opd}:(rd x s).2=moved x.ms s:=by cases x<;>rfl
theorem rds_same {xs:List Opd} (h:∀n∈xs.flatMap Opd.rs,get n s.e=get n s'.e):rds s xs=rds s' xs:=by
 induction xs with
 |nil=>rfl
 |cons x r ih=>
  simp only[rds]
  rw[rd_same fun n hn=>h n (by simp[hn]),ih fun n hn=>h n (by simp only[List.flatMap_cons,List.mem_append];exact .inr hn)]
theorem lay_same {ps:List (Nat×Nat×Opd)} (h:∀n∈ps.flatMap (fun p=>p.2.2.rs),get n s.e=get n s'.e) (cs:List D):lay s cs ps=lay s' cs ps:=by
 induction ps generalizing cs with
 |nil=>rfl
 |cons p r ih=>
  obtain⟨a,b,x⟩:=p
  have e:(rd x s).1=(rd x s').1:=rd_same fun n hn=>h n (by simp[hn])
  simp only[lay]
  rw[e]
  split
  ·exact ih (fun n hn=>h n (by simp only[List.flatMap_cons,List.mem_append];exact .inr hn)) _
  ·rfl
theorem optI_same {o:Option Opd} {k:Int} (h:∀n∈Oop o,get n s.e=get n s'.e):optI s k o=optI s' k o:=by
 cases o with
 |none=>rfl
 |some x=>simp only[optI];rw[rd_same (s':=s') fun n hn=>h n (by simpa[Oop]using hn)]
theorem mnm_same {mx:Bool} {k:IntKind} {a:Int} {xs:List Opd} (h:∀n∈xs.flatMap Opd.rs,get n s.e=get n s'.e):mnm mx k a s xs=mnm mx k a s' xs:=by
 induction xs generalizing a with
 |nil=>rfl
 |cons x r ih=>
  simp only[mnm]
  rw[rd_same (s':=s') fun n hn=>h n (by simp[hn])]
  have ih':=fun a=>ih (a:=a) fun n hn=>h n (by simp only[List.flatMap_cons,List.mem_append];exact .inr hn)
  split
  ·exact ih' _
  ·rfl
theorem neut_loc {t:Option Nat} {p:Op} {r:D×S} (hp:p.neut=true) (he:evOp c t p s=some r) (h:∀n∈p.rs,get n s.e=get n s'.e):r.2=moved p.ms s∧evOp c t p s'=some (r.1,moved p.ms s'):=by
 cases p with
 |mv x=>
  simp only[evOp]at he ⊢
  injection he with he
  subst he
  exact⟨rd_moved,by rw[rd_same (s:=s) (s':=s') h];exact congrArg some (Prod.ext rfl rd_moved)⟩
 |pk q a b=>
  simp only[Op.neut,Bool.and_eq_true]at hp
  have h0:(rd q s).1=(rd q s').1:=rd_same fun n hn=>h n (by simp[Op.rs,hn])
  have h1:(rd a s).1=(rd a s').1:=rd_same fun n hn=>h n (by simp[Op.rs,hn])
  have h2:(rd b s).1=(rd b s').1:=rd_same fun n hn=>h n (by simp[Op.rs,hn])
  simp only[evOp]at he ⊢
  rw[<-h0]
  split at he
  ·rename_i v hv
   injection he with he
   subst he
   cases v with
   |true=>simp only[if_true];exact⟨rd_ot hp.1,by rw[h1];exact congrArg some (Prod.ext rfl (rd_ot hp.1))⟩
   |false=>simp only[Bool.false_eq_true,if_false];exact⟨rd_ot hp.2,by rw[h2];exact congrArg some (Prod.ext rfl (rd_ot hp.2))⟩
  ·cases he
 |ap w z by_ x y=>
  have h1:(rd x s).1=(rd x s').1:=rd_same fun n hn=>h n (by simp[Op.rs,hn])
  have h2:(rd y s).1=(rd y s').1:=rd_same fun n hn=>h n (by simp[Op.rs,hn])
  simp only[evOp]at he ⊢
  rw[<-h1,<-h2]
  have e:(rd x s').2=moved (Op.ap w z by_ x y).ms s':=rd_moved
  have e0:(rd x s).2=moved (Op.ap w z by_ x y).ms s:=rd_moved
  rw[e]
  rw[e0]at he
  split at he
  ·split at he
   ·rename_i hc
    rw[if_pos hc]
    injection he with he
    subst he
    exact⟨rfl,rfl⟩
   ·cases he
  ·split at he
   ·rename_i hc
    rw[if_pos hc]
    injection he with he
    subst he
    exact⟨rfl,rfl⟩
   ·cases he
  ·split at he
   ·rename_i hc
    rw[if_pos hc]
    injection he with he
    subst he
    exact⟨rfl,rfl⟩
   ·cases he
  ·cases he
 |ext x i=>
  have h1:(rd x s).1=(rd x s').1:=rd_same fun n hn=>h n (by simp[Op.rs,hn])
  cases x with
  |m n=>cases hp
  |_=>
   simp only[evOp]at he ⊢
   rw[<-h1]
   split at he
   ·obtain⟨d,q1,q2⟩:=Option.map_eq_some_iff.1 he
    subst q2
    exact⟨rfl,by rw[q1];rfl⟩
   ·cases he
 |bin op x y=>
  have h1:(rd x s).1=(rd x s').1:=rd_same fun n hn=>h n (by simp[Op.rs,hn])
  have h2:(rd y s).1=(rd y s').1:=rd_same fun n hn=>h n (by simp[Op.rs,hn])
  simp only[evOp]at he ⊢
  rw[<-h1,<-h2]
  split at he
  ·split at he
   ·rename_i hk
    rw[if_pos hk]
    obtain⟨d,q1,q2⟩:=Option.map_eq_some_iff.1 he
    subst q2
    exact⟨rfl,by rw[q1];rfl⟩
   ·cases he
  ·cases he
 |no x=>
  have h1:(rd x s).1=(rd x s').1:=rd_same h
  simp only[evOp]at he ⊢
  rw[<-h1]
  split at he
  ·injection he with he;subst he;exact⟨rfl,rfl⟩
  ·cases he
 |un xr x=>
  have h1:(rd x s).1=(rd x s').1:=rd_same h
  simp only[evOp]at he ⊢
  rw[<-h1]
  split at he
  ·obtain⟨d,q1,q2⟩:=Option.map_eq_some_iff.1 he
   subst q2
   exact⟨rfl,by rw[q1];rfl⟩
  ·cases he
 |fa x off=>
  have h1:(rd x s).1=(rd x s').1:=rd_same h
  simp only[evOp]at he ⊢
  rw[<-h1]
  split at he
  ·injection he with he;subst he;exact⟨rfl,rfl⟩
  ·injection he with he;subst he;exact⟨rfl,rfl⟩
  ·cases he
 |nck x=>
  have h1:(rd x s).1=(rd x s').1:=rd_same h
  simp only[evOp]at he ⊢
  rw[<-h1]
  split at he
  ·injection he with he;subst he;exact⟨rfl,rfl⟩
  ·injection he with he;subst he;exact⟨rfl,rfl⟩
  ·cases he
 |ia x i z=>
  have h1:(rd x s).1=(rd x s').1:=rd_same fun n hn=>h n (by simp[Op.rs,hn])
  have h2:(rd i s).1=(rd i s').1:=rd_same fun n hn=>h n (by simp[Op.rs,hn])
  simp only[evOp]at he ⊢
  rw[<-h1,<-h2]
  split at he
  ·split at he
   ·rename_i hk
    rw[if_pos hk]
    obtain⟨d,q1,q2⟩:=Option.map_eq_some_iff.1 he
    subst q2
    exact⟨rfl,by rw[q1];rfl⟩
   ·cases he
  ·split at he
   ·rename_i hk
    rw[if_pos hk]
    injection he with he;subst he;exact⟨rfl,rfl⟩
   ·cases he
  ·cases he
 |len x=>
  have h1:(rd x s).1=(rd x s').1:=rd_same h
  simp only[evOp]at he ⊢
  rw[<-h1]
  split at he
  ·injection he with he;subst he;exact⟨rfl,rfl⟩
  ·injection he with he;subst he;exact⟨rfl,rfl⟩
  ·cases he
 |six x y=>
  have h1:(rd x s).1=(rd x s').1:=rd_same fun n hn=>h n (by simp[Op.rs,hn])
  have h2:(rd y s).1=(rd y s').1:=rd_same fun n hn=>h n (by simp[Op.rs,hn])
  simp only[evOp]at he ⊢
  rw[<-h1,<-h2]
  split at he
  ·split at he
   ·rename_i hc
    rw[if_pos hc]
    obtain⟨c,q1,q2⟩:=Option.map_eq_some_iff.1 he
    subst q2
    rw[q1]
    exact⟨rfl,rfl⟩
   ·cases he
  ·cases he
 |lns x=>
  have h1:(rd x s).1=(rd x s').1:=rd_same h
  simp only[evOp]at he ⊢
  rw[<-h1]
  split at he
  ·injection he with he;subst he;exact⟨rfl,rfl⟩
  ·cases he
 |ci k x=>
  have h1:(rd x s).1=(rd x s').1:=rd_same h
  simp only[evOp]at he ⊢
  rw[<-h1]
  split at he
  ·injection he with he;subst he;exact⟨rfl,rfl⟩
  ·cases he
 |eqn ne x=>
  have h1:(rd x s).1=(rd x s').1:=rd_same h
  simp only[evOp]at he ⊢
  rw[<-h1]
  split at he
  ·injection he with he;subst he;exact⟨rfl,rfl⟩
  ·injection he with he;subst he;exact⟨rfl,rfl⟩
  ·injection he with he;subst he;exact⟨rfl,rfl⟩
  ·cases he
 |mk w z by_ ze x y=>
  have h1:(rd x s).1=(rd x s').1:=rd_same fun n hn=>h n (by simp[Op.rs,hn])
  have h2:(rd y s).1=(rd y s').1:=rd_same fun n hn=>h n (by simp[Op.rs,hn])
  simp only[evOp]at he ⊢
  rw[<-h1,<-h2]
  split at he
  ·split at he
   ·rename_i hk
    rw[if_pos hk]
    injection he with he;subst he;exact⟨rfl,rfl⟩
   ·cases he
  ·cases he
 |eqs ne x y=>
  have h1:(rd x s).1=(rd x s').1:=rd_same fun n hn=>h n (by simp[Op.rs,hn])
  have h2:(rd y s).1=(rd y s').1:=rd_same fun n hn=>h n (by simp[Op.rs,hn])
  simp only[evOp]at he ⊢
  rw[<-h1,<-h2]
  split at he
  ·injection he with he;subst he;exact⟨rfl,rfl⟩
  ·cases he
 |eqb ne x y=>
  have h1:(rd x s).1=(rd x s').1:=rd_same fun n hn=>h n (by simp[Op.rs,hn])
  have h2:(rd y s).1=(rd y s').1:=rd_same fun n hn=>h n (by simp[Op.rs,hn])
  simp only[evOp]at he ⊢
  rw[<-h1,<-h2]
  split at he
  ·injection he with he;subst he;exact⟨rfl,rfl⟩
  ·cases he
 |eqa ne z x y=>
  have h1:(rd x s).1=(rd x s').1:=rd_same fun n hn=>h n (by simp[Op.rs,hn])
  have h2:(rd y s).1=(rd y s').1:=rd_same fun n hn=>h n (by simp[Op.rs,hn])
  simp only[evOp]at he ⊢
  rw[<-h1,<-h2]
  split at he
  ·obtain⟨d,q1,q2⟩:=Option.map_eq_some_iff.1 he
   subst q2
   exact⟨rfl,by rw[q1];rfl⟩
  ·cases he
 |sh op x y=>
  have h1:(rd x s).1=(rd x s').1:=rd_same fun n hn=>h n (by simp[Op.rs,hn])
  have h2:(rd y s).1=(rd y s').1:=rd_same fun n hn=>h n (by simp[Op.rs,hn])
  simp only[evOp]at he ⊢
  rw[<-h1,<-h2]
  split at he
  ·obtain⟨d,q1,q2⟩:=Option.map_eq_some_iff.1 he
   subst q2
   exact⟨rfl,by rw[q1];rfl⟩
  ·cases he
 |bs w z xs=>
  have h1:rds s xs=rds s' xs:=rds_same h
  simp only[evOp]at he ⊢
  rw[<-h1]
  split at he
  ·rename_i hk
   rw[if_pos hk]
   injection he with he;subst he;exact⟨rfl,rfl⟩
  ·cases he
 |mf f xs=>
  have h1:rds s xs=rds s' xs:=rds_same h
  simp only[evOp]at he ⊢
  rw[<-h1]
  split at he
  ·rename_i hk
   rw[if_pos hk]
   injection he with he;subst he;exact⟨rfl,rfl⟩
  ·cases he
 |bst x=>
  have h1:(rd x s).1=(rd x s').1:=rd_same h
  simp only[evOp]at he ⊢
  rw[<-h1]
  split at he
  ·split at he
   ·rename_i hk
    rw[if_pos hk]
    obtain⟨d,q1,q2⟩:=Option.map_eq_some_iff.1 he
    subst q2
    exact⟨rfl,by rw[q1];rfl⟩
   ·cases he
  ·cases he
 |bd z ps=>
  have h1:lay s (z.map zc) ps=lay s' (z.map zc) ps:=lay_same h _
  simp only[evOp]at he ⊢
  rw[<-h1]
  obtain⟨d,q1,q2⟩:=Option.map_eq_some_iff.1 he
  subst q2
  exact⟨rfl,by rw[q1];rfl⟩
 |mm mx x xs=>
  have h1:(rd x s).1=(rd x s').1:=rd_same fun n hn=>h n (by simp[Op.rs,hn])
  have h2:∀k a,mnm mx k a s xs=mnm mx k a s' xs:=fun k a=>mnm_same fun n hn=>h n (by simp only[Op.rs,List.mem_append];exact .inr hn)
  simp only[evOp]at he ⊢
  rw[<-h1]
  split at he
  ·rw[<-h2]
   obtain⟨d,q1,q2⟩:=Option.map_eq_some_iff.1 he
   subst q2
   exact⟨rfl,by rw[q1];rfl⟩
  ·cases he
 |slc z x lo hi=>
  have h1:(rd x s).1=(rd x s').1:=rd_same fun n hn=>h n (by simp[Op.rs,hn])
  have h2:∀k,optI s k lo=optI s' k lo:=fun k=>optI_same fun n hn=>h n (by simp[Op.rs,hn])
  have h3:∀k,optI s k hi=optI s' k hi:=fun k=>optI_same fun n hn=>h n (by simp[Op.rs,hn])
  simp only[evOp]at he ⊢
  rw[<-h1]
  split at he
  ·rw[<-h2,<-h3]
   split at he
   ·split at he
    ·rename_i hk
     rw[if_pos hk]
     split at he
     ·injection he with he;subst he;exact⟨rfl,rfl⟩
     ·injection he with he;subst he;exact⟨rfl,rfl⟩
     ·cases he
    ·cases he
   ·cases he
  ·rw[<-h2,<-h3]
   split at he
   ·split at he
    ·rename_i hk
     rw[if_pos hk]
     injection he with he;subst he;exact⟨rfl,rfl⟩
    ·cases he
   ·cases he
  ·cases he
 |_=>cases hp
end
end Go.Proofs.Ytfopbiiffiickaa.Ev
namespace Go.Proofs.Ytfopbiiffiickaa.Ev
open Go
section
variable {c:Caller} {s s':S}
theorem sbx_put {f b n:Nat} {ds:List D} {d:D}:sbx f b ds (put n d s)=put n d (sbx f b ds s):=by
 unfold sbx put
 simp only
 split<;>rfl
theorem sbx_moved {f b:Nat} {ds:List D} {m:Option Nat}:sbx f b ds (moved m s)=moved m (sbx f b ds s):=by
 cases m with
 |none=>rfl
 |some n=>
  simp only[moved]
  rw[sbx_put]
  congr 2
  unfold sbx
  split<;>rfl
theorem unsnoc_app {α:Type} (l:List α) (x:α):unsnoc (l++[x])=some (l,x):=by
 induction l with
 |nil=>rfl
 |cons y r ih=>
  cases hr:r++[x]with
  |nil=>simp at hr
  |cons z q=>rw[List.cons_append,hr,unsnoc,<-hr,ih];rfl
theorem rdL_ot {xs:List Opd} (h:xs.all Opd.ot=true):rdL xs s=(rds s xs,s):=by
 induction xs with
 |nil=>rfl
 |cons x r ih=>
  simp only[List.all_cons,Bool.and_eq_true]at h
  simp only[rdL,rds,rd_ot h.1,ih h.2]
theorem doCall_q {f:Nat} {ds:List D} {d:D} (h:qv c (s.o.length+1) f ds=some d):doCall c f ds s=some (d,s):=by
 unfold doCall
 rw[qv_some h _ (by simp)]
 simp only[unsnoc_app]
 rfl
theorem inst_ok {t:Option Nat} {p:Op} {i:Ins} (h:inst c t p s=some i):evOp c t p s=some (i.d,moved i.mv (i.a.ap s)):=by
 unfold inst at h
 split at h
 ·rename_i n x
  simp only[evOp]
  split at h
  ·split at h
   ·rename_i hx _ ds hb
    obtain⟨d,q1,q2⟩:=Option.map_eq_some_iff.1 h
    subst q2
    (try rw[hx]);(try simp only);(try rw[hb]);(try simp only);rw[q1];rfl
   ·cases h
  ·rename_i hx
   obtain⟨d,q1,q2⟩:=Option.map_eq_some_iff.1 h
   subst q2
   (try rw[hx]);(try simp only);rw[q1];rfl
  ·cases h
 ·rename_i n x
  simp only[evOp]
  split at h
  ·split at h
   ·rename_i hx _ ds hb
    obtain⟨d,q1,q2⟩:=Option.map_eq_some_iff.1 h
    subst q2
    (try rw[hx]);(try simp only);(try rw[hb]);(try simp only);rw[q1]
    simp only[Option.map_some,moved,Ba.ap,hb,Option.getD_some]
   ·cases h
  ·cases h
 ·rename_i n x y
  simp only[evOp]
  split at h
  ·split at h
   ·rename_i hx _ ds hb
    split at h
    ·rename_i hc
     injection h with h
     subst h
     (try rw[hx]);(try simp only);(try rw[hb]);(try simp only);rw[if_pos hc]
     simp only[Ba.ap,hb,Option.getD_some]
     rw[rd_moved,sbx_moved]
    ·cases h
   ·cases h
  ·cases h
 ·rename_i x y
  simp only[evOp]
  split at h
  ·split at h
   ·rename_i hx hy hc
    injection h with h
    subst h
    (try rw[hx,hy]);(try simp only);rw[if_pos hc];rfl
   ·cases h
  ·split at h
   case isFalse=>cases h
   rename_i hm
   rw[if_pos hm]
   split at h
   ·rename_i hx hy h0
    injection h with h
    subst h
    rw[if_pos h0];rfl
   rename_i h0
   rw[if_neg h0]
   split at h
   ·rename_i hx hy _ ds hb
    split at h
    ·rename_i hc
     injection h with h
     subst h
     (try rw[hx,hy]);(try simp only);(try rw[hb]);(try simp only);rw[if_pos hc]
     simp only[Ba.ap,hb,Option.getD_some,moved]
    ·cases h
   ·cases h
  ·cases h
 ·split at h
  ·split at h
   ·rename_i hl
    injection h with h
    subst h
    simp only[evOp,hl]
    rfl
   ·cases h
  ·cases h
 ·rename_i f xs
  split at h
  ·rename_i hc
   obtain⟨d,q1,q2⟩:=Option.map_eq_some_iff.1 h
   subst q2
   simp only[evOp,rdL_ot hc,doCall_q q1]
   rfl
  ·cases h
 ·rename_i f xs
  split at h
  ·rename_i hc
   obtain⟨d,q1,q2⟩:=Option.map_eq_some_iff.1 h
   subst q2
   simp only[evOp,rdL_ot hc,doCall_q q1]
   cases d<;>rfl
  ·cases h
 ·rename_i x xs
  split at h
  ·rename_i hc
   split at h
   ·rename_i f caps hx
    obtain⟨d,q1,q2⟩:=Option.map_eq_some_iff.1 h
    subst q2
    simp only[evOp,hx,rdL_ot hc,doCall_q q1]
    rfl
   ·cases h
  ·cases h
 ·split at h
  ·rename_i hn
   obtain⟨r,q1,q2⟩:=Option.map_eq_some_iff.1 h
   subst q2
   obtain⟨r1,r2⟩:=neut_loc (s':=s) hn q1 fun _ _=>rfl
   rw[r2];rfl
  ·cases h
theorem instS_ok {p:Stp} {i:Ins} (h:instS c p s=some i):evStp c p s=some (i.ap p.t s):=by
 unfold instS at h
 unfold evStp
 cases hg:p.g with
 |none=>
  rw[hg]at h
  simp only at h ⊢
  rw[inst_ok h];rfl
 |some qw=>
  obtain⟨q,w⟩:=qw
  rw[hg]at h
  simp only at h ⊢
  split at h
  ·rename_i b hb
   split at h
   ·rename_i e;rw[if_pos e,inst_ok h];rfl
   ·rename_i e;rw[if_neg e];injection h with h;subst h;rfl
  ·rename_i x hx he
   injection h with h
   subst h
   rfl
  ·cases h
def Ba.ok:Ba->S->S->Prop
 | .no,_,_=>True
 | .rd f b off n,s,s'=>∀q:Option Nat,q.getD 1=n->((bx f b s).bind fun ds=>pick q ds off)=(bx f b s').bind fun ds=>pick q ds off
 | .wr f b _ _,s,s'=>bx f b s=bx f b s'
 | .al t _,_,s'=>lk t s'.l=none
theorem inst_loc {t:Option Nat} {p:Op} {i:Ins} (h:inst c t p s=some i) (hr:∀n∈p.rs,get n s.e=get n s'.e) (hl:s.o.length=s'.o.length) (ho:i.a.ok s s'):inst c t p s'=some i:=by
 unfold inst at h ⊢
 split at h
 ·rename_i n x
  have h1:(rd x s).1=(rd x s').1:=rd_same hr
  rw[<-h1]
  try simp only
  split at h
  ·split at h
   ·rename_i hx _ ds hb
    obtain⟨d,q1,q2⟩:=Option.map_eq_some_iff.1 h
    subst q2
    have:=(show ∀q':Option Nat,q'.getD 1=n.getD 1->_ from ho) n rfl
    rw[hb,Option.bind_some,q1]at this
    obtain⟨ds',g1,g2⟩:=Option.bind_eq_some_iff.1 this.symm
    rw[g1];simp only;rw[g2];rfl
   ·cases h
  ·exact h
  ·cases h
 ·rename_i n x
  have h1:(rd x s).1=(rd x s').1:=rd_same hr
  rw[<-h1]
  try simp only
  split at h
  ·split at h
   ·rename_i hx _ ds hb
    obtain⟨d,q1,q2⟩:=Option.map_eq_some_iff.1 h
    subst q2
    rw[<-(show bx _ _ s=bx _ _ s' from ho),hb];simp only;rw[q1];rfl
   ·cases h
  ·cases h
 ·rename_i n x y
  have h1:(rd x s).1=(rd x s').1:=rd_same fun n hn=>hr n (by simp[Op.rs,hn])
  have h2:(rd y s).1=(rd y s').1:=rd_same fun n hn=>hr n (by simp[Op.rs,hn])
  rw[<-h1,<-h2]
  try simp only
  split at h
  ·split at h
   ·rename_i hx _ ds hb
    split at h
    ·rename_i hc
     injection h with h
     subst h
     rw[<-(show bx _ _ s=bx _ _ s' from ho),hb];simp only;rw[if_pos hc]
    ·cases h
   ·cases h
  ·cases h
 ·rename_i x y
  have h1:(rd x s).1=(rd x s').1:=rd_same fun n hn=>hr n (by simp[Op.rs,hn])
  have h2:(rd y s).1=(rd y s').1:=rd_same fun n hn=>hr n (by simp[Op.rs,hn])
  rw[<-h1,<-h2]
  try simp only
  split at h
  ·exact h
  ·split at h
   case isFalse=>cases h
   rename_i hm
   rw[if_pos hm]
   split at h
   ·rename_i h0
    rw[if_pos h0];exact h
   rename_i h0
   rw[if_neg h0]
   split at h
   ·rename_i hx hy _ ds hb
    split at h
    ·rename_i hc
     injection h with h
     subst h
     rw[<-(show bx _ _ s=bx _ _ s' from ho),hb];simp only;rw[if_pos hc]
    ·cases h
   ·cases h
  ·cases h
 ·try simp only
  split at h
  ·split at h
   ·injection h with h
    subst h
    rw[show lk _ s'.l=none from ho,hl]
   ·cases h
  ·cases h
 ·rename_i f xs
  try simp only
  rw[<-rds_same (s:=s) (s':=s') hr,<-hl]
  exact h
 ·rename_i f xs
  try simp only
  rw[<-rds_same (s:=s) (s':=s') hr,<-hl]
  exact h
 ·rename_i x xs
  try simp only
  have h1:(rd x s).1=(rd x s').1:=rd_same fun n hn=>hr n (by simp[Op.rs,hn])
  rw[<-rds_same (s:=s) (s':=s') fun n hn=>hr n (by simp only[Op.rs,List.mem_append];exact .inr hn),<-hl,<-h1]
  exact h
 ·split at h
  ·rename_i hn
   rw[if_pos hn]
   obtain⟨r,q1,q2⟩:=Option.map_eq_some_iff.1 h
   subst q2
   obtain⟨r1,r2⟩:=neut_loc (s':=s') hn q1 hr
   rw[r2];rfl
  ·cases h
theorem instS_loc {p:Stp} {i:Ins} (h:instS c p s=some i) (hr:∀n∈p.rs,get n s.e=get n s'.e) (hl:s.o.length=s'.o.length) (ho:i.a.ok s s'):instS c p s'=some i:=by
 unfold instS at h ⊢
 cases hg:p.g with
 |none=>
  rw[hg]at h
  simp only at h ⊢
  exact inst_loc h (fun n hn=>hr n (by simp[Stp.rs,hn])) hl ho
 |some qw=>
  obtain⟨q,w⟩:=qw
  rw[hg]at h
  simp only at h ⊢
  rw[<-hr q (by simp[Stp.rs,hg])]
  split at h
  ·split at h
   ·rename_i e;rw[if_pos e];exact inst_loc h (fun n hn=>hr n (by simp[Stp.rs,hn])) hl ho
   ·rename_i e;rw[if_neg e];exact h
  ·exact h
  ·cases h
end
end Go.Proofs.Ytfopbiiffiickaa.Ev
