/- Structs held against each other. Conditions: none. -/
import Derived.Test.YtfopbiiffiickaaEv6
import Derived.Laws.BytesString
import Derived.Laws.Slices
import Derived.Great.BuildSlice
import Derived.Laws.StructEq
set_option linter.all false
namespace Go.Proofs.Ytfopbiiffiickaa.Ev
open Go
variable {P:Program}
section
variable {o:Oper} {g:G} {w:World} {n:Nat} {a:Act} {s s':S} {d:D} {call:Caller} {t:Option Nat}
theorem RF.src0 {ty e:TypeId} (hu:P.underlying ty=some (.slice e)) {w:World} {fr:Nat->Nat} {x:Value} {m:Mode} {z z':Nat} {ys:List D} (h:RF w fr x (.sl m z' ys)) (hz:z=z'∨ys.isEmpty=true):
  ∃us,EL (RF w fr) z ys us∧Src P z ty x ys.length us w:=by
 rcases hz with rfl|hz
 ·exact h.src hu
 ·obtain rfl:ys=[]:=List.isEmpty_iff.1 hz
  obtain⟨base,cap,vs,rfl,h2,h3,h4⟩:=h.row
  cases base with
  |none=>exact⟨[],EL.nil _ _,Src.ofNil w hu cap⟩
  |some a=>exact⟨[],EL.nil _ _,Src.ofSlice w hu a _ cap [] (by simp) (fun j u hj=>by simp at hj) (fun u hu=>by simp at hu)⟩
theorem RC.rf {ℓ:Loc} {x:Value} {m:Mode} {z:Nat} {ys:List D} (h:RC g w ℓ x (.sl m z ys)) (h1:m≠ .mu) (h2:m≠ .app):RF w g.fr x (.sl m z ys):=by
 cases m with
 |nl=>exact h
 |ro=>exact h
 |app=>exact absurd rfl h2
 |mu=>exact absurd rfl h1
theorem gives_ap {wm:Bool} {ty tx e e':TypeId} {x y:Operand} {x' y':Opd} {z by_:Nat} {zv:Value} {i:TypeInfo} (ho:o.op= .call ⟨.builtin .append,#[x,y],#[ty,tx]⟩) (hx:MOpd x x') (hy:MOpd y y') (hu:P.underlying ty=some (.slice e)) (hu':P.underlying tx=some (.slice e')) (hi:P.info? e=some i) (hz:i.zero=some zv) (hs:i.size=z) (hb:i.bytes=by_) (hzs:zv.cells.size=z) (h0:0<z) (h1:1<=by_)
  (h:SN g w n a.tmps s) (he:evOp call t (.ap wm z by_ x' y') s=some (d,s')):Gives P o g w n a s d s':=by
 obtain⟨g1,k1,k2,k3,_⟩:=rd_fly h hx 1
 obtain⟨L,hL⟩:=rd_at h hy
 have main:∀(m:Mode) (xs:List D) (m':Mode) (z':Nat) (ys:List D),RC g1 w (flyL 1 0 0) (a.eval x) (.sl m z xs)->(m= .app∨m= .mu∨(m= .nl∧xs=[]))->RC g w (L 0 0) (a.eval y) (.sl m' z' ys)->(z=z'∨ys.isEmpty=true)->m'≠ .mu->m'≠ .app->(xs.length+ys.length)*by_<=140737488355328->
   RT g1 w (flyL 0) (a.eval x) (.v (a.eval x))->∀d',(∀g' W v,RT g' W (flyL 0) v (.sl (if m= .nl then(if ys=[]then .nl else if wm=true then .mu else .app)else m) z (xs++ys))->RT g' W (flyL 0) v d')->Gives P o g w n a s d' (rd x' s).2:=by
  intro m xs m' z' ys hxr hm hyr hzz hm1 hm2 hlen _ d' hd'
  have hrf:=(hyr.rf hm1 hm2).mono (w':=w) (fr':=g1.fr) (fun _ _ _=>rfl) k3.fr
  obtain⟨us,hel,hsrc⟩:=hrf.src0 hu' hzz
  have hn:xs.length+ys.length<=maxLen:=by
   have:(xs.length+ys.length)*1<=(xs.length+ys.length)*by_:=Nat.mul_le_mul_left _ h1
   simp only[maxLen];omega
  obtain⟨v,W,g',r1,r2,r3,r4⟩:=append_ok (P:=P) wm ty tx o.type e i zv hu hi hz hs hb hzs h0 k1 hxr hm hel hsrc hn hlen
  refine⟨v,W,g',?_,r2,hd' g' W v r3,k3.trans (by rw[rd_k]at r4;exact r4),rd_k ..⟩
  simp[execOp,ho,resolve,invoke,builtin,r1]
 simp only[evOp]at he
 split at he
 ·rename_i z1 xs m' z' ys e1 e2
  rw[e1]at k2
  rw[e2]at hL
  split at he
  ·rename_i hc
   obtain⟨c1,c2,c3,c4⟩:=hc
   injection he with he
   injection he with f1 f2
   subst f2
   have hnl:∀v:Value,RF w g1.fr v (.sl .nl z1 xs)->xs=[]∧RF w g1.fr v (.sl .nl z []):=fun v hv=>by cases hv with|nl=>exact⟨rfl,.nl z⟩
   obtain⟨hxs,hxr⟩:=hnl _ (show RF w g1.fr (a.eval x) (.sl .nl z1 xs)from k2)
   subst hxs
   refine main .nl [] m' z' ys (show RC g1 w (flyL 1 0 0) (a.eval x) (.sl .nl z [])from hxr) (.inr (.inr ⟨rfl,rfl⟩)) hL c1 c2 c3 (by simpa using c4) rfl d fun g' W v hv=>?_
   rw[<-f1]
   by_cases hy0:ys=[]
   ·subst hy0
    simp only[List.isEmpty_nil,if_true]
    simp only[if_true,List.append_nil]at hv
    cases(show RF W g'.fr v (.sl .nl z [])from hv)with
    |nl=>exact(show RF W g'.fr _ (.sl .nl 0 [])from .nl 0)
   ·have:ys.isEmpty=false:=by cases ys<;>first|exact absurd rfl hy0|rfl
    simp only[this,Bool.false_eq_true,if_false]
    simpa[hy0]using hv
  ·cases he
 ·rename_i z1 xs m' z' ys e1 e2
  rw[e1]at k2
  rw[e2]at hL
  split at he
  ·rename_i hc
   obtain⟨c0,c1,c2,c3,c4⟩:=hc
   subst c0
   injection he with he
   injection he with f1 f2
   subst f2
   refine main .mu xs m' z' ys k2 (.inr (.inl rfl)) hL c1 c2 c3 c4 rfl d fun g' W v hv=>?_
   rw[<-f1]
   simpa using hv
  ·cases he
 ·rename_i z1 xs m' z' ys e1 e2
  rw[e1]at k2
  rw[e2]at hL
  split at he
  ·rename_i hc
   obtain⟨c0,c1,c2,c3,c4⟩:=hc
   subst c0
   injection he with he
   injection he with f1 f2
   subst f2
   refine main .app xs m' z' ys k2 (.inl rfl) hL c1 c2 c3 c4 rfl d fun g' W v hv=>?_
   rw[<-f1]
   simpa using hv
  ·cases he
 ·cases he
theorem equalIn_nil {ty e:TypeId} (hu:P.underlying ty=some (.slice e)) (k:Nat) (b:Option Addr) (l c:Nat):(Go.Op.equalIn (k+1) ty (.slice b l c) (.slice none 0 0)).run P w= .ok b.isNone w:=by
 cases b<;>simp[Go.Op.equalIn,run_underlying hu]
theorem equalIn_bool {ty:TypeId} (hu:P.underlying ty=some .bool) (k:Nat) (x y:Bool):(Go.Op.equalIn (k+1) ty (.bool x) (.bool y)).run P w= .ok (x==y) w:=by
 simp[Go.Op.equalIn,run_underlying hu]
theorem bin_slice {ne:Bool} {ty e:TypeId} (hu:P.underlying ty=some (.slice e)) (b:Option Addr) (l c:Nat):(Go.binOp (if ne then .neq else .eql) ty (.slice b l c) (.slice none 0 0)).run P w= .ok (.bool (b.isNone !=ne)) w:=by
 have h:=equalIn_nil (w:=w) hu 9999 b l c
 cases ne with
 |false=>
  show((do pure (Value.bool (<-Go.Op.equalIn (9999+1) ty (.slice b l c) (.slice none 0 0))):Sem Value)).run P w=_
  rw[Sem.run_bind,h];simp
 |true=>
  show((do pure (Value.bool !(<-Go.Op.equalIn (9999+1) ty (.slice b l c) (.slice none 0 0))):Sem Value)).run P w=_
  rw[Sem.run_bind,h];simp
theorem bin_bool {ne:Bool} {ty:TypeId} (hu:P.underlying ty=some .bool) (x y:Bool):(Go.binOp (if ne then .neq else .eql) ty (.bool x) (.bool y)).run P w= .ok (.bool ((x==y)!=ne)) w:=by
 have h:=equalIn_bool (w:=w) hu 9999 x y
 cases ne with
 |false=>
  show((do pure (Value.bool (<-Go.Op.equalIn (9999+1) ty (.bool x) (.bool y))):Sem Value)).run P w=_
  rw[Sem.run_bind,h];simp
 |true=>
  show((do pure (Value.bool !(<-Go.Op.equalIn (9999+1) ty (.bool x) (.bool y))):Sem Value)).run P w=_
  rw[Sem.run_bind,h];simp
theorem guard_slice {op:BinOp} {ty:TypeId} {x y:Operand} (b b':Option Addr) (l c l' c':Nat):(Go.eqGuard op ty x y (.slice b l c) (.slice b' l' c')).run P w= .ok () w:=by
 unfold Go.eqGuard;split<;>rfl
theorem guard_bool {op:BinOp} {ty:TypeId} {x y:Operand} (b b':Bool):(Go.eqGuard op ty x y (.bool b) (.bool b')).run P w= .ok () w:=by
 unfold Go.eqGuard;split<;>rfl
theorem gives_eqn {ne:Bool} {ty e ty':TypeId} {x:Operand} {x':Opd} (ho:o.op= .binOp (if ne then .neq else .eql) ty x (.const (.slice none 0 0)) ty') (hx:MOpd x x') (hu:P.underlying ty=some (.slice e)) (h:SN g w n a.tmps s) (he:evOp call t (.eqn ne x') s=some (d,s')):Gives P o g w n a s d s':=by
 obtain⟨L,hL⟩:=rd_at h hx
 have main:∀(b:Option Addr) (len cap:Nat) (q:Bool),a.eval x= .slice b len cap->b.isNone=q->d= .v (.bool (q !=ne))->s'=s->Gives P o g w n a s d s':=by
  intro b len cap q hv hb hd hs
  subst hd hs
  refine⟨.bool (q !=ne),w,g,?_,h,rfl,Ext.refl _ _ _,rfl⟩
  subst hb
  unfold execOp
  simp only[ho,hv,Sem.run_bind,show a.eval (.const (.slice none 0 0))= .slice none 0 0 from rfl,guard_slice,Result.andThen_ok,bin_slice hu,Sem.run_pure]
 simp only[evOp]at he
 split at he
 ·rename_i z xs hxs
  rw[hxs]at hL
  injection he with he
  injection he with e1 e2
  have hnl:∀v:Value,RF w g.fr v (.sl .nl z xs)->v= .slice none 0 0:=fun v hv=>by cases hv with|nl=>rfl
  exact main none 0 0 true (hnl _ hL) rfl (by rw[<-e1];cases ne<;>rfl) e2.symm
 ·rename_i m z xs hne hxs
  rw[hxs]at hL
  injection he with he
  injection he with e1 e2
  have hsome:∃b len cap,a.eval x= .slice (some b) len cap:=by
   cases m with
   |nl=>exact(hne rfl).elim
   |ro=>
    have hro:∀v:Value,RF w g.fr v (.sl .ro z xs)->∃b len cap,v= .slice (some b) len cap:=fun v hv=>by cases hv with|ro=>exact⟨_,_,_,rfl⟩|z=>exact⟨_,_,_,rfl⟩
    exact hro _ hL
   |app=>obtain⟨b,off,cap,cur,e,val,h1,_⟩:=(show Own g w _ (a.eval x) .app z xs from hL);exact⟨_,_,_,h1⟩
   |mu=>obtain⟨b,off,cap,cur,e,val,h1,_⟩:=(show Own g w _ (a.eval x) .mu z xs from hL);exact⟨_,_,_,h1⟩
  obtain⟨b,len,cap,hv⟩:=hsome
  exact main (some b) len cap false hv rfl (by rw[<-e1];cases ne<;>rfl) e2.symm
 ·rename_i f b off m z hxs
  rw[hxs]at hL
  injection he with he
  injection he with e1 e2
  obtain⟨_,blk,cap,_,_,hv,_⟩:=(show RC g w (L 0 0) (a.eval x) (.ref f b off m z)from hL)
  exact main (some _) m cap false hv rfl (by rw[<-e1];cases ne<;>rfl) e2.symm
 ·cases he
theorem gives_eqs {ne:Bool} {ty ty':TypeId} {x y:Operand} {x' y':Opd} (ho:o.op= .binOp (if ne then .neq else .eql) ty x y ty') (hx:MOpd x x') (hy:MOpd y y') (h:SN g w n a.tmps s) (he:evOp call t (.eqs ne x' y') s=some (d,s')):Gives P o g w n a s d s':=by
 simp only[evOp]at he
 split at he
 ·rename_i p q h1 h2
  have hv1:=rd_v h hx h1
  have hv2:=rd_v h hy h2
  injection he with he
  injection he with e1 e2
  subst e1 e2
  refine⟨_,w,g,?_,h,rfl,Ext.refl _ _ _,rfl⟩
  cases ne<;>simp[execOp,ho,hv1,hv2,Go.eqGuard,Go.binOp,Go.Op.stringOp]
 ·cases he
theorem gives_eqb {ne:Bool} {ty ty':TypeId} {x y:Operand} {x' y':Opd} (ho:o.op= .binOp (if ne then .neq else .eql) ty x y ty') (hx:MOpd x x') (hy:MOpd y y') (hu:P.underlying ty=some .bool) (h:SN g w n a.tmps s) (he:evOp call t (.eqb ne x' y') s=some (d,s')):Gives P o g w n a s d s':=by
 simp only[evOp]at he
 split at he
 ·rename_i p q h1 h2
  have hv1:=rd_v h hx h1
  have hv2:=rd_v h hy h2
  injection he with he
  injection he with e1 e2
  subst e1 e2
  refine⟨_,w,g,?_,h,rfl,Ext.refl _ _ _,rfl⟩
  unfold execOp
  simp only[ho,hv1,hv2,Sem.run_bind,guard_bool,Result.andThen_ok,bin_bool hu,Sem.run_pure]
 ·cases he
theorem gives_sh {op:BinOp} {op':Bop} {ty ty':TypeId} {x y:Operand} {x' y':Opd} (ho:o.op= .binOp op ty x y ty') (hop:MB op op') (hx:MOpd x x') (hy:MOpd y y') (h:SN g w n a.tmps s) (he:evOp call t (.sh op' x' y') s=some (d,s')):Gives P o g w n a s d s':=by
 simp only[evOp]at he
 split at he
 ·rename_i k p k' q h1 h2
  have hv1:=rd_v h hx h1
  have hv2:=rd_v h hy h2
  obtain⟨v,hb,e⟩:=Option.map_eq_some_iff.1 he
  injection e with e1 e2
  subst e1 e2
  refine⟨v,w,g,?_,h,rfl,Ext.refl _ _ _,rfl⟩
  unfold bsh at hb
  by_cases h0:q<0
  ·rw[if_pos h0]at hb;cases hb
  ·rw[if_neg h0]at hb
   cases op'<;>first|(cases hb;done)|(injection hb with hb;subst hb;cases op<;>first|exact hop.elim|simp[execOp,ho,hv1,hv2,Go.eqGuard,Go.binOp,Go.Op.shift,h0])
 ·cases he
theorem gives_ci {s1 t1:TypeId} {k:IntKind} {x:Operand} {x':Opd} {d1:TypeDesc} (ho:o.op= .convert s1 t1 x) (hx:MOpd x x') (hs:P.underlying s1=some d1) (hu:P.underlying t1=some (.int k)) (h:SN g w n a.tmps s) (he:evOp call t (.ci k x') s=some (d,s')):Gives P o g w n a s d s':=by
 simp only[evOp]at he
 split at he
 ·rename_i k1 p h1
  have hv1:=rd_v h hx h1
  injection he with he
  injection he with e1 e2
  subst e1 e2
  exact⟨_,w,g,by simp[execOp,ho,hv1,Go.convert,run_underlying hs,run_underlying hu,Go.Conv.intToInt],h,rfl,Ext.refl _ _ _,rfl⟩
 ·cases he
theorem gives_nck {x:Operand} {x':Opd} (ho:o.op= .nilCheck x) (hx:MOpd x x') (h:SN g w n a.tmps s) (he:evOp call t (.nck x') s=some (d,s')):Gives P o g w n a s d s':=by
 obtain⟨L,hL⟩:=rd_at h hx
 simp only[evOp]at he
 split at he
 ·rename_i f b off h1
  rw[h1]at hL
  injection he with he
  injection he with e1 e2
  subst e1 e2
  obtain⟨q0,blk,q1,q2⟩:=(show RP g w (a.eval x) (.ptr f b off)from hL)
  exact⟨_,w,g,by simp[execOp,ho,q2],h,(show RP g w _ (.ptr f b off)from⟨q0,blk,q1,rfl⟩),Ext.refl _ _ _,rfl⟩
 ·rename_i cs off h1
  rw[h1]at hL
  injection he with he
  injection he with e1 e2
  subst e1 e2
  obtain⟨blk,o1,val,q1,q2,q3⟩:=(show RP g w (a.eval x) (.fptr cs off)from hL)
  exact⟨.pointer (some ⟨blk,o1+off,none⟩),w,g,by simp[execOp,ho,q1],h,(show RP g w _ (.fptr cs off)from⟨blk,o1,val,rfl,q2,q3⟩),Ext.refl _ _ _,rfl⟩
 ·cases he
theorem rds_at (h:SN g w n a.tmps s) {xs:List Operand} {ys:List Opd} (hl:xs.length=ys.length) (hm:∀(i:Nat) x y,xs[i]? =some x->ys[i]? =some y->MOpd x y):
  (rds s ys).length=ys.length∧∀(i:Nat) d,(rds s ys)[i]? =some d->∃x L,xs[i]? =some x∧RT g w L (a.eval x) d:=by
 induction ys generalizing xs with
 |nil=>exact⟨rfl,fun i d hi=>by simp[rds]at hi⟩
 |cons y ys ih=>
  cases xs with
  |nil=>simp at hl
  |cons x xs=>
   obtain⟨h1,h2⟩:=ih (xs:=xs) (by simpa using hl) fun i x' y' hx hy=>hm (i+1) x' y' (by simpa using hx) (by simpa using hy)
   refine⟨by simp[rds,h1],fun i d hi=>?_⟩
   cases i with
   |zero=>
    simp only[rds,List.getElem?_cons_zero]at hi
    injection hi with hi
    subst hi
    obtain⟨L,hL⟩:=rd_at h (hm 0 x y rfl rfl)
    exact⟨x,L,rfl,hL⟩
   |succ i=>
    obtain⟨x',L,q1,q2⟩:=h2 i d (by simpa[rds]using hi)
    exact⟨x',L,by simpa using q1,q2⟩
theorem gives_mf {f:Nat} {caps:Array Operand} {caps':List Opd} (ho:o.op= .makeFunc (.func f) #[] caps) (hlt:f<RL) (hm:MArgs caps caps') (h:SN g w n a.tmps s) (he:evOp call t (.mf f caps') s=some (d,s')):Gives P o g w n a s d s':=by
 obtain⟨hl,hm⟩:=hm
 rename_i xs
 obtain⟨h1,h2⟩:=rds_at h hl hm
 simp only[evOp]at he
 split at he
 ·rename_i hc
  injection he with he
  injection he with e1 e2
  subst e1 e2
  refine⟨.func (.func f) #[] (xs.toArray.map a.eval),w,g,by simp[execOp,ho,Instr.makeFunc],h,?_,Ext.refl _ _ _,rfl⟩
  refine(show RC g w (flyL 0 0 0) _ (.clo f (rds s caps'))from⟨hlt,_,rfl,by simp[h1,hl],fun j d hj=>?_⟩)
  obtain⟨x,L,q1,q2⟩:=h2 j d hj
  refine⟨a.eval x,by simp[q1],?_⟩
  have:=List.all_eq_true.1 hc d (List.mem_of_getElem? hj)
  cases d with
  |v y=>exact q2
  |ptr f s off=>exact q2
  |fptr cs off=>exact q2
  |_=>cases this
 ·cases he
end
theorem rf1_cells {d:D} (h:d.rf1=true):d.cells=[d]:=by cases d<;>first|rfl|cases h
theorem chunks_len (z:Nat):∀(n:Nat) (cs:List D),(chunks z n cs).length=n
 |0,_=>rfl
 |n+1,cs=>by simp[chunks,chunks_len z n]
theorem chunk_cells {cs:List D} {z:Nat} (h:cs.all D.rf1=true):(mkEl (cs.take z)).cells=cs.take z:=by
 have h':∀d∈cs.take z,d.rf1=true:=fun d hd=>List.all_eq_true.1 h d (List.mem_of_mem_take hd)
 generalize cs.take z=l at h'
 match l,h' with
 |[],_=>rfl
 |[d],h'=>exact rf1_cells (h' d (by simp))
 |d::e::r,_=>rfl
theorem chunks_ok {z:Nat}:∀{n:Nat} {cs:List D},cs.all D.rf1=true->n*z<=cs.length->∀(i:Nat) d,(chunks z n cs)[i]? =some d->d.cells.length=z∧∀(j:Nat) c,d.cells[j]? =some c->cs[i*z+j]? =some c
 |0,cs,_,_,i,d,hi=>by simp[chunks]at hi
 |n+1,cs,h,hn,i,d,hi=>by
  rw[Nat.add_mul,Nat.one_mul]at hn
  simp only[chunks]at hi
  cases i with
  |zero=>
   simp only[List.getElem?_cons_zero]at hi
   injection hi with hi
   have hc:=chunk_cells (z:=z) h
   rw[hi]at hc
   refine⟨by rw[hc];simp;omega,fun j c hj=>?_⟩
   rw[hc,List.getElem?_take]at hj
   split at hj
   ·simpa using hj
   ·cases hj
  |succ i=>
   simp only[List.getElem?_cons_succ]at hi
   obtain⟨h1,h2⟩:=chunks_ok (cs:=cs.drop z) (List.all_eq_true.2 fun d hd=>List.all_eq_true.1 h d (List.mem_of_mem_drop hd)) (by simp;omega) i d hi
   refine⟨h1,fun j c hj=>?_⟩
   have:=h2 j c hj
   rw[List.getElem?_drop]at this
   rw[<-this,Nat.add_mul];congr 1;omega
theorem EL.flat {R:Value->D->Prop} {z:Nat}:∀{xs:List D} {vs:List Value},EL R z xs vs->∀(q:Nat) c,(xs.flatMap D.cells)[q]? =some c->∃v,vs[q]? =some v∧R v c
 |[],vs,_,q,c,hq=>by simp at hq
 |x::xs,vs,h,q,c,hq=>by
  have hx:=h.el 0 x rfl
  rw[List.flatMap_cons]at hq
  rcases Nat.lt_or_ge q x.cells.length with hl|hl
  ·rw[List.getElem?_append_left hl]at hq
   obtain⟨v,h1,h2⟩:=h.rel 0 x q c rfl hq
   exact⟨v,by simpa using h1,h2⟩
  ·rw[List.getElem?_append_right hl,hx]at hq
   have ht:EL R z xs (vs.drop z):=⟨by rw[List.length_drop,h.len,List.length_cons,Nat.add_mul];omega,fun i d hi=>h.el (i+1) d (by simpa using hi),fun i d j c hi hj=>by
    obtain⟨v,h1,h2⟩:=h.rel (i+1) d j c (by simpa using hi) hj
    refine⟨v,?_,h2⟩
    rw[List.getElem?_drop,<-h1,Nat.add_mul];congr 1;omega⟩
   obtain⟨v,h1,h2⟩:=EL.flat ht _ c hq
   refine⟨v,?_,h2⟩
   rw[List.getElem?_drop]at h1
   rw[<-h1];congr 1;omega
theorem flat_len {z:Nat}:∀{xs:List D},(∀(i:Nat) d,xs[i]? =some d->d.cells.length=z)->(xs.flatMap D.cells).length=xs.length*z
 |[],_=>by simp
 |x::xs,h=>by rw[List.flatMap_cons,List.length_append,h 0 x rfl,flat_len fun i d hi=>h (i+1) d (by simpa using hi),List.length_cons,Nat.add_mul];omega
theorem RC.toRF {g:G} {w:World} {ℓ:Loc} {x:Value} {d:D} (h:RC g w ℓ x d) (hd:d.rf1=true):RF w g.fr x d:=by
 cases d with
 |v y=>rw[show x=y from h];exact .v y hd
 |sl m z xs=>cases m with
  |nl=>exact h
  |ro=>exact h
  |app=>cases hd
  |mu=>cases hd
 |_=>cases hd
theorem rf1_bnd {k:Nat} {d:D} (h:d.rf1=true):d.bnd1 k=true:=by
 cases d with
 |v y=>rfl
 |sl m z xs=>rfl
 |_=>cases h
theorem ref_ro {w:World} {fr:Nat->Nat} {blk off off' n cap z:Nat} {vs:Array Value} {et:TypeId} {cs:List D} (hn:n<=cap) (hm:cap<=maxLen) (ho:n=0∨off'=off) (hw:w.heap[blk]? =some (.cells vs et (0,0))) (hall:cs.all D.rf1=true)
  (hc:∀(c:Nat) d,cs[c]? =some d->∃y,vs[c]? =some y∧RF w fr y d) (hfr:cs.length<=fr blk) (hle:off+n*z<=cs.length):RF w fr (.slice (some ⟨blk,off',none⟩) n cap) (.sl .ro z (chunks z n (cs.drop off))):=by
 have hl:=chunks_len z n (cs.drop off)
 have hch:=chunks_ok (z:=z) (n:=n) (cs:=cs.drop off) (List.all_eq_true.2 fun d hd=>List.all_eq_true.1 hall d (List.mem_of_mem_drop hd)) (by simp;omega)
 generalize chunks z n (cs.drop off)=xs at hl hch
 subst hl
 have key:∀(i:Nat) d (j:Nat) c,xs[i]? =some d->d.cells[j]? =some c->off'=off∧cs[off+i*z+j]? =some c:=fun i d j c hi hj=>by
  have:=(hch i d hi).2 j c hj
  rw[List.getElem?_drop]at this
  have hlt:=getq_lt hi
  exact⟨by omega,by rw[<-this];congr 1;omega⟩
 refine .ro blk off' cap z xs (fun i j=>vs.getD (off+i*z+j) undef) hn hm ?_ (fun i d hi=>(hch i d hi).1) (fun i d j c hi hj=>?_) (fun i d j c hi hj=>?_)
 ·rcases ho with ho|ho
  ·exact .inl (List.eq_nil_of_length_eq_zero ho)
  ·exact .inr (by rw[ho];omega)
 ·obtain⟨rfl,h2⟩:=key i d j c hi hj
  obtain⟨y,h3,h4⟩:=hc _ c h2
  simp[World.cell?,hw,h3,Array.getD_eq_getD_getElem?]
 ·obtain⟨rfl,h2⟩:=key i d j c hi hj
  obtain⟨y,h3,h4⟩:=hc _ c h2
  have:vs.getD (off'+i*z+j) undef=y:=by simp[Array.getD_eq_getD_getElem?,h3]
  simp only[this];exact h4
section
variable {o:Oper} {g:G} {w:World} {n:Nat} {a:Act} {s s':S} {d:D} {call:Caller} {t:Option Nat}
theorem u8s_ok {xs:List D}:∀{l:List UInt8} {vs:List Value} {fr:Nat->Nat},u8s xs=some l->vs.length=xs.length->(∀(i:Nat) d,xs[i]? =some d->∃v,vs[i]? =some v∧∀c,d.cells[0]? =some c->RF w fr v c)->
  ∃ns:List Int,vs=ns.map (.int .u8)∧l=ns.map fun n=>UInt8.ofNat n.toNat:=by
 induction xs with
 |nil=>
  intro l vs fr h hl _
  simp only[u8s]at h
  injection h with h
  subst h
  have:vs=[]:=List.eq_nil_of_length_eq_zero (by simpa using hl)
  exact⟨[],by simp[this],rfl⟩
 |cons x xs ih=>
  intro l vs fr h hl hr
  have hx:∃n,x= .v (.int .u8 n)∧∃l',u8s xs=some l'∧l=UInt8.ofNat n.toNat::l':=by
   unfold u8s at h
   split at h
   ·cases ‹_::_=[]›
   ·rename_i n r e
    injection e with e1 e2
    subst e1 e2
    obtain⟨l',h1,h2⟩:=Option.map_eq_some_iff.1 h
    exact⟨n,rfl,l',h1,h2.symm⟩
   ·cases h
  obtain⟨n,rfl,l',h1,rfl⟩:=hx
  cases vs with
  |nil=>simp at hl
  |cons v vs=>
   obtain⟨v',e1,e2⟩:=hr 0 _ rfl
   simp at e1
   subst e1
   have hv:v= .int .u8 n:=by
    cases e2 _ rfl with
    |v x h=>rfl
   subst hv
   obtain⟨ns,h3,h4⟩:=ih (vs:=vs) (fr:=fr) h1 (by simpa using hl) fun i d hi=>by
    obtain⟨v',e1,e2⟩:=hr (i+1) d (by simpa using hi)
    exact⟨v',by simpa using e1,e2⟩
   exact⟨n::ns,by simp[h3],by simp[h4]⟩
theorem push_ok (ns:List Int):∀b:ByteArray,ns.foldl (fun r n=>r.push (UInt8.ofNat n.toNat)) b=⟨(b.data.toList++ns.map fun n=>UInt8.ofNat n.toNat).toArray⟩:=by
 induction ns with
 |nil=>intro b;simp
 |cons n ns ih=>intro b;rw[List.foldl_cons,ih];simp[ByteArray.push]
theorem RF.none {w:World} {fr:Nat->Nat} {x:Value} {m:Mode} {z l cap:Nat} {ys:List D} (h:RF w fr x (.sl m z ys)) (e:x= .slice none l cap):cap=0∧ys=[]:=by
 cases h with
 |nl z=>injection e with e1 e2 e3;exact⟨e3.symm,rfl⟩
 |z a z=>injection e with e1;cases e1
 |ro=>injection e with e1;cases e1
theorem RF.rc {ℓ:Loc} {x:Value} {c:D} (h:RF w g.fr x c):RC g w ℓ x c:=by
 have h':=h
 cases h<;>first|rfl|exact h'
theorem gives_bst {x:Operand} {x':Opd} {s1 t1 e:TypeId} (ho:o.op= .convert s1 t1 x) (hx:MOpd x x') (hs:P.underlying s1=some (.slice e)) (he':P.underlying e=some (.int .u8)) (ht:P.underlying t1=some .string) (h:SN g w n a.tmps s) (he:evOp call t (.bst x') s=some (d,s')):Gives P o g w n a s d s':=by
 obtain⟨L,hL⟩:=rd_at h hx
 simp only[evOp]at he
 split at he
 ·rename_i m z xs hxs
  split at he
  ·rename_i hc
   obtain⟨c1,c2,c3⟩:=hc
   rw[hxs]at hL
   have hrf:=RC.rf (show RC g w (L 0 0) (a.eval x) (.sl m z xs)from hL) c1 c2
   obtain⟨l,hl,e1⟩:=Option.map_eq_some_iff.1 he
   injection e1 with e1 e2
   subst e1 e2
   have hsrc:∃base cap vs,a.eval x= .slice base xs.length cap∧EL (RF w g.fr) 1 xs vs∧(base=none->xs=[])∧∀a,base=some a->True∧∀(k:Nat) v,vs[k]? =some v->w.cell? (a.add k)=some v:=by
    rcases c3 with rfl|hz
    ·exact hrf.row
    ·obtain rfl:xs=[]:=List.isEmpty_iff.1 hz
     obtain⟨base,cap,vs,k1,k2,k3,k4⟩:=hrf.row
     exact⟨base,cap,[],k1,EL.nil _ _,fun _=>rfl,fun a ha=>⟨trivial,fun k v hk=>by simp at hk⟩⟩
   obtain⟨base,cap,vs,hv,hel,h3,h4⟩:=hsrc
   obtain⟨ns,h5,h6⟩:=u8s_ok (w:=w) (fr:=g.fr) (vs:=vs) hl (by rw[hel.len];omega) fun i d hi=>by
    have hd:=hel.el i d hi
    have h0:d.cells[0]? =some (d.cells[0]'(by omega)):=List.getElem?_eq_getElem _
    obtain⟨v,q1,q2⟩:=hel.rel i d 0 _ hi h0
    exact⟨v,by simpa using q1,fun c hc=>by rw[h0]at hc;injection hc with hc;rw[<-hc];exact q2⟩
   refine⟨.string ⟨l.toArray⟩,w,g,?_,h,rfl,Ext.refl _ _ _,rfl⟩
   have hcv:(convert s1 t1 (a.eval x)).run P w= .ok (.string ⟨l.toArray⟩) w:=by
    rw[hv,run_convert_bytes_string w s1 t1 e base xs.length cap hs he' ht]
    cases base with
    |none=>
     obtain rfl:=h3 rfl
     have:vs=[]:=List.eq_nil_of_length_eq_zero (by rw[hel.len];simp)
     subst this
     have:ns=[]:=by simpa using h5.symm
     subst this
     subst h6
     simp[Conv.bytesToString,Sem.run_pure]
     rfl
    |some ad=>
     have hlen:vs.length=xs.length:=by rw[hel.len];omega
     have:=run_loadCells_list (P:=P) w ad vs (fun j v hj=>(h4 ad rfl).2 j v hj)
     rw[hlen,h5]at this
     rw[run_bytesToString w ad xs.length cap ns this,push_ok,h6]
     simp
   simp[execOp,ho,hcv]
  ·cases he
 ·cases he
theorem copy0 (w:World) (ty tx q e:TypeId) (i:TypeInfo) (d:Option Addr) (cap:Nat) (base:Option Addr) (len scap:Nat) (hu:P.underlying ty=some (.slice e)) (hi:P.info? e=some i) (hs:i.size=1):
  (Builtin.copy_ #[ty,tx] q #[.slice d 0 cap,.slice base len scap]).run P w= .ok (goInt 0) w:=by
 cases base with
 |none=>cases d<;>simp[Builtin.copy_,run_underlying hu,Builtin.lenOf,Builtin.firstCells,sizeOf,typeInfo,hi,hs,storeCells]
 |some a=>
  have hl:(loadCells a 0).run P w= .ok #[] w:=run_loadCells_list (P:=P) w a [] (fun j v hj=>by simp at hj)
  cases d<;>simp[Builtin.copy_,run_underlying hu,Builtin.lenOf,Builtin.firstCells,sizeOf,typeInfo,hi,hs,storeCells,hl]
theorem gives_cpy {x y:Operand} {x' y':Opd} {ty tx e:TypeId} {i:TypeInfo} (ho:o.op= .call ⟨.builtin .copy,#[x,y],#[ty,tx]⟩) (hx:MOpd x x') (hy:MOpd y y') (hu:P.underlying ty=some (.slice e)) (hi:P.info? e=some i) (hs:i.size=1) (h:SN g w n a.tmps s) (he:evOp call t (.cpy x' y') s=some (d,s')):Gives P o g w n a s d s':=by
 obtain⟨L,hL⟩:=rd_at h hx
 obtain⟨L',hL'⟩:=rd_at h hy
 simp only[evOp]at he
 split at he
 ·rename_i z0 xs0 mm z' ys h1 h2
  rw[h1]at hL
  rw[h2]at hL'
  split at he
  ·rename_i hc
   injection he with he
   injection he with e1 e2
   subst e1 e2
   have hd:=(show RF w g.fr (a.eval x) (.sl .nl z0 xs0)from hL)
   have hd:a.eval x= .slice none 0 0:=by
    generalize a.eval x=v at hd
    cases hd with
    |nl z=>rfl
   obtain⟨base,cap,hv⟩:=RC.slice (show RC g w (L' 0 0) (a.eval y) (.sl mm z' ys)from hL')
   refine⟨goInt 0,w,g,?_,h,rfl,Ext.refl _ _ _,rfl⟩
   simp[execOp,ho,resolve,invoke,builtin,copy0 w ty tx _ e i none 0 base ys.length cap hu hi hs,hd,hv]
  ·cases he
 ·rename_i f b off m z mm z' ys h1 h2
  rw[h1]at hL
  rw[h2]at hL'
  obtain⟨hRL,blk,cap,off',k1,k2,k3,k4,k5,_⟩:=(show RC g w (L 0 0) (a.eval x) (.ref f b off m z)from hL)
  split at he
  case isFalse=>cases he
  rename_i hmm
  obtain⟨c2,c3⟩:=hmm
  split at he
  ·rename_i hm0
   subst hm0
   injection he with he
   injection he with e1 e2
   subst e1 e2
   obtain⟨base,scap,hv⟩:=RC.slice (show RC g w (L' 0 0) (a.eval y) (.sl mm z' ys)from hL')
   refine⟨goInt 0,w,g,?_,h,rfl,Ext.refl _ _ _,rfl⟩
   simp[execOp,ho,resolve,invoke,builtin,copy0 w ty tx _ e i (some ⟨blk,off',none⟩) cap base ys.length scap hu hi hs,k2,hv]
  split at he
  ·rename_i ds hds
   split at he
   ·rename_i hc
    obtain⟨c1,c4,c5,c6,c7,c8⟩:=hc
    subst c1
    injection he with he
    injection he with e1 e2
    subst e1 e2
    have hrf:=RC.rf (show RC g w (L' 0 0) (a.eval y) (.sl mm z' ys)from hL') c2 c3
    have hsrc:∃base cap vs,a.eval y= .slice base ys.length cap∧EL (RF w g.fr) 1 ys vs∧(base=none->cap=0∧ys=[])∧∀a,base=some a->True∧∀(k:Nat) v,vs[k]? =some v->w.cell? (a.add k)=some v:=by
     have cap0:∀cap,a.eval y= .slice none ys.length cap->cap=0∧ys=[]:=fun cap e=>hrf.none e
     rcases c4 with rfl|hz
     ·obtain⟨base,cap,vs,k1,k2,k3,k4⟩:=hrf.row
      exact⟨base,cap,vs,k1,k2,fun e=>cap0 _ (by rw[k1,e]),k4⟩
     ·obtain rfl:ys=[]:=List.isEmpty_iff.1 hz
      obtain⟨base,cap,vs,k1,k2,k3,k4⟩:=hrf.row
      exact⟨base,cap,[],k1,EL.nil _ _,fun e=>cap0 _ (by rw[k1,e]),fun a ha=>⟨trivial,fun k v hk=>by simp at hk⟩⟩
    obtain⟨base,scap,vs,hv,hel,h3,h4⟩:=hsrc
    have hvl:vs.length=ys.length:=by rw[hel.len];omega
    -- the cells that are laid
    have hcs:RV g w (flyL 0 0) (.agg (vs.take m).toArray) (.agg ((ys.take m).flatMap D.cells)):=by
     refine⟨_,rfl,by simp[c6,hvl];omega,fun c d hd=>?_⟩
     have hel':EL (RF w g.fr) 1 (ys.take m) (vs.take m):=by
      refine⟨by simp[hvl],fun i d hi=>?_,fun i d j c hi hj=>?_⟩
      ·rw[List.getElem?_take]at hi
       split at hi
       ·exact hel.el i d hi
       ·cases hi
      ·rw[List.getElem?_take]at hi
       split at hi
       ·rename_i hlt
        obtain⟨v,q1,q2⟩:=hel.rel i d j c hi hj
        have hj0:j=0:=by have:=getq_lt hj;rw[hel.el i d hi]at this;omega
        subst hj0
        refine⟨v,?_,q2⟩
        rw[List.getElem?_take,if_pos (by omega)];exact q1
       ·cases hi
     obtain⟨v,q1,q2⟩:=hel'.flat c d hd
     exact⟨v,by simpa using q1,q2.rc⟩
    obtain⟨g2,w2,r1,r2,r3⟩:=write_ok (P:=P) h hds hcs hRL (by show off+((ys.take m).flatMap D.cells).length<=ds.length;rw[c6];omega) c7 c8 k1
    refine⟨goInt (vs.take m).length,w2,g2,?_,r2,?_,r3,sbx_k _ _ _ _⟩
    ·have hst:(storeCells ⟨blk,off',none⟩ (vs.take m)).run P w= .ok () w2:=by
      have r1':(storeCells ⟨blk,off,none⟩ (vs.take m)).run P w= .ok () w2:=r1
      rcases k5 with⟨k5,_⟩|k5
      ·have hm:m=0:=by omega
       subst hm
       simpa[storeCells]using r1'
      ·rw[k5];exact r1'
     have hmin:(vs.take m).length=Nat.min ys.length m:=by simp[hvl,Nat.min_comm]
     have hcopy:(Builtin.copy_ #[ty,tx] 0 #[a.eval x,a.eval y]).run P w= .ok (goInt (vs.take m).length) w2:=by
      rw[k2,hv]
      cases base with
      |none=>
       obtain⟨rfl,rfl⟩:=h3 rfl
       have hvs:vs=[]:=List.eq_nil_of_length_eq_zero (by simpa using hvl)
       subst hvs
       have hw:w2=w:=by simpa[storeCells]using hst.symm
       have:=run_copy_nil (P:=P) w ty tx 0 e ⟨blk,off',none⟩ m cap hu (by rw[hi];rfl)
       rw[hw]
       simpa using this
      |some ad=>
       have hl:=run_loadCells_list (P:=P) w ad (vs.take m) (fun j v hj=>by
        rw[List.getElem?_take]at hj
        split at hj
        ·exact(h4 ad rfl).2 j v hj
        ·cases hj)
       clear hcs r1
       generalize vs.take m=us at hl hst hmin ⊢
       simp[Builtin.copy_,run_underlying hu,Builtin.lenOf,Builtin.firstCells,sizeOf,typeInfo,hi,hs,<-hmin,hl,hst]
     have hc0:∀q q',Builtin.copy_ #[ty,tx] q #[a.eval x,a.eval y]=Builtin.copy_ #[ty,tx] q' #[a.eval x,a.eval y]:=fun _ _=>rfl
     simp[execOp,ho,resolve,invoke,builtin,hc0 _ 0,hcopy]
    ·show goInt _=_
     simp[goInt,hvl];omega
   ·cases he
  ·cases he
 ·cases he
end
end Go.Proofs.Ytfopbiiffiickaa.Ev
namespace Go.Proofs.Ytfopbiiffiickaa.Ev
open Go
variable {P:Program}
theorem overlay_get (v:List Value):∀(j off:Nat) (cs:Array Value) (k:Nat),off+j+v.length<=cs.size->
  ((v.zipIdx j).foldl (fun cs (c,j)=>cs.setIfInBounds (off+j) c) cs)[k]? =if off+j<=k∧k<off+j+v.length then v[k-(off+j)]? else cs[k]? :=by
 induction v with
 |nil=>intro j off cs k h;simp;intro h1 h2;omega
 |cons x v ih=>
  intro j off cs k h
  simp only[List.length_cons]at h
  simp only[List.zipIdx_cons,List.foldl_cons]
  rw[ih (j+1) off _ k (by simp;omega)]
  by_cases e:k=off+j
  ·subst e
   have h1:¬(off+(j+1)<=off+j∧off+j<off+(j+1)+v.length):=by omega
   rw[if_neg h1,if_pos (by simp),Array.getElem?_setIfInBounds_self_of_lt (by omega)]
   simp
  ·by_cases h2:off+(j+1)<=k∧k<off+(j+1)+v.length
   ·rw[if_pos h2,if_pos (by simp;omega),show k-(off+j)=(k-(off+(j+1)))+1 by omega];simp
   ·rw[if_neg h2,if_neg (by simp;omega)]
    rw[Array.getElem?_setIfInBounds_ne (by omega)]
theorem overlay_size (v:List Value):∀(j off:Nat) (cs:Array Value),((v.zipIdx j).foldl (fun cs (c,j)=>cs.setIfInBounds (off+j) c) cs).size=cs.size:=by
 induction v with
 |nil=>intro j off cs;rfl
 |cons x v ih=>intro j off cs;simp only[List.zipIdx_cons,List.foldl_cons];rw[ih];simp
theorem overlay_arr (v:Array Value) (off:Nat) (cs:Array Value):v.zipIdx.foldl (fun cs (c,j)=>cs.setIfInBounds (off+j) c) cs=(v.toList.zipIdx 0).foldl (fun cs (c,j)=>cs.setIfInBounds (off+j) c) cs:=by
 rw[<-Array.foldl_toList,Array.toList_zipIdx]
section
variable {o:Oper} {g:G} {w:World} {n:Nat} {a:Act} {s s':S} {d:D} {call:Caller} {t:Option Nat}
theorem RT.copied {L:Nat->Nat->Loc} {x:Value} {d:D} (h:RT g w L x d) (h1:d.cells.all D.sto1=true) (h2:d.cells.all (fun d=>d.strip1.sto1)=true) (ℓ:Nat->Loc):
  x.cells.size=d.cells.length∧∀(c:Nat) e,d.cells[c]? =some e->∃y,x.cells[c]? =some y∧RC g w (ℓ c) y e.strip1:=by
 rcases tup_or d with⟨ds,rfl⟩|hd
 ·simp[D.cells,D.sto1]at h1
 ·rw[RT_ne hd]at h
  obtain⟨q1,q2,_⟩:=h.cells h1
  exact⟨q1,fun c e hc=>by obtain⟨y,r1,r2⟩:=q2 c e hc;exact⟨y,r1,r2.strip _⟩⟩
theorem lay_ok (h:SN g w n a.tmps s) (place:Nat->Option (Nat×Nat)) (ℓ:Nat->Loc) {ps:List (Nat×Operand)} {ps':List (Nat×Nat×Opd)} (hl:ps.length=ps'.length)
  (hm:∀(j:Nat) f x off sz y,ps[j]? =some (f,x)->ps'[j]? =some (off,sz,y)->MOpd x y∧place f=some (off,sz)):∀{cs cs':List D} {vs:Array Value},lay s cs ps'=some cs'->vs.size=cs.length->(∀(c:Nat) e,cs[c]? =some e->∃y,vs[c]? =some y∧RC g w (ℓ c) y e)->
  ∃vs',Instr.fill place vs (ps.map fun p=>(p.1,a.eval p.2))=some vs'∧vs'.size=cs'.length∧∀(c:Nat) e,cs'[c]? =some e->∃y,vs'[c]? =some y∧RC g w (ℓ c) y e:=by
 induction ps' generalizing ps with
 |nil=>
  intro cs cs' vs he hs hr
  simp only[lay]at he
  injection he with he
  subst he
  have:ps=[]:=List.eq_nil_of_length_eq_zero (by simpa using hl)
  subst this
  exact⟨vs,rfl,hs,hr⟩
 |cons p' ps' ih=>
  intro cs cs' vs he hs hr
  obtain⟨off,sz,y⟩:=p'
  cases ps with
  |nil=>simp at hl
  |cons p ps=>
   obtain⟨f,x⟩:=p
   simp only[lay]at he
   split at he
   ·rename_i hc
    obtain⟨c1,c2,c3,c4⟩:=hc
    obtain⟨hxy,hpl⟩:=hm 0 f x off sz y rfl rfl
    obtain⟨L,hL⟩:=rd_at h hxy
    obtain⟨q1,q2⟩:=hL.copied c3 c4 fun c=>ℓ (off+c)
    have hsz:(a.eval x).cells.size=sz:=by rw[q1,c1]
    have hlen:((rd y s).1.cells.map D.strip1).length=sz:=by simp[c1]
    obtain⟨vs',r1,r2,r3⟩:=ih (ps:=ps) (by simpa using hl) (fun j f x off sz y h1 h2=>hm (j+1) f x off sz y (by simpa using h1) (by simpa using h2)) (cs:=over cs off ((rd y s).1.cells.map D.strip1)) (cs':=cs')
     (vs:=((a.eval x).cells.toList.zipIdx 0).foldl (fun cs (c,j)=>cs.setIfInBounds (off+j) c) vs) he (by rw[overlay_size,over_length (by rw[hlen];exact c2),hs]) (fun c e hce=>by
      rw[over_get (by rw[hlen];exact c2),hlen]at hce
      have hln:(a.eval x).cells.toList.length=sz:=by simp[hsz]
      rw[overlay_get _ _ _ _ _ (by rw[hln,hs];omega)]
      rw[hln]
      split at hce
      ·rename_i hlt0
       rw[if_neg (by omega)];exact hr c e hce
      ·rename_i hge
       split at hce
       ·rename_i hlt
        rw[if_pos (by omega)]
        rw[List.getElem?_map]at hce
        obtain⟨e0,h5,rfl⟩:=Option.map_eq_some_iff.1 hce
        obtain⟨v,h6,h7⟩:=q2 _ e0 h5
        refine⟨v,by simpa using h6,?_⟩
        rwa[show off+(c-off)=c by omega]at h7
       ·rename_i hge'
        rw[if_neg (by omega)];exact hr c e hce)
    refine⟨vs',?_,r2,r3⟩
    simp only[List.map_cons,Instr.fill,hpl]
    have hno:¬((decide ((a.eval x).cells.size≠sz)||decide (off+(a.eval x).cells.size>vs.size))=true):=by rw[hsz,hs];simp;omega
    rw[if_neg hno,overlay_arr]
    exact r1
   ·cases he
theorem mapM_places {fs:Array Field} (hall:∀fd∈fs,(P.info? fd.type).isSome) (w:World):∃pl:Array (Nat×Nat),(fs.mapM (fun f=>do pure (f.offset,<-sizeOf f.type):Field->Sem (Nat×Nat))).run P w= .ok pl w∧∀(f:Nat) fd (i:TypeInfo),fs[f]? =some fd->P.info? fd.type=some i->pl[f]? =some (fd.offset,i.size):=by
 have key:∀l:List Field,(∀fd∈l,(P.info? fd.type).isSome)->∃pl:List (Nat×Nat),(l.mapM (fun f=>do pure (f.offset,<-sizeOf f.type):Field->Sem (Nat×Nat))).run P w= .ok pl w∧∀(f:Nat) fd (i:TypeInfo),l[f]? =some fd->P.info? fd.type=some i->pl[f]? =some (fd.offset,i.size):=by
  intro l
  induction l with
  |nil=>intro _;exact⟨[],rfl,fun f fd i h=>by simp at h⟩
  |cons x l ih=>
   intro hx
   obtain⟨pl,h1,h2⟩:=ih fun fd hfd=>hx fd (by simp[hfd])
   obtain⟨i,hi⟩:=Option.isSome_iff_exists.1 (hx x (by simp))
   refine⟨(x.offset,i.size)::pl,?_,fun f fd j hf hj=>?_⟩
   ·rw[List.mapM_cons]
    simp only[Sem.run_bind,run_sizeOf' hi,Result.andThen_ok,Sem.run_pure]
    rw[h1];rfl
   ·cases f with
    |zero=>simp at hf;subst hf;rw[hi]at hj;injection hj with hj;subst hj;rfl
    |succ f=>simpa using h2 f fd j (by simpa using hf) hj
 obtain⟨pl,h1,h2⟩:=key fs.toList fun fd hfd=>hall fd (by simpa using hfd)
 refine⟨pl.toArray,?_,fun f fd i hf hi=>by simpa using h2 f fd i (by simpa using hf) hi⟩
 rw[Array.mapM_eq_mapM_toList,Sem.run_map,h1]
 rfl
theorem gives_bd {ty:TypeId} {zv:Value} {z:List Value} {fs:Array Field} {ps:List (Nat×Operand)} {ps':List (Nat×Nat×Opd)} {i:TypeInfo} (ho:o.op= .build ty ps.toArray) (hu:P.underlying ty=some (.struct fs)) (hi:P.info? ty=some i) (hz:i.zero=some zv) (hzc:zv.cells.toList=z) (hl:ps.length=ps'.length)
  (hm:∀(j:Nat) f x off sz y,ps[j]? =some (f,x)->ps'[j]? =some (off,sz,y)->MOpd x y∧∃(fd:Field) (fi:TypeInfo),fs[f]? =some fd∧fd.offset=off∧P.info? fd.type=some fi∧fi.size=sz) (hall:∀fd∈fs,(P.info? fd.type).isSome)
  (h:SN g w n a.tmps s) (he:evOp call t (.bd z ps') s=some (d,s')):Gives P o g w n a s d s':=by
 simp only[evOp]at he
 obtain⟨cs,h1,h2⟩:=Option.map_eq_some_iff.1 he
 injection h2 with e1 e2
 subst e1 e2
 obtain⟨pl,hpl,hplaces⟩:=mapM_places hall w
 obtain⟨vs',r1,r2,r3⟩:=lay_ok h (pl[·]?) (flyL 0 0) hl (fun j f x off sz y q1 q2=>by
  obtain⟨m1,fd,fi,m2,m3,m4,m5⟩:=hm j f x off sz y q1 q2
  exact⟨m1,by rw[hplaces f fd fi m2 m4,m3,m5]⟩) (vs:=zv.cells) h1 (by rw[<-hzc];simp) (fun c e hc=>by
   rw[List.getElem?_map]at hc
   obtain⟨v,q1,rfl⟩:=Option.map_eq_some_iff.1 hc
   exact⟨v,by rw[<-hzc]at q1;simpa using q1,zc_ok _ v⟩)
 refine⟨.agg vs',w,g,?_,h,⟨vs',rfl,r2,r3⟩,Ext.refl _ _ _,rfl⟩
 have hps:((ps.toArray.map fun(i,x)=>(i,a.eval x)):Array (Nat×Value)).toList=ps.map fun p=>(p.1,a.eval p.2):=by simp
 unfold execOp
 simp only[ho,Instr.build,Sem.run_bind,zeroValue,typeInfo,show(program).run P w= .ok P w from rfl,Result.andThen_ok,hi,hz,Sem.run_pure,run_underlying hu,hpl,hps,r1]
theorem rf1_rf {ℓ:Loc} {x:Value} {d:D} (h:RC g w ℓ x d) (h1:d.rf1=true):RF w g.fr x d:=by
 cases d with
 |v y=>obtain rfl:x=y:=h;exact .v x h1
 |sl m z xs=>cases m<;>first|exact h|cases h1
 |_=>cases h1
theorem rf1_sto {d:D} (h1:d.rf1=true):d.sto1=true:=by
 cases d with
 |v y=>exact h1
 |sl m z xs=>rfl
 |_=>cases h1
theorem rds_el (h:SN g w n a.tmps s) {z:Nat}:∀{ps:List Operand} {ps':List Opd},ps.length=ps'.length->(∀(j:Nat) x y,ps[j]? =some x->ps'[j]? =some y->MOpd x y)->(rds s ps').all (fun d=>d.cells.length=z&&d.cells.all D.rf1)=true->
  EL (RF w g.fr) z (rds s ps') (ps.flatMap fun x=>(a.eval x).cells.toList)∧∀x∈ps,(a.eval x).cells.size=z:=by
 intro ps ps'
 induction ps' generalizing ps with
 |nil=>
  intro hl hm hc
  have:ps=[]:=List.eq_nil_of_length_eq_zero (by simpa using hl)
  subst this
  exact⟨EL.nil _ _,fun x hx=>by simp at hx⟩
 |cons y ys ih=>
  intro hl hm hc
  cases ps with
  |nil=>simp at hl
  |cons x xs=>
   simp only[rds,List.all_cons,Bool.and_eq_true,decide_eq_true_eq]at hc
   obtain⟨⟨c1,c2⟩,c3⟩:=hc
   obtain⟨k1,k2⟩:=ih (ps:=xs) (by simpa using hl) (fun j x' y' q1 q2=>hm (j+1) x' y' (by simpa using q1) (by simpa using q2)) c3
   obtain⟨L,hL⟩:=rd_at h (hm 0 x y rfl rfl)
   have htup:(rd y s).1.tupB=false:=by
    cases hd:(rd y s).1<;>first|rfl|(rw[hd]at c2;simp[D.cells,D.rf1]at c2)
   rw[RT_ne htup]at hL
   have hst:(rd y s).1.cells.all D.sto1=true:=List.all_eq_true.2 fun e he=>rf1_sto (List.all_eq_true.1 c2 e he)
   obtain⟨q1,q2,_⟩:=hL.cells hst
   have hone:EL (RF w g.fr) z [(rd y s).1] (a.eval x).cells.toList:=by
    have:=EL.one (R:=RF w g.fr) (d:=(rd y s).1) (vs:=(a.eval x).cells.toList) (by simp[q1]) fun j c hj=>by
     obtain⟨v,r1,r2⟩:=q2 j c hj
     exact⟨v,by simpa using r1,rf1_rf r2 (List.all_eq_true.1 c2 c (List.mem_of_getElem? hj))⟩
    rwa[c1]at this
   refine⟨hone.append k1,fun x' hx'=>?_⟩
   rcases List.mem_cons.1 hx' with rfl|hx'
   ·rw[q1,c1]
   ·exact k2 x' hx'
theorem gives_bs {wm:Bool} {ty e:TypeId} {z:Nat} {zv:Value} {ps:List Operand} {ps':List Opd} {i:TypeInfo} (ho:o.op= .buildSlice ty ps.length (((List.range ps.length).zip ps).toArray)) (hl:ps.length=ps'.length) (hm:∀(j:Nat) x y,ps[j]? =some x->ps'[j]? =some y->MOpd x y)
  (hu:P.underlying ty=some (.slice e)) (hi:P.info? e=some i) (hz:i.zero=some zv) (hs:i.size=z) (hzs:zv.cells.size=z) (h0:0<z) (hlen:ps.length*z<=16777216)
  (h:SN g w n a.tmps s) (he:evOp call t (.bs wm z ps') s=some (d,s')):Gives P o g w n a s d s':=by
 subst hs
 simp only[evOp]at he
 split at he
 ·rename_i hc
  injection he with he
  injection he with e1 e2
  subst e1 e2
  obtain⟨hel,hsz⟩:=rds_el h hl hm hc
  have hln:(rds s ps').length=ps.length:=by rw[(rds_at h hl hm).1,hl]
  have hM:∀(ob:Obj),More w (w.alloc ob) ob:=fun ob=>⟨rfl,rfl,rfl,rfl⟩
  have hmap:(((List.range ps.length).zip ps).toArray.map fun(i,x)=>(i,a.eval x)).toList=(List.range ps.length).zip (ps.map a.eval):=by
   rw[Array.toList_map]
   simp only[List.zip_map_right]
   rfl
  by_cases hp:ps=[]
  ·subst hp
   have hnil:rds s ps'=[]:=List.eq_nil_of_length_eq_zero (by simpa using hln)
   rw[hnil]
   obtain⟨g',k1,k2,k3⟩:=newlist_ok (xs:=[]) (vs:=[]) (z:=i.size) (cap:=0) h (hM (.cells #[] e)) (EL.nil _ _) (fun k v hk=>by simp at hk) (Nat.le_refl _) (by simp[maxLen]) (by simp) (if wm=true then .mu else .app) (by cases wm<;>simp)
   refine⟨_,_,g',?_,k1,k2,k3,rfl⟩
   unfold execOp
   simp only[ho,Instr.buildSlice,Sem.run_bind,run_underlying hu,Result.andThen_ok,run_sizeOf' hi]
   simp[newRow,Instr.fill]
   rw[show(Array.range 0).map (fun _:Nat=>(default:Value))= #[]from by simp]
  ·have hfill:=Great.fill_whole h0 (ps.map a.eval) ((Array.range (ps.length*i.size)).map (zv.cells[· %zv.cells.size]!)) (fun v hv=>by
    obtain⟨x,hx,rfl⟩:=List.mem_map.1 hv
    exact hsz x hx) (by simp)
   have hzip:(List.range ps.length).zip (ps.map a.eval)=((ps.map a.eval).zipIdx 0).map fun x=>(x.2,x.1):=by
    apply List.ext_getElem?
    intro k
    simp only[List.getElem?_map,List.getElem?_zipIdx]
    by_cases hk:k<ps.length
    ·rw[List.getElem?_eq_getElem (by simp[hk])]
     simp[hk]
    ·rw[List.getElem?_eq_none (by simp;omega)]
     simp[List.getElem?_eq_none (Nat.le_of_not_lt hk)]
   have hpos:0<ps.length:=List.length_pos_iff.2 hp
   have hn0:¬ ps.length*i.size=0:=Nat.ne_of_gt (Nat.mul_pos hpos h0)
   have hrun:=run_buildSlice (P:=P) w ty e ps.length (((List.range ps.length).zip ps).toArray.map fun(i,x)=>(i,a.eval x)) _ i zv hu hi hz (by omega) hn0 (by rw[hmap,hzip];exact hfill)
   have hflat:((ps.map a.eval).flatMap fun v=>v.cells.toList)=ps.flatMap fun x=>(a.eval x).cells.toList:=by rw[List.flatMap_map]
   rw[hflat]at hrun
   have hfl:=hel.len
   obtain⟨g',k1,k2,k3⟩:=newlist_ok (cap:=ps.length) h (hM (.cells (ps.flatMap fun x=>(a.eval x).cells.toList).toArray e)) hel (fun k v hk=>by simpa using hk) (by rw[hln];exact Nat.le_refl _)
    (by have:ps.length*1<=ps.length*i.size:=Nat.mul_le_mul_left _ h0;simp only[maxLen];omega) (by simp only[List.size_toArray,hfl,hln];exact Nat.le_refl _) (if wm=true then .mu else .app) (by cases wm<;>simp)
   rw[hln]at k2
   exact⟨_,_,g',by unfold execOp;simp only[ho,Sem.run_bind,hrun,Result.andThen_ok,Sem.run_pure],k1,k2,k3,rfl⟩
 ·cases he
end
end Go.Proofs.Ytfopbiiffiickaa.Ev
namespace Go.Proofs.Ytfopbiiffiickaa.Ev
open Go
variable {P:Program}
section
variable {o:Oper} {g:G} {w:World} {n:Nat} {a:Act} {s s':S} {d:D} {call:Caller} {t:Option Nat}
theorem made_get (z:Array Value) (n k:Nat) (hz:0<z.size) (hk:k<n):(madeCells z n)[k]? =z[k%z.size]? :=by
 have:k%z.size<z.size:=Nat.mod_lt _ hz
 simp[madeCells,hk,this]
theorem zc_rf {v:Value} (h:v.oneCell'=true):RF w g.fr v (zc v):=by
 unfold zc
 split
 ·exact .nl 0
 ·exact .v v h
theorem gives_mk {ty e:TypeId} {x y:Operand} {x' y':Opd} {q0:Bool} {z by_:Nat} {zv:Value} {ze:D} {i:TypeInfo} (ho:o.op= .makeSlice ty x y) (hx:MOpd x x') (hy:MOpd y y') (hu:P.underlying ty=some (.slice e)) (hi:P.info? e=some i) (hz:i.zero=some zv) (hs:i.size=z) (hb:i.bytes=by_) (hzs:zv.cells.size=z) (h0:0<z) (h1:1<=by_)
  (hze:ze.cells=zv.cells.toList.map zc) (hze1:zv.cells.toList.all Value.oneCell'=true) (h:SN g w n a.tmps s) (he:evOp call t (.mk q0 z by_ ze x' y') s=some (d,s')):Gives P o g w n a s d s':=by
 simp only[evOp]at he
 split at he
 ·rename_i kn l kc c e1 e2
  have hv1:=rd_v h hx e1
  have hv2:=rd_v h hy e2
  split at he
  ·rename_i hc
   obtain⟨c1,c2,c3⟩:=hc
   injection he with he
   injection he with f1 f2
   subst f1 f2
   obtain⟨p,rfl⟩:=Int.eq_ofNat_of_zero_le c1
   obtain⟨q,rfl⟩:=Int.eq_ofNat_of_zero_le (Int.le_trans c1 c2)
   have hpq:p<=q:=by omega
   have hq47:q<=140737488355328:=by
    have h2:(1:Int)*q<=by_*q:=Int.mul_le_mul_of_nonneg_right (by omega) (by omega)
    omega
   have hrun:=run_make (P:=P) w ty e i zv hu hi hz kn kc p q c1 c2 (by rw[hb];omega) (by omega)
   simp only[Int.toNat_natCast]at hrun
   have hM:More w (w.alloc (.cells (madeCells zv.cells (q*i.size)) e)) (.cells (madeCells zv.cells (q*i.size)) e):=⟨rfl,rfl,rfl,rfl⟩
   have hpz:p*z<=q*z:=Nat.mul_le_mul_right z hpq
   have hel:EL (RF w g.fr) z (List.replicate p ze) ((madeCells zv.cells (q*i.size)).toList.take (p*z)):=by
    refine⟨by rw[List.length_take,Array.length_toList,size_madeCells,hs,Nat.min_eq_left hpz,List.length_replicate],fun j d hj=>?_,fun j d k c hj hk=>?_⟩
    ·rw[List.getElem?_replicate]at hj
     split at hj
     ·injection hj with hj;subst hj;rw[hze];simp[hzs]
     ·cases hj
    ·have hjl:j<p:=by have:=getq_lt hj;simpa using this
     rw[List.getElem?_replicate,if_pos hjl]at hj
     injection hj with hj
     subst hj
     rw[hze,List.getElem?_map]at hk
     obtain⟨v,q1,rfl⟩:=Option.map_eq_some_iff.1 hk
     have hkz:k<z:=by have:=getq_lt q1;simpa[hzs]using this
     have hlt:j*z+k<p*z:=lt_of_el hjl hkz
     refine⟨v,?_,zc_rf (List.all_eq_true.1 hze1 v (List.mem_of_getElem? q1))⟩
     rw[List.getElem?_take,if_pos hlt,Array.getElem?_toList,hs,made_get _ _ _ (by omega) (by omega),hzs]
     rw[show(j*z+k)%z=k by rw[Nat.mul_comm,Nat.mul_add_mod];exact Nat.mod_eq_of_lt hkz]
     simpa using q1
   obtain⟨g',k1,k2,k3⟩:=newlist_ok (cap:=q) h hM hel (fun k v hk=>by
    rw[List.getElem?_take]at hk
    split at hk
    ·simpa using hk
    ·cases hk) (by simpa using hpq) (by simp only[maxLen];omega) (by rw[size_madeCells,hs];exact Nat.le_refl _) (if q0 then .mu else .app) (by cases q0<;>simp)
   rw[List.length_replicate]at k2
   rw[Int.toNat_natCast]
   exact⟨_,_,g',by unfold execOp;simp only[ho,hv1,hv2,Sem.run_bind,hrun,Result.andThen_ok,Sem.run_pure],k1,k2,k3,rfl⟩
  ·cases he
 ·cases he
theorem run_cut {ty e:TypeId} {i:TypeInfo} (hu:P.underlying ty=some (.slice e)) (hi:P.info? e=some i) (base:Option Addr) (len cap:Nat) (lo hi':Option Value) (l q:Nat) (hlo:(lo=none∧l=0)∨∃k,lo=some (.int k l)) (hhi:(hi'=none∧q=len)∨∃k,hi'=some (.int k q)) (h1:l<=q) (h2:q<=len) (h3:len<=cap):
  (Instr.sliceAt ty (.slice base len cap) lo hi' none).run P w= .ok (.slice (if cap=l then base else base.map (·.add (l*i.size))) (q-l) (cap-l)) w:=by
 have e1:q<=cap:=by omega
 rcases hlo with⟨rfl,rfl⟩|⟨k,rfl⟩<;>rcases hhi with⟨rfl,rfl⟩|⟨k',rfl⟩<;>
  simp[Instr.sliceAt,Instr.slice,Instr.sliceBounds,Instr.sliceBound,asIntOf,run_underlying hu,run_sizeOf' hi,h1,e1]
theorem opt_int (h:SN g w n a.tmps s) {x:Option Operand} {x':Option Opd} (hm:MOpt x x') {dflt r:Int} (he:optI s dflt x'=some r):
  (x.map a.eval=none∧r=dflt)∨∃k,x.map a.eval=some (.int k r):=by
 cases hm with
 |n=>injection he with he;exact .inl ⟨rfl,he.symm⟩
 |s hxy=>
  simp only[optI]at he
  split at he
  ·rename_i k q e
   injection he with he
   subst he
   exact .inr ⟨k,by simp[rd_v h hxy e]⟩
  ·cases he
theorem gives_slc {ty e:TypeId} {x:Operand} {x':Opd} {z:Nat} {lo hg:Option Operand} {lo' hg':Option Opd} {i:TypeInfo} (ho:o.op= .slice ty x lo hg none) (hx:MOpd x x') (hu:P.underlying ty=some (.slice e)) (hi:P.info? e=some i) (hs:i.size=z) (hlo:MOpt lo lo') (hhi:MOpt hg hg')
  (h:SN g w n a.tmps s) (he:evOp call t (.slc z x' lo' hg') s=some (d,s')):Gives P o g w n a s d s':=by
 obtain⟨L,hL⟩:=rd_at h hx
 simp only[evOp]at he
 split at he
 ·rename_i m z' xs hxs
  rw[hxs]at hL
  split at he
  ·rename_i l q hl hq
   split at he
   ·rename_i hc
    obtain⟨c0,c1,c2,c3⟩:=hc
    have il:=opt_int h hlo hl
    have iq:=opt_int h hhi hq
    obtain⟨p,rfl⟩:=Int.eq_ofNat_of_zero_le c1
    obtain⟨r,rfl⟩:=Int.eq_ofNat_of_zero_le (Int.le_trans c1 c2)
    have ilo:(lo.map a.eval=none∧p=0)∨∃k,lo.map a.eval=some (.int k p):=by
     rcases il with⟨q1,q2⟩|q1
     ·exact .inl ⟨q1,by omega⟩
     ·exact .inr q1
    have ihi:(hg.map a.eval=none∧r=xs.length)∨∃k,hg.map a.eval=some (.int k r):=by
     rcases iq with⟨q1,q2⟩|q1
     ·exact .inl ⟨q1,by omega⟩
     ·exact .inr q1
    have hex:execOp a.eval o=(do pure (.value (<-Instr.sliceAt ty (a.eval x) (lo.map a.eval) (hg.map a.eval) none))):=by
     unfold execOp;simp only[ho,Option.map_none]
    split at he
    ·rename_i hm
     injection he with he
     injection he with f1 f2
     subst f1 f2
     have hnl:∀v:Value,RF w g.fr v (.sl .nl z' xs)->xs=[]∧v= .slice none 0 0:=fun v hv=>by cases hv with|nl=>exact⟨rfl,rfl⟩
     obtain⟨hx0,hv⟩:=hnl _ (show RF w g.fr (a.eval x) (.sl .nl z' xs)from hL)
     subst hx0
     simp only[List.length_nil]at c3 ihi
     have hr:=run_cut (P:=P) (w:=w) hu hi none 0 0 _ _ p r ilo ihi (by omega) (by omega) (Nat.le_refl _)
     refine⟨.slice none 0 0,w,g,?_,h,(show RF w g.fr _ (.sl .nl 0 [])from .nl 0),Ext.refl _ _ _,rfl⟩
     rw[hex,hv]
     simp only[Sem.run_bind,hr,Result.andThen_ok,Sem.run_pure,Option.map_none]
     have e1:r-p=0:=by omega
     have e2:0-p=0:=by omega
     simp[e1,e2]
    ·rename_i hm
     injection he with he
     injection he with f1 f2
     subst f1 f2
     rw[Int.toNat_natCast,Int.toNat_natCast]
     have hro:∀v:Value,RF w g.fr v (.sl .ro z' xs)->∃v',(Instr.sliceAt ty v (lo.map a.eval) (hg.map a.eval) none).run P w= .ok v' w∧RF w g.fr v' (.sl .ro z ((xs.take r).drop p)):=by
      intro v hv
      cases hv with
      |z b z'=>
       simp only[List.length_nil]at c3 ihi
       have hr:=run_cut (P:=P) (w:=w) hu hi (some b) 0 0 _ _ p r ilo ihi (by omega) (by omega) (Nat.le_refl _)
       refine⟨_,hr,?_⟩
       have e1:r-p=0:=by omega
       have e2:0=p:=by omega
       rw[if_pos e2,e1]
       simp only[List.take_nil,List.drop_nil,Nat.zero_sub]
       exact .z b z
      |ro b off cap z' xs val h1 h2 h3 h4 h5 h6=>
       have hr:=run_cut (P:=P) (w:=w) hu hi (some ⟨b,off,none⟩) xs.length cap _ _ p r ilo ihi (by omega) (by omega) h1
       refine⟨_,hr,?_⟩
       have hlen:((xs.take r).drop p).length=r-p:=by simp;omega
       rw[hs]
       have mk:∀off',(r-p=0∨off'=off+p*z)->(r-p=0∨off'+(r-p)*z<=g.fr b)->RF w g.fr (.slice (some ⟨b,off',none⟩) (r-p) (cap-p)) (.sl .ro z ((xs.take r).drop p)):=by
        intro off' ho' hfr
        rw[<-hlen]
        have hz:∀(j:Nat) d,((xs.take r).drop p)[j]? =some d->xs[p+j]? =some d∧z=z'∧off'=off+p*z:=by
         intro j d hj
         have hjl:=getq_lt hj
         rw[List.getElem?_drop,List.getElem?_take]at hj
         split at hj
         ·refine⟨hj,?_,?_⟩
          ·rcases c0 with c0|c0
           ·exact c0
           ·rw[List.isEmpty_iff.1 c0]at hj;simp at hj
          ·rcases ho' with ho'|ho'
           ·omega
           ·exact ho'
         ·cases hj
        refine .ro b off' (cap-p) z _ (fun j k=>val (p+j) k) (by omega) (by omega) (hfr.imp (fun q=>List.eq_nil_of_length_eq_zero (by omega)) fun q=>by rw[hlen];exact q) (fun j d hj=>?_) (fun j d k c hj hk=>?_) (fun j d k c hj hk=>?_)
        ·obtain⟨q1,q2,_⟩:=hz j d hj;rw[q2];exact h4 _ d q1
        ·obtain⟨q1,q2,q3⟩:=hz j d hj
         have:=h5 (p+j) d k c q1 hk
         rw[<-this,q3,q2,Nat.add_mul];congr 2;omega
        ·obtain⟨q1,_,_⟩:=hz j d hj;exact h6 _ d k c q1 hk
       by_cases e:cap=p
       ·rw[if_pos e]
        have e1:r-p=0:=by omega
        rw[e1]
        have:=mk off (.inl e1) (.inl e1)
        rwa[e1]at this
       ·rw[if_neg e]
        simp only[Option.map_some,add_lit]
        rcases Nat.eq_zero_or_pos (r-p)with e1|e1
        ·exact mk _ (.inl e1) (.inl e1)
        ·rcases h3 with h3|h3
         ·subst h3;simp at c3;omega
         have hz':z=z':=by
          rcases c0 with c0|c0
          ·exact c0
          ·have:xs=[]:=List.isEmpty_iff.1 c0
           subst this;simp at c3;omega
         subst hz'
         refine mk _ (.inr rfl) (.inr ?_)
         have:p*z+(r-p)*z<=xs.length*z:=by rw[<-Nat.add_mul];exact Nat.mul_le_mul_right _ (by omega)
         omega
     obtain⟨v',q1,q2⟩:=hro _ (show RF w g.fr (a.eval x) (.sl .ro z' xs)from hL)
     exact⟨v',w,g,by rw[hex];simp only[Sem.run_bind,q1,Result.andThen_ok,Sem.run_pure],h,q2,Ext.refl _ _ _,rfl⟩
    ·cases he
   ·cases he
  ·cases he
 ·rename_i f b off m z' hxs
  rw[hxs]at hL
  obtain⟨hRL,blk,cap,off',g1,g2,g3,g4,g5,g6⟩:=(show RC g w (L 0 0) (a.eval x) (.ref f b off m z')from hL)
  split at he
  ·rename_i l q hl hq
   split at he
   ·rename_i hc
    obtain⟨c0,c1,c2,c3⟩:=hc
    subst c0
    have il:=opt_int h hlo hl
    have iq:=opt_int h hhi hq
    obtain⟨p,rfl⟩:=Int.eq_ofNat_of_zero_le c1
    obtain⟨r,rfl⟩:=Int.eq_ofNat_of_zero_le (Int.le_trans c1 c2)
    have ilo:(lo.map a.eval=none∧p=0)∨∃k,lo.map a.eval=some (.int k p):=by
     rcases il with⟨q1,q2⟩|q1
     ·exact .inl ⟨q1,by omega⟩
     ·exact .inr q1
    have ihi:(hg.map a.eval=none∧r=m)∨∃k,hg.map a.eval=some (.int k r):=by
     rcases iq with⟨q1,q2⟩|q1
     ·exact .inl ⟨q1,by omega⟩
     ·exact .inr q1
    have hex:execOp a.eval o=(do pure (.value (<-Instr.sliceAt ty (a.eval x) (lo.map a.eval) (hg.map a.eval) none))):=by
     unfold execOp;simp only[ho,Option.map_none]
    injection he with he
    injection he with f1 f2
    subst f1 f2
    rw[Int.toNat_natCast,Int.toNat_natCast]
    have hr:=run_cut (P:=P) (w:=w) hu hi (some ⟨blk,off',none⟩) m cap _ _ p r ilo ihi (by omega) (by omega) g3
    generalize hv':Value.slice _ (r-p) (cap-p)=v' at hr
    refine⟨v',w,g,by rw[hex,g2];simp only[Sem.run_bind,hr,Result.andThen_ok,Sem.run_pure],h,?_,Ext.refl _ _ _,rfl⟩
    rw[<-hv']
    by_cases e:cap=p
    ·rw[if_pos e]
     exact(show RC g w (L 0 0) _ (.ref f b (off+p*z) (r-p) z)from⟨hRL,blk,cap-p,off',g1,rfl,by omega,by omega,(by
      rcases g5 with g5|g5
      ·exact .inl ⟨by omega,by omega⟩
      ·rcases Nat.eq_zero_or_pos (p*z)with e'|e'
       ·exact .inr (by omega)
       ·exact .inl ⟨by omega,by omega⟩),fun o ho=>by rw[e,Nat.sub_self,Nat.zero_mul]at ho;omega⟩)
    ·rw[if_neg e]
     simp only[Option.map_some,add_lit]
     exact(show RC g w (L 0 0) _ (.ref f b (off+p*z) (r-p) z)from⟨hRL,blk,cap-p,off'+p*i.size,g1,rfl,by omega,by omega,by
      rcases g5 with g5|g5
      ·omega
      ·exact .inr (by rw[g5,hs]),fun o ho=>by
      have h1:p*i.size+o<cap*z:=by
       rw[Nat.sub_mul]at ho
       have:p*z<=cap*z:=Nat.mul_le_mul_right z (by omega)
       rw[hs];omega
      rw[Nat.add_assoc];exact g6 _ h1⟩)
   ·cases he
  ·cases he
 ·cases he
theorem mm_ok (h:SN g w n a.tmps s) (mx:Bool) {k:IntKind} {xs:List Operand} {ys:List Opd} (hl:xs.length=ys.length) (hm:∀(i:Nat) x y,xs[i]? =some x->ys[i]? =some y->MOpd x y):∀{p r:Int},mnm mx k p s ys=some r->
  ((xs.map a.eval).foldlM (if mx then Builtin.max2 else Builtin.min2) (.int k p)).run P w= .ok (.int k r) w:=by
 induction ys generalizing xs with
 |nil=>
  intro p r he
  have:xs=[]:=List.eq_nil_of_length_eq_zero (by simpa using hl)
  subst this
  simp only[mnm]at he
  injection he with he
  subst he
  rfl
 |cons y ys ih=>
  intro p r he
  cases xs with
  |nil=>simp at hl
  |cons x xs=>
   simp only[mnm]at he
   split at he
   ·rename_i k' b e
    have hv:=rd_v h (hm 0 x y rfl rfl) e
    have:=ih (xs:=xs) (by simpa using hl) (fun j x' y' q1 q2=>hm (j+1) x' y' (by simpa using q1) (by simpa using q2)) he
    simp only[List.map_cons,List.foldlM_cons,hv]
    rw[Sem.run_bind]
    cases mx with
    |true=>simp only[if_true]at this ⊢;simp only[Builtin.max2,Sem.run_pure,Result.andThen_ok];exact this
    |false=>simp only[Bool.false_eq_true,if_false]at this ⊢;simp only[Builtin.min2,Sem.run_pure,Result.andThen_ok];exact this
   ·cases he
theorem gives_mm {mx:Bool} {x:Operand} {x':Opd} {xs:List Operand} {xs':List Opd} {ts:Array TypeId} (ho:o.op= .call ⟨.builtin (if mx then .max else .min),(x::xs).toArray,ts⟩) (hx:MOpd x x') (hl:xs.length=xs'.length) (hm:∀(i:Nat) x y,xs[i]? =some x->xs'[i]? =some y->MOpd x y)
  (h:SN g w n a.tmps s) (he:evOp call t (.mm mx x' xs') s=some (d,s')):Gives P o g w n a s d s':=by
 simp only[evOp]at he
 split at he
 ·rename_i k p e
  have hv:=rd_v h hx e
  obtain⟨r,h1,h2⟩:=Option.map_eq_some_iff.1 he
  injection h2 with e1 e2
  subst e1 e2
  have:=mm_ok (P:=P) h mx hl hm h1
  refine⟨.int k r,w,g,?_,h,rfl,Ext.refl _ _ _,rfl⟩
  cases mx with
  |true=>
   simp only[if_true]at ho this
   unfold execOp
   simp[ho,resolve,invoke,builtin,Builtin.max_,hv,this]
  |false=>
   simp only[Bool.false_eq_true,if_false]at ho this
   unfold execOp
   simp[ho,resolve,invoke,builtin,Builtin.min_,hv,this]
 ·cases he
end
end Go.Proofs.Ytfopbiiffiickaa.Ev
namespace Go.Proofs.Ytfopbiiffiickaa.Ev
open Go
variable {P:Program}
section
variable {o:Oper} {g:G} {w:World} {n:Nat} {a:Act} {s s':S} {d:D} {call:Caller} {t:Option Nat}
theorem gives_un {xr:Bool} {ty:TypeId} {x:Operand} {x':Opd} (ho:o.op= .unOp (if xr then .xor else .neg) ty x) (hx:MOpd x x') (h:SN g w n a.tmps s) (he:evOp call t (.un xr x') s=some (d,s')):Gives P o g w n a s d s':=by
 simp only[evOp]at he
 split at he
 ·rename_i k i hi
  have hv:=rd_v h hx hi
  obtain⟨v,q1,q2⟩:=Option.map_eq_some_iff.1 he
  injection q2 with e1 e2
  subst e1 e2
  refine⟨v,w,g,?_,h,rfl,Ext.refl _ _ _,rfl⟩
  cases xr with
  |true=>
   simp only[if_true,bz]at q1
   injection q1 with q1
   subst q1
   simp[execOp,ho,hv,Go.Op.unary,Go.Op.intBits]
  |false=>
   simp only[Bool.false_eq_true,if_false,bz]at q1
   injection q1 with q1
   subst q1
   simp[execOp,ho,hv,Go.Op.unary,Go.Op.intArith]
 ·cases he
theorem part_one {ty:TypeId} {u:TypeDesc} (hu:P.underlying ty=some u) (ha:aggT u=false) {cs:Array Value} {off:Nat} {v:Value} (hc:cs[off]? =some v):(part ty cs off).run P w= .ok v w:=by
 unfold part
 rw[Sem.run_bind,run_isAgg' hu,ha]
 simp[hc]
theorem equalIn_plain {ty:TypeId} {u:TypeDesc} (hu:P.underlying ty=some u) {z x y:Value} (hd:plainT u z=true) {q:Bool} (h:veq z x y=some q) (k:Nat):(Go.Op.equalIn (k+1) ty x y).run P w= .ok q w:=by
 unfold veq at h
 split at h
 ·cases u<;>first|(cases hd;done)|skip
  injection h with h;subst h
  simp[Go.Op.equalIn,run_underlying hu]
 ·cases u<;>first|(cases hd;done)|skip
  injection h with h;subst h
  simp[Go.Op.equalIn,run_underlying hu,beq_toListBytes]
 ·cases u<;>first|(cases hd;done)|skip
  split at h
  ·rename_i hk
   injection h with h;subst h
   simp[Go.Op.equalIn,run_underlying hu,hk.1,hk.2]
  ·cases h
 ·cases h
theorem plainT_agg {u:TypeDesc} {z:Value} (h:plainT u z=true):aggT u=false:=by
 cases u<;>cases z<;>first|rfl|cases h
theorem eqFields_ok {k:Nat} {xs ys:Array Value}:∀{fl:List Field} {z:List Value} {as_ bs:List D} {j:Nat} {q:Bool},PlainF P j fl z->veqs z as_ bs=some q->(∀(i:Nat) v,as_[i]? =some (.v v)->xs[j+i]? =some v)->(∀(i:Nat) v,bs[i]? =some (.v v)->ys[j+i]? =some v)->
  (Op.eqFields (k+1) xs ys fl).run P w= .ok q w
 |[],_,as_,bs,j,q,.nil,h,_,_=>by
  cases as_<;>cases bs<;>simp[veqs]at h
  subst h
  simp[Op.eqFields]
 |f::fl,_,as_,bs,j,q,.cons ho hn hu hd hr,h,hx,hy=>by
  unfold veqs at h
  split at h
  ·contradiction
  ·rename_i z' zs x r y r' e1
   injection e1 with e1 e1'
   subst e1 e1'
   split at h
   ·rename_i q1 q2 h1 h2
    injection h with h
    subst h
    have hxx:=hx 0 x rfl
    have hyy:=hy 0 y rfl
    have hrec:=eqFields_ok (xs:=xs) (ys:=ys) (k:=k) hr h2 (fun i v hi=>by have:=hx (i+1) v (by simpa using hi);rw[<-this];congr 1;omega) (fun i v hi=>by have:=hy (i+1) v (by simpa using hi);rw[<-this];congr 1;omega)
    have hn' : f.name ≠ "_" := by simpa using hn
    subst ho
    have p1:=part_one (w:=w) hu (plainT_agg hd) (by simpa using hxx)
    have p2:=part_one (w:=w) hu (plainT_agg hd) (by simpa using hyy)
    have p3:=equalIn_plain (w:=w) hu hd h1 k
    rw[Op.eqFields]
    simp only[if_pos hn',Sem.run_bind,p1,p2,p3,Result.andThen_ok]
    cases q1
    ·simp
    ·simpa using hrec
   ·cases h
  ·cases h
theorem gives_eqa {ne:Bool} {ty ty':TypeId} {x y:Operand} {x' y':Opd} {fs:Array Field} {z:List Value} (ho:o.op= .binOp (if ne then .neq else .eql) ty x y ty') (hx:MOpd x x') (hy:MOpd y y') (hu:P.underlying ty=some (.struct fs)) (hp:P.stoodInHeld ty=false) (hqt:P.eqGuardType P.depth ty=false) (hf:PlainF P 0 fs.toList z)
  (h:SN g w n a.tmps s) (he:evOp call t (.eqa ne z x' y') s=some (d,s')):Gives P o g w n a s d s':=by
 obtain⟨L,hL⟩:=rd_at h hx
 obtain⟨L',hL'⟩:=rd_at h hy
 simp only[evOp]at he
 split at he
 ·rename_i as_ bs h1 h2
  rw[h1]at hL
  rw[h2]at hL'
  obtain⟨q,q1,q2⟩:=Option.map_eq_some_iff.1 he
  injection q2 with e1 e2
  subst e1 e2
  obtain⟨xs,r1,r2,r3⟩:=(show RV g w (L 0) (a.eval x) (.agg as_)from hL)
  obtain⟨ys,r4,r5,r6⟩:=(show RV g w (L' 0) (a.eval y) (.agg bs)from hL')
  have hfo:P.fieldsOf ty=fs:=by simp[Program.fieldsOf,hu]
  have hE:(Go.Op.equalIn (9999+1) ty (.agg xs) (.agg ys)).run P w= .ok q w:=by
   rw[run_equalIn_struct (P:=P) w 9999 ty xs ys (by rw[hfo];exact hu) hp,hfo]
   refine eqFields_ok (k:=9998) hf q1 (fun i v hi=>?_) (fun i v hi=>?_)
   ·obtain⟨y,k1,k2⟩:=r3 i _ hi
    rw[Nat.zero_add,k1,show y=v from k2]
   ·obtain⟨y,k1,k2⟩:=r6 i _ hi
    rw[Nat.zero_add,k1,show y=v from k2]
  have hG:∀op,(Go.eqGuard op ty x y (.agg xs) (.agg ys)).run P w= .ok () w:=fun op=>by
   unfold Go.eqGuard
   split<;>simp[Sem.run_bind,run_program,hqt]
  refine⟨.bool (q !=ne),w,g,?_,h,rfl,Ext.refl _ _ _,rfl⟩
  unfold execOp
  have hB:(Go.binOp (if ne then .neq else .eql) ty (.agg xs) (.agg ys)).run P w= .ok (.bool (q !=ne)) w:=by
   cases ne with
   |false=>
    show((do pure (Value.bool (<-Go.Op.equalIn (9999+1) ty (.agg xs) (.agg ys))):Sem Value)).run P w=_
    rw[Sem.run_bind,hE];simp
   |true=>
    show((do pure (Value.bool !(<-Go.Op.equalIn (9999+1) ty (.agg xs) (.agg ys))):Sem Value)).run P w=_
    rw[Sem.run_bind,hE];simp
  simp only[ho,r1,r4,Sem.run_bind,hG,Result.andThen_ok,hB,Sem.run_pure]
 ·cases he
end
end Go.Proofs.Ytfopbiiffiickaa.Ev
