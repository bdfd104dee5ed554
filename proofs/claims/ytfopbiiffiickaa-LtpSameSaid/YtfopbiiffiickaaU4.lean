/- Typed values put together and taken apart; operations that change nothing but their slot. Conditions: none. -/
import Derived.Test.YtfopbiiffiickaaU1
import Derived.Test.YtfopbiiffiickaaEvS
import Derived.Test.YtfopbiiffiickaaEvG
import Derived.Test.YtfopbiiffiickaaEv2
import Derived.Laws.Strings
set_option linter.all false
namespace Go.Proofs.Ytfopbiiffiickaa.Ev.U
open Go
def All2 {α β:Type} (R:α->β->Prop):List α->List β->Prop
 |[],[]=>True
 |x::xs,y::ys=>R x y∧All2 R xs ys
 |_,_=>False
section
variable {α β:Type} {R:α->β->Prop}
theorem All2.length:∀{xs:List α} {ys:List β},All2 R xs ys->xs.length=ys.length
 |[],[],_=>rfl
 |x::xs,y::ys,h=>by simp only[List.length_cons];rw[All2.length h.2]
 |[],_::_,h=>h.elim
 |_::_,[],h=>h.elim
theorem All2.get:∀{xs:List α} {ys:List β},All2 R xs ys->∀{i:Nat} {x:α},xs[i]? =some x->∃y,ys[i]? =some y∧R x y
 |[],[],_,i,x,h=>by simp at h
 |x::xs,y::ys,h,0,z,hx=>by simp at hx;subst hx;exact⟨y,rfl,h.1⟩
 |x::xs,y::ys,h,i+1,z,hx=>by simp at hx;obtain⟨w,h1,h2⟩:=All2.get h.2 hx;exact⟨w,by simpa using h1,h2⟩
 |[],_::_,h,_,_,_=>h.elim
 |_::_,[],h,_,_,_=>h.elim
theorem All2.mono {R':α->β->Prop}:∀{xs:List α} {ys:List β},(∀x y,x∈xs->R x y->R' x y)->All2 R xs ys->All2 R' xs ys
 |[],[],_,_=>trivial
 |x::xs,y::ys,f,h=>⟨f x y (by simp) h.1,All2.mono (fun a b ha=>f a b (by simp[ha])) h.2⟩
 |[],_::_,_,h=>h.elim
 |_::_,[],_,h=>h.elim
theorem All2.map {α' β':Type} {R':α'->β'->Prop} {f:α->α'} {g:β->β'}:∀{xs:List α} {ys:List β},(∀x y,x∈xs->R x y->R' (f x) (g y))->All2 R xs ys->All2 R' (xs.map f) (ys.map g)
 |[],[],_,_=>trivial
 |x::xs,y::ys,q,h=>⟨q x y (by simp) h.1,All2.map (fun a b ha=>q a b (by simp[ha])) h.2⟩
 |[],_::_,_,h=>h.elim
 |_::_,[],_,h=>h.elim
theorem All2.app:∀{xs xs':List α} {ys ys':List β},All2 R xs ys->All2 R xs' ys'->All2 R (xs++xs') (ys++ys')
 |[],_,[],_,_,h=>h
 |x::xs,_,y::ys,_,h,h'=>⟨h.1,All2.app h.2 h'⟩
 |[],_,_::_,_,h,_=>h.elim
 |_::_,_,[],_,h,_=>h.elim
theorem All2.take:∀{xs:List α} {ys:List β} (n:Nat),All2 R xs ys->All2 R (xs.take n) (ys.take n)
 |[],[],n,_=>by simp[All2]
 |x::xs,y::ys,0,h=>trivial
 |x::xs,y::ys,n+1,h=>⟨h.1,All2.take n h.2⟩
 |[],_::_,_,h=>h.elim
 |_::_,[],_,h=>h.elim
theorem All2.drop:∀{xs:List α} {ys:List β} (n:Nat),All2 R xs ys->All2 R (xs.drop n) (ys.drop n)
 |[],[],n,_=>by simp[All2]
 |x::xs,y::ys,0,h=>h
 |x::xs,y::ys,n+1,h=>by simp only[List.drop_succ_cons];exact All2.drop n h.2
 |[],_::_,_,h=>h.elim
 |_::_,[],_,h=>h.elim
theorem All2.set:∀{xs:List α} {ys:List β} (i:Nat) {x:α} {y:β},All2 R xs ys->R x y->All2 R (xs.set i x) (ys.set i y)
 |[],[],i,_,_,h,_=>trivial
 |_::_,_::_,0,_,_,h,hr=>⟨hr,h.2⟩
 |_::_,_::_,i+1,_,_,h,hr=>⟨h.1,All2.set i h.2 hr⟩
 |[],_::_,_,_,_,h,_=>h.elim
 |_::_,[],_,_,_,h,_=>h.elim
theorem All2.rep {x:α} {y:β} (h:R x y):∀n,All2 R (List.replicate n x) (List.replicate n y)
 |0=>trivial
 |n+1=>⟨h,All2.rep h n⟩
theorem All2.nil_l {ys:List β} (h:All2 R [] ys):ys=[]:=by cases ys with|nil=>rfl|cons=>exact h.elim
theorem All2.nil_r {xs:List α} (h:All2 R xs []):xs=[]:=by cases xs with|nil=>rfl|cons=>exact h.elim
theorem All2.cons_l {x:α} {xs:List α} {ys:List β} (h:All2 R (x::xs) ys):∃y q,ys=y::q∧R x y∧All2 R xs q:=by
 cases ys with
 |nil=>exact h.elim
 |cons y q=>exact⟨y,q,rfl,h.1,h.2⟩
theorem All2.all_r {p:β->Bool}:∀{xs:List α} {ys:List β},(∀x y,x∈xs->R x y->p y=true)->All2 R xs ys->ys.all p=true
 |[],[],_,_=>rfl
 |x::xs,y::ys,f,h=>by simp only[List.all_cons,f x y (by simp) h.1,Bool.true_and];exact All2.all_r (fun a b ha=>f a b (by simp[ha])) h.2
 |[],_::_,_,h=>h.elim
 |_::_,[],_,h=>h.elim
end
structure Fx where
 f:Nat
 b:Nat
 o:Nat
 ys:List D
def Sat (F:List Fx) (B:List Bx):Prop:=∀x∈F,∃l cs,B[x.f]? =some l∧lk x.b l=some cs∧x.o+x.ys.length<=cs.length∧(cs.drop x.o).take x.ys.length=x.ys
theorem Sat.nil (B:List Bx):Sat [] B:=fun x h=>by simp at h
def strV (x:List Int):ByteArray:=⟨(x.map fun c=>UInt8.ofNat c.toNat).toArray⟩
def maxLn:Nat:=9223372036854775807
def resD:Ty->D->List D->Prop
 | .t _ _,d,ds=>d= .tup ds
 | .n,d,ds=>d= .tup ds
 |_,d,ds=>ds=[d]
def capD (F:List Fx):D->Prop
 | .v _=>True
 | .fptr _ _=>True
 | .ptr f _ _=>∃x∈F,x.f=f
 |_=>False
theorem capD.up {F F':List Fx} (h:∀x∈F,x∈F') {d:D} (hd:capD F d):capD F' d:=by
 cases d with
 |ptr f b o=>obtain⟨x,h1,h2⟩:=hd;exact⟨x,h x h1,h2⟩
 |_=>exact hd
def RepL (P:Caller):(τ:Ty)->List Fx->τ.T->List D->Prop
 | .i k,_,x,ds=>ds=[.v (.int k x)]∧inK k x=true
 | .b,_,x,ds=>ds=[.v (.bool x)]
 | .s,_,x,ds=>ds=[.v (.string (strV x))]∧List.length (α:=Int) x<=maxLn∧∀c:Int,List.Mem (α:=Int) c x->0<=c∧c<256
 | .l m t,F,x,ds=>List.length (α:=t.T) x<=maxLn∧∃es,All2 (fun y e=>RepL P t F y [e]) x es∧(ds=[.sl m (csz t) es]∨(es=[]∧∃z,ds=[.sl .nl z []]))
 | .p a r,F,x,ds=>(a.one=true∧r.rowk=true)∧∃d q,ds=d::q∧RepL P a F x.1 [d]∧RepL P r F x.2 q
 | .g r,F,x,ds=>r.rowk=true∧∃cs,ds=[.agg cs]∧RepL P r F x cs
 | .t a r,F,x,ds=>(a.val=true∧r.tupk=true)∧∃d q,ds=d::q∧RepL P a F x.1 [d]∧RepL P r F x.2 q
 | .n,_,_,ds=>ds=[]
 | .o _ _,_,_,_=>False
 | .fn a r,F,φ,ds=>∃f caps,ds=[.clo f caps]∧(∀d∈caps,capD F d)∧∀(x:a.T) ak,RepL P a [] x ak->∀y:r.T,φ x=some y->∀n,(∀x∈F,x.f<n)->∃d q,resD r d q∧RepL P r [] y q∧∀B:List Bx,B.length=n->Sat F B->P f (ak++caps) B=some (d,B)
 | .cl f r,F,x,ds=>r.rowk=true∧∃cs,ds=[.clo f [.fptr cs 0]]∧RepL P r F x cs
def RepR (P:Caller) (r:Ty) (F:List Fx) (y:r.T) (d:D):Prop:=∃q,resD r d q∧RepL P r F y q
theorem RepL.up {P:Caller}:∀{τ:Ty} {F F':List Fx},(∀x∈F,x∈F')->∀{x:τ.T} {ds:List D},RepL P τ F x ds->RepL P τ F' x ds
 | .i k,F,F',hF,x,ds,h=>h
 | .b,F,F',hF,x,ds,h=>h
 | .s,F,F',hF,x,ds,h=>h
 | .l m t,F,F',hF,x,ds,h=>by
  obtain⟨hl,es,h1,h2⟩:=h
  exact⟨hl,es,h1.mono fun _ _ _ q=>RepL.up hF q,h2⟩
 | .p a r,F,F',hF,x,ds,h=>by
  obtain⟨h0,d,q,h1,h2,h3⟩:=h
  exact⟨h0,d,q,h1,RepL.up hF h2,RepL.up hF h3⟩
 | .g r,F,F',hF,x,ds,h=>by
  obtain⟨h0,cs,h1,h2⟩:=h
  exact⟨h0,cs,h1,RepL.up hF h2⟩
 | .t a r,F,F',hF,x,ds,h=>by
  obtain⟨h0,d,q,h1,h2,h3⟩:=h
  exact⟨h0,d,q,h1,RepL.up hF h2,RepL.up hF h3⟩
 | .n,F,F',hF,x,ds,h=>h
 | .o _ _,F,F',hF,x,ds,h=>h
 | .fn a r,F,F',hF,φ,ds,h=>by
  obtain⟨f,caps,h1,h0,h2⟩:=h
  refine⟨f,caps,h1,fun d hd=>(h0 d hd).up hF,fun x ak ha y hy n hn=>?_⟩
  obtain⟨d,q,a1,a2,a3⟩:=h2 x ak ha y hy n fun x hx=>hn x (hF x hx)
  exact⟨d,q,a1,a2,fun B hB hS=>a3 B hB fun x hx=>hS x (hF x hx)⟩
 | .cl f r,F,F',hF,x,ds,h=>by
  obtain⟨h0,cs,h1,h2⟩:=h
  exact⟨h0,cs,h1,RepL.up (τ:=r) hF h2⟩
theorem RepL.fo {P:Caller}:∀{τ:Ty},τ.fo=true->∀{F F':List Fx} {x:τ.T} {ds:List D},RepL P τ F x ds->RepL P τ F' x ds
 | .i k,_,F,F',x,ds,h=>h
 | .b,_,F,F',x,ds,h=>h
 | .s,_,F,F',x,ds,h=>h
 | .l m t,hf,F,F',x,ds,h=>by
  obtain⟨hl,es,h1,h2⟩:=h
  exact⟨hl,es,h1.mono fun _ _ _ q=>RepL.fo (τ:=t) hf q,h2⟩
 | .p a r,hf,F,F',x,ds,h=>by
  obtain⟨h0,d,q,h1,h2,h3⟩:=h
  simp only[Ty.fo,Bool.and_eq_true]at hf
  exact⟨h0,d,q,h1,RepL.fo hf.1 h2,RepL.fo hf.2 h3⟩
 | .g r,hf,F,F',x,ds,h=>by
  obtain⟨h0,cs,h1,h2⟩:=h
  exact⟨h0,cs,h1,RepL.fo (τ:=r) hf h2⟩
 | .t a r,hf,F,F',x,ds,h=>by
  obtain⟨h0,d,q,h1,h2,h3⟩:=h
  simp only[Ty.fo,Bool.and_eq_true]at hf
  exact⟨h0,d,q,h1,RepL.fo hf.1 h2,RepL.fo hf.2 h3⟩
 | .n,_,F,F',x,ds,h=>h
 | .o _ _,_,F,F',x,ds,h=>h
 | .fn a r,hf,F,F',φ,ds,h=>by cases hf
 | .cl f r,hf,F,F',x,ds,h=>by
  obtain⟨h0,cs,h1,h2⟩:=h
  exact⟨h0,cs,h1,RepL.fo (τ:=r) hf h2⟩
structure Rg where
 w:Bool
 f:Nat
 b:Nat
 o:Nat
 z:Nat
structure Cx where
 P:Caller
 F:List Fx
 n:Nat
 rg:List Rg
 K:Nat->List D
structure Cx.ok (c:Cx):Prop where
 lt:∀r∈c.rg,r.f<c.n
 dj:∀(i j:Nat) r q,c.rg[i]? =some r->c.rg[j]? =some q->i≠j->r.w=true->(r.f,r.b)≠(q.f,q.b)
 fd:∀x∈c.F,x.f<c.n∧∀r∈c.rg,r.w=true->(x.f,x.b)≠(r.f,r.b)
section
variable (c:Cx)
def Rep0:W->D->Prop
 | .u τ x,d=>τ.one=true∧RepL c.P τ c.F x [d]
 | .nil,d=>∃z,d= .sl .nl z []
 | .np,d=>d= .v (.pointer none)
 | .un,_=>True
 | .pt (.own b) off,d=>d= .ptr c.n b off
 | .pt (.ext i) off,d=>∃r,c.rg[i]? =some r∧d= .ptr r.f r.b (r.o+off)
 | .rs b τ lo n,d=>(0<=n∧n<=(maxLn:Int)∧0<=lo.getD 0)∧(d= .ref c.n b ((lo.getD 0).toNat*csz τ) n.toNat (csz τ)∨(n=0∧∃z,d= .sl .nl z []))
 | .ep b τ i off,d=>0<=i∧d= .ptr c.n b (i.toNat*csz τ+off)
 |_,_=>False
def Rep1:W->D->Prop
 | .fp ws off,d=>∃cs,d= .fptr cs off∧All2 (Rep0 c) ws cs
 |w,d=>Rep0 c w d
def Rep2:W->D->Prop
 | .clo f ws,d=>∃cs,d= .clo f cs∧All2 (Rep1 c) ws cs∧ws.all capW=true
 |w,d=>Rep1 c w d
def Rep3:W->D->Prop
 | .ag ws,d=>∃cs,d= .agg cs∧All2 (Rep2 c) ws cs
 |w,d=>Rep2 c w d
def Rep4:W->D->Prop
 | .tp ws,d=>∃ds,d= .tup ds∧All2 (Rep3 c) ws ds
 |w,d=>Rep3 c w d
def act (p:Path) (e:Env):Prop:=∀x∈p,get x.1 e= .v (.bool x.2)
def Rep5 (e:Env):W->D->Prop
 | .gd p b w,d=>(b=true↔act p e)∧(act p e->Rep4 c w d)∧(¬ act p e->d= .v undef)
 |w,d=>Rep4 c w d
def BRep (ws:List W) (o:Option (List D)):Prop:=match ws with
 |[.lb τ m xs]=>(eleOk τ=true∧τ.val=true)∧mkOk τ=true∧((List.length (α:=τ.T) xs:Nat):Int)=m∧List.length (α:=τ.T) xs<=maxLn∧∃es,All2 (fun y e=>RepL c.P τ c.F y [e]) xs es∧(o=some (es.flatMap D.cells)∨(es=[]∧o=none))
 |ws=>∃ds,o=some ds∧All2 (Rep2 c) ws ds
structure RepS (s:SU) (e:Env) (l:Bx) (Y:List (List D)):Prop where
 env:∀t,Rep5 c e (getW t s.e) (get t e)
 box:∀b ws,lkW b s.l=some ws->BRep c ws (lk b l)
 nm:∀b,lk b l≠none->hasN b s.m=true
 ext:All2 (All2 (Rep2 c)) s.x Y
 wr:s.w=c.rg.map Rg.w
 len:Y.length=c.rg.length
 ro:∀(i:Nat) r ys,c.rg[i]? =some r->Y[i]? =some ys->ys.length=r.z∧(r.w=false->ys=c.K i)
end
theorem BRep.all {c:Cx} {ws:List W} {o:Option (List D)} (h:BRep c ws o) {ws':List W} (hn:notLb ws=some ws'):ws'=ws∧∃ds,o=some ds∧All2 (Rep2 c) ws ds:=by
 unfold BRep at h
 split at h
 ·cases hn
 ·rename_i hne
  unfold notLb at hn
  split at hn
  ·cases hn
  ·injection hn with hn
   exact⟨hn.symm,h⟩
theorem BRep.of {c:Cx} {ws:List W} {ds:List D} (h:All2 (Rep2 c) ws ds):BRep c ws (some ds):=by
 unfold BRep
 split
 ·cases ds with
  |nil=>exact h.elim
  |cons d r=>exact h.1.elim
 ·exact⟨ds,rfl,h⟩
def wrR (r:Rg) (ys:List D) (B:List Bx):List Bx:=B.modify r.f fun l=>sb r.b (over ((lk r.b l).getD []) r.o ys) l
def upd:List Rg->List (List D)->List Bx->List Bx
 |r::rs,ys::Y,B=>bif r.w then upd rs Y (wrR r ys B)else upd rs Y B
 |_,_,B=>B
def hasR (r:Rg) (B:List Bx):Prop:=∃l cs,B[r.f]? =some l∧lk r.b l=some cs∧r.o+r.z<=cs.length
structure Fam (c:Cx) (B:List Bx):Prop where
 len:B.length=c.n
 sat:Sat c.F B
 rg:∀r∈c.rg,hasR r B
 ro:∀(i:Nat) r,c.rg[i]? =some r->r.w=false->∃l cs,B[r.f]? =some l∧lk r.b l=some cs∧r.o+r.z<=cs.length∧(cs.drop r.o).take r.z=c.K i
theorem sb_sb {b:Nat} {x y:List D}:∀{l:Bx},sb b x (sb b y l)=sb b x l
 |[]=>rfl
 |(b',q)::r=>by
  by_cases h:b=b'
  ·simp only[sb,if_pos h]
  ·simp only[sb,if_neg h,sb_sb]
theorem sb_id {b:Nat} {x:List D}:∀{l:Bx},lk b l=some x->sb b x l=l
 |[],h=>by cases h
 |(b',q)::r,h=>by
  by_cases e:b=b'
  ·simp only[lk,if_pos e]at h;injection h with h;simp only[sb,if_pos e];rw[h]
  ·simp only[lk,if_neg e]at h;simp only[sb,if_neg e];rw[sb_id h]
theorem over_len {cs ys:List D} {o:Nat} (h:o+ys.length<=cs.length):(over cs o ys).length=cs.length:=by simp[over];omega
theorem over_over {cs ys zs:List D} {o:Nat} (h:o+ys.length<=cs.length) (e:ys.length=zs.length):over (over cs o ys) o zs=over cs o zs:=by
 have h1:(cs.take o).length=o:=by rw[List.length_take];omega
 have h2:List.drop (o+ys.length) (cs.take o++ys++cs.drop (o+ys.length))=cs.drop (o+ys.length):=by
  rw[List.drop_append_of_le_length (by simp;omega),List.drop_of_length_le (by simp;omega),List.nil_append]
 unfold over
 rw[<-e,h2]
 have h3:List.take o (cs.take o++ys++cs.drop (o+ys.length))=cs.take o:=by
  rw[List.append_assoc,List.take_append_of_le_length (by omega),List.take_of_length_le (by omega)]
 rw[h3]
theorem over_id {cs ys:List D} {o:Nat} (h:(cs.drop o).take ys.length=ys) (h2:o+ys.length<=cs.length):over cs o ys=cs:=by
 unfold over
 have e:ys++cs.drop (o+ys.length)=cs.drop o:=by
  rw[<-List.drop_drop]
  have:=List.take_append_drop ys.length (cs.drop o)
  rwa[h]at this
 rw[List.append_assoc,e,List.take_append_drop]
theorem over_get {cs ys:List D} {o:Nat} (h2:o+ys.length<=cs.length):((over cs o ys).drop o).take ys.length=ys:=by
 unfold over
 have h1:(cs.take o).length=o:=by rw[List.length_take];omega
 rw[List.append_assoc,List.drop_append_of_le_length (by omega),List.drop_of_length_le (by omega),List.nil_append,List.take_append_of_le_length (by omega),List.take_length]
theorem over_in {cs ys zs:List D} {o k:Nat} (h:o+ys.length<=cs.length) (e:k+zs.length<=ys.length):over (over cs o ys) (o+k) zs=over cs o (over ys k zs):=by
 have h1:(cs.take o).length=o:=by rw[List.length_take];omega
 have hl:(over ys k zs).length=ys.length:=over_len e
 have a:List.take (o+k) (cs.take o++ys++cs.drop (o+ys.length))=cs.take o++ys.take k:=by
  rw[List.append_assoc,List.take_append,h1,List.take_of_length_le (by omega),show o+k-o=k by omega,List.take_append_of_le_length (by omega)]
 have b:List.drop (o+k+zs.length) (cs.take o++ys++cs.drop (o+ys.length))=ys.drop (k+zs.length)++cs.drop (o+ys.length):=by
  rw[List.append_assoc,List.drop_append,h1,List.drop_of_length_le (by omega),List.nil_append,show o+k+zs.length-o=k+zs.length by omega,List.drop_append_of_le_length (by omega)]
 show List.take (o+k) (cs.take o++ys++cs.drop (o+ys.length))++zs++List.drop (o+k+zs.length) (cs.take o++ys++cs.drop (o+ys.length))=cs.take o++over ys k zs++cs.drop (o+(over ys k zs).length)
 rw[a,b,hl]
 simp only[over,List.append_assoc]
theorem wrR_len (r:Rg) (ys:List D) (B:List Bx):(wrR r ys B).length=B.length:=by simp[wrR]
theorem wrR_get {r:Rg} {ys:List D} {B:List Bx} {f:Nat}:(wrR r ys B)[f]? =if r.f=f then(B[f]?).map (fun l=>sb r.b (over ((lk r.b l).getD []) r.o ys) l)else B[f]? :=by
 unfold wrR
 rw[List.getElem?_modify]
 split
 ·rfl
 ·simp
theorem wrR_id {r:Rg} {ys:List D} {B:List Bx} {l:Bx} {cs:List D} (h1:B[r.f]? =some l) (h2:lk r.b l=some cs) (h3:r.o+ys.length<=cs.length) (h4:(cs.drop r.o).take ys.length=ys):wrR r ys B=B:=by
 apply List.ext_getElem?
 intro f
 rw[wrR_get]
 split
 ·rename_i e;subst e
  rw[h1,Option.map_some,h2,Option.getD_some,over_id h4 h3,sb_id h2]
 ·rfl
theorem wrR_wrR {r:Rg} {ys zs:List D} {B:List Bx} (h:hasR r B) (h1:ys.length=r.z) (h2:zs.length=r.z):wrR r zs (wrR r ys B)=wrR r zs B:=by
 obtain⟨l,cs,a1,a2,a3⟩:=h
 apply List.ext_getElem?
 intro f
 rw[wrR_get,wrR_get,wrR_get]
 split
 ·rename_i e;subst e
  rw[a1]
  simp only[Option.map_some]
  rw[lk_sb,if_pos rfl,a2]
  simp only[Option.map_some,Option.getD_some]
  rw[sb_sb,over_over (by omega) (by omega)]
 ·rfl
theorem lk2_ne {r:Rg} {ys:List D} {B:List Bx} {f b:Nat} {l:Bx} {cs:List D} (h:(f,b)≠(r.f,r.b)) (h1:B[f]? =some l) (h2:lk b l=some cs):∃l',(wrR r ys B)[f]? =some l'∧lk b l'=some cs:=by
 rw[wrR_get]
 split
 ·rename_i e;subst e
  rw[h1]
  refine⟨_,rfl,?_⟩
  rw[lk_sb,if_neg (fun e=>h (by rw[e])),h2]
 ·exact⟨l,h1,h2⟩
theorem wrR_comm {r q:Rg} {ys zs:List D} {B:List Bx} (h:(r.f,r.b)≠(q.f,q.b)):wrR r ys (wrR q zs B)=wrR q zs (wrR r ys B):=by
 apply List.ext_getElem?
 intro f
 rw[wrR_get,wrR_get,wrR_get,wrR_get]
 by_cases e:r.f=f
 ·by_cases e':q.f=f
  ·have hb:r.b≠q.b:=fun hb=>h (by rw[e,e',hb])
   rw[if_pos e,if_pos e',if_pos e',if_pos e]
   cases B[f]? with
   |none=>rfl
   |some l=>
    simp only[Option.map_some]
    rw[lk_sb,if_neg hb,lk_sb,if_neg (Ne.symm hb),sb_comm hb]
  ·rw[if_pos e,if_neg e',if_neg e',if_pos e]
 ·by_cases e':q.f=f
  ·rw[if_neg e,if_pos e',if_pos e',if_neg e]
  ·rw[if_neg e,if_neg e',if_neg e',if_neg e]
theorem hasR_wr {r q:Rg} {ys:List D} {B:List Bx} (hq:hasR q B) (hy:ys.length=q.z) (h:hasR r B):hasR r (wrR q ys B):=by
 obtain⟨l,cs,a1,a2,a3⟩:=h
 obtain⟨l2,cs2,b1,b2,b3⟩:=hq
 by_cases e:(r.f,r.b)=(q.f,q.b)
 ·injection e with e1 e2
  rw[e1,b1]at a1
  injection a1 with a1
  subst a1
  rw[e2,b2]at a2
  injection a2 with a2
  subst a2
  refine⟨sb q.b (over cs2 q.o ys) l2,over cs2 q.o ys,?_,?_,?_⟩
  ·rw[wrR_get,if_pos e1.symm,e1,b1,Option.map_some,b2];rfl
  ·rw[lk_sb,if_pos e2,b2];rfl
  ·rw[over_len (by omega)];exact a3
 ·obtain⟨l',h1,h2⟩:=lk2_ne (ys:=ys) e a1 a2
  exact⟨l',cs,h1,h2,a3⟩
theorem upd_len:∀{rs:List Rg} {Y:List (List D)} {B:List Bx},(upd rs Y B).length=B.length
 |[],[],B=>rfl
 |[],_::_,B=>rfl
 |_::_,[],B=>rfl
 |r::rs,ys::Y,B=>by
  simp only[upd]
  cases r.w with
  |true=>simp only[cond_true];rw[upd_len,wrR_len]
  |false=>exact upd_len
theorem upd_comm {q:Rg} {zs:List D}:∀{rs:List Rg} {Y:List (List D)} {B:List Bx},(∀r∈rs,r.w=true->(r.f,r.b)≠(q.f,q.b))->wrR q zs (upd rs Y B)=upd rs Y (wrR q zs B)
 |[],[],B,_=>rfl
 |[],_::_,B,_=>rfl
 |_::_,[],B,_=>rfl
 |r::rs,ys::Y,B,h=>by
  simp only[upd]
  have ih:=fun B=>upd_comm (q:=q) (zs:=zs) (rs:=rs) (Y:=Y) (B:=B) fun x hx=>h x (by simp[hx])
  cases hw:r.w with
  |true=>simp only[cond_true];rw[ih,wrR_comm (h r (by simp) hw).symm]
  |false=>simp only[cond_false];rw[ih]
def Dj (rs:List Rg):Prop:=∀(i j:Nat) r q,rs[i]? =some r->rs[j]? =some q->i≠j->r.w=true->(r.f,r.b)≠(q.f,q.b)
theorem Dj.tl {r:Rg} {rs:List Rg} (h:Dj (r::rs)):Dj rs:=fun i j a b ha hb hij=>h (i+1) (j+1) a b (by simpa using ha) (by simpa using hb) (by omega)
theorem upd_set:∀{rs:List Rg} {Y:List (List D)} {B:List Bx},Dj rs->(∀r∈rs,hasR r B)->(∀(i:Nat) r ys,rs[i]? =some r->Y[i]? =some ys->ys.length=r.z)->
  ∀{i:Nat} {r:Rg} {ys zs:List D},rs[i]? =some r->r.w=true->Y[i]? =some ys->zs.length=r.z->wrR r zs (upd rs Y B)=upd rs (Y.set i zs) B
 |[],Y,B,_,_,_,i,r,ys,zs,h,_,_,_=>by simp at h
 |r::rs,[],B,_,_,_,i,q,ys,zs,h,_,h2,_=>by simp at h2
 |r::rs,y::Y,B,hd,hR,hl,0,q,ys,zs,h,hw,h2,hz=>by
  simp at h h2
  subst h h2
  simp only[upd,hw,cond_true,List.set_cons_zero]
  rw[upd_comm fun x hx hxw=>?_,wrR_wrR (hR r (by simp)) (hl 0 r y rfl rfl) hz]
  obtain⟨j,hj⟩:=List.mem_iff_getElem?.1 hx
  exact hd (j+1) 0 x r (by simpa using hj) rfl (by omega) hxw
 |r::rs,y::Y,B,hd,hR,hl,i+1,q,ys,zs,h,hw,h2,hz=>by
  simp at h h2
  have hl':∀(i:Nat) r ys,rs[i]? =some r->Y[i]? =some ys->ys.length=r.z:=fun i r ys a b=>hl (i+1) r ys (by simpa using a) (by simpa using b)
  simp only[upd,List.set_cons_succ]
  cases r.w with
  |true=>exact upd_set hd.tl (fun x hx=>hasR_wr (hR r (by simp)) (hl 0 r y rfl rfl) (hR x (by simp[hx]))) hl' h hw h2 hz
  |false=>exact upd_set hd.tl (fun x hx=>hR x (by simp[hx])) hl' h hw h2 hz
def atR (r:Rg) (ys:List D) (B:List Bx):Prop:=∃l cs,B[r.f]? =some l∧lk r.b l=some cs∧r.o+ys.length<=cs.length∧(cs.drop r.o).take ys.length=ys
theorem atR_wr {r q:Rg} {ys zs:List D} {B:List Bx} (h:(r.f,r.b)≠(q.f,q.b)) (ha:atR r ys B):atR r ys (wrR q zs B):=by
 obtain⟨l,cs,a1,a2,a3,a4⟩:=ha
 obtain⟨l',b1,b2⟩:=lk2_ne (ys:=zs) h a1 a2
 exact⟨l',cs,b1,b2,a3,a4⟩
theorem atR_upd {r:Rg} {ys:List D}:∀{rs:List Rg} {Y:List (List D)} {B:List Bx},(∀q∈rs,q.w=true->(r.f,r.b)≠(q.f,q.b))->atR r ys B->atR r ys (upd rs Y B)
 |[],[],B,_,h=>h
 |[],_::_,B,_,h=>h
 |_::_,[],B,_,h=>h
 |q::rs,zs::Y,B,hd,h=>by
  simp only[upd]
  cases hw:q.w with
  |true=>exact atR_upd (fun x hx=>hd x (by simp[hx])) (atR_wr (hd q (by simp) hw) h)
  |false=>exact atR_upd (fun x hx=>hd x (by simp[hx])) h
theorem upd_at:∀{rs:List Rg} {Y:List (List D)} {B:List Bx},Dj rs->(∀r∈rs,hasR r B)->(∀(i:Nat) r ys,rs[i]? =some r->Y[i]? =some ys->ys.length=r.z)->
  (∀(i:Nat) r ys,rs[i]? =some r->r.w=false->Y[i]? =some ys->atR r ys B)->∀{i:Nat} {r:Rg} {ys:List D},rs[i]? =some r->Y[i]? =some ys->atR r ys (upd rs Y B)
 |[],Y,B,_,_,_,_,i,r,ys,h,_=>by simp at h
 |r::rs,[],B,_,_,_,_,i,q,ys,h,h2=>by simp at h2
 |r::rs,y::Y,B,hd,hR,hl,hro,0,q,ys,h,h2=>by
  simp at h h2
  subst h h2
  have hn:∀x∈rs,x.w=true->(r.f,r.b)≠(x.f,x.b):=fun x hx hxw=>by
   obtain⟨j,hj⟩:=List.mem_iff_getElem?.1 hx
   exact(hd (j+1) 0 x r (by simpa using hj) rfl (by omega) hxw).symm
  have hy:=hl 0 r y rfl rfl
  simp only[upd]
  cases hw:r.w with
  |true=>
   refine atR_upd hn ?_
   obtain⟨l,cs,a1,a2,a3⟩:=hR r (by simp)
   refine⟨sb r.b (over cs r.o y) l,over cs r.o y,?_,?_,?_,?_⟩
   ·rw[wrR_get,if_pos rfl,a1,Option.map_some,a2];rfl
   ·rw[lk_sb,if_pos rfl,a2];rfl
   ·rw[over_len (by omega)];omega
   ·exact over_get (by omega)
  |false=>exact atR_upd hn (hro 0 r y rfl hw rfl)
 |r::rs,y::Y,B,hd,hR,hl,hro,i+1,q,ys,h,h2=>by
  simp at h h2
  have hl':∀(i:Nat) r ys,rs[i]? =some r->Y[i]? =some ys->ys.length=r.z:=fun i r ys a b=>hl (i+1) r ys (by simpa using a) (by simpa using b)
  simp only[upd]
  cases hw:r.w with
  |true=>
   refine upd_at hd.tl (fun x hx=>hasR_wr (hR r (by simp)) (hl 0 r y rfl rfl) (hR x (by simp[hx]))) hl' (fun j q ys a b d=>?_) h h2
   refine atR_wr ?_ (hro (j+1) q ys (by simpa using a) b (by simpa using d))
   exact(hd 0 (j+1) r q rfl (by simpa using a) (by omega) hw).symm
  |false=>exact upd_at hd.tl (fun x hx=>hR x (by simp[hx])) hl' (fun j q ys a b d=>hro (j+1) q ys (by simpa using a) b (by simpa using d)) h h2
theorem upd_id:∀{rs:List Rg} {Y:List (List D)} {B:List Bx},(∀(i:Nat) r ys,rs[i]? =some r->Y[i]? =some ys->r.w=true->atR r ys B)->upd rs Y B=B
 |[],[],B,_=>rfl
 |[],_::_,B,_=>rfl
 |_::_,[],B,_=>rfl
 |r::rs,y::Y,B,h=>by
  simp only[upd]
  have ih:upd rs Y B=B:=upd_id fun i q ys a b=>h (i+1) q ys (by simpa using a) (by simpa using b)
  cases hw:r.w with
  |true=>
   obtain⟨l,cs,a1,a2,a3,a4⟩:=h 0 r y rfl rfl hw
   simp only[cond_true]
   rw[wrR_id a1 a2 a3 a4,ih]
  |false=>exact ih
theorem Sat.wr {F:List Fx} {B:List Bx} {r:Rg} {ys:List D} (h:Sat F B) (hd:∀x∈F,(x.f,x.b)≠(r.f,r.b)):Sat F (wrR r ys B):=fun x hx=>by
 obtain⟨l,cs,h1,h2,h3,h4⟩:=h x hx
 obtain⟨l',q1,q2⟩:=lk2_ne (ys:=ys) (hd x hx) h1 h2
 exact⟨l',cs,q1,q2,h3,h4⟩
theorem Sat.upd {F:List Fx}:∀{rs:List Rg} {Y:List (List D)} {B:List Bx},(∀x∈F,∀r∈rs,r.w=true->(x.f,x.b)≠(r.f,r.b))->Sat F B->Sat F (upd rs Y B)
 |[],[],B,_,h=>h
 |[],_::_,B,_,h=>h
 |_::_,[],B,_,h=>h
 |q::rs,zs::Y,B,hd,h=>by
  simp only[U.upd]
  cases hw:q.w with
  |true=>exact Sat.upd (fun x hx r hr=>hd x hx r (by simp[hr])) (h.wr fun x hx=>hd x hx q (by simp) hw)
  |false=>exact Sat.upd (fun x hx r hr=>hd x hx r (by simp[hr])) h
end Go.Proofs.Ytfopbiiffiickaa.Ev.U
namespace Go.Proofs.Ytfopbiiffiickaa.Ev.U
open Go
theorem wrap_in (k:IntKind) (n:Int):inK k (k.wrap n)=true:=by
 cases k<;>simp only[inK,IntKind.wrap,IntKind.bits,IntKind.signed]<;>simp <;>omega
theorem inK_lo {k:IntKind} {a b:Int} (h:inK k a=true) (hb:(0<=a->0<=b∧b<=a)∧(a<0->a<=b∧b<=0)):inK k b=true:=by
 cases k<;>simp only[inK,decide_eq_true_eq]at h ⊢ <;>omega
theorem tmod_in {k:IntKind} {a b:Int} (h:inK k a=true):inK k (a.tmod b)=true:=by
 refine inK_lo h ⟨fun ha=>?_,fun ha=>?_⟩
 ·have h1:=Int.tmod_nonneg b ha
  have h2:(a.tmod b).natAbs<=a.natAbs:=by rw[Int.natAbs_tmod];exact Nat.mod_le _ _
  omega
 ·have h1:0<=(-a).tmod b:=Int.tmod_nonneg b (by omega)
  rw[Int.neg_tmod]at h1
  have h2:(a.tmod b).natAbs<=a.natAbs:=by rw[Int.natAbs_tmod];exact Nat.mod_le _ _
  omega
theorem fdiv_in {k:IntKind} {a b:Int} (h:inK k a=true) (hb:1<=b):inK k (a.fdiv b)=true:=by
 rw[Int.fdiv_eq_ediv_of_nonneg _ (by omega)]
 refine inK_lo h ⟨fun ha=>?_,fun ha=>?_⟩
 ·exact⟨Int.ediv_nonneg ha (by omega),Int.ediv_le_self _ ha⟩
 ·constructor
  ·have:a*b<=a:=by
    have:=Int.mul_le_mul_of_nonpos_left (a:=a) (show a<=0 by omega) hb
    omega
   exact Int.le_ediv_of_mul_le (by omega) this
  ·exact Int.ediv_nonpos_of_nonpos_of_neg (by omega) (by omega)
theorem nat_in (n:Nat) (h:n<=9223372036854775807):inK .i64 (n:Int)=true:=by simp only[inK,decide_eq_true_eq];omega
section
variable {c:Cx}
theorem Rep5_of {e:Env} {w:W} {d:D} (h:Rep4 c w d):Rep5 c e w d:=by
 cases w with
 |gd=>exact False.elim (by simpa[Rep4,Rep3,Rep2,Rep1,Rep0]using h)
 |_=>exact h
theorem Rep4_gd {p:Path} {b:Bool} {w:W} {d:D}:¬ Rep4 c (.gd p b w) d:=by simp[Rep4,Rep3,Rep2,Rep1,Rep0]
theorem to4 {w:W} {d:D} (h:Rep3 c w d):Rep4 c w d:=by
 cases w with
 |tp=>exact False.elim (by simpa[Rep3,Rep2,Rep1,Rep0]using h)
 |_=>exact h
theorem to3 {w:W} {d:D} (h:Rep2 c w d):Rep3 c w d:=by
 cases w with
 |ag=>exact False.elim (by simpa[Rep2,Rep1,Rep0]using h)
 |_=>exact h
theorem to2 {w:W} {d:D} (h:Rep1 c w d):Rep2 c w d:=by
 cases w with
 |clo=>exact False.elim (by simpa[Rep1,Rep0]using h)
 |_=>exact h
theorem to1 {w:W} {d:D} (h:Rep0 c w d):Rep1 c w d:=by
 cases w with
 |fp=>exact False.elim (by simpa[Rep0]using h)
 |_=>exact h
theorem to4x2 {w:W} {d:D} (h:Rep2 c w d):Rep4 c w d:=to4 (to3 h)
theorem l_d {m:Mode} {t:Ty} {F:List Fx} {P:Caller} {x:List t.T} {d:D} (h:RepL P (.l m t) F x [d]):x.length<=maxLn∧∃es,All2 (fun y e=>RepL P t F y [e]) x es∧(d= .sl m (csz t) es∨(es=[]∧∃z,d= .sl .nl z [])):=by
 obtain⟨hl,es,h1,h2⟩:=h
 refine⟨hl,es,h1,?_⟩
 rcases h2 with h2|⟨h2,z,h3⟩
 ·injection h2 with h2;exact .inl h2
 ·injection h3 with h3;exact .inr ⟨h2,z,h3⟩
theorem i_d {k:IntKind} {F:List Fx} {P:Caller} {x:Int} {d:D} (h:RepL P (.i k) F x [d]):d= .v (.int k x)∧inK k x=true:=by
 obtain⟨h1,h2⟩:=h
 injection h1 with h1
 exact⟨h1,h2⟩
theorem b_d {F:List Fx} {P:Caller} {x:Bool} {d:D} (h:RepL P .b F x [d]):d= .v (.bool x):=by injection h with h
theorem s_d {F:List Fx} {P:Caller} {x:List Int} {d:D} (h:RepL P .s F x [d]):d= .v (.string (strV x))∧x.length<=maxLn∧∀q:Int,q∈x->0<=q∧q<256:=by
 obtain⟨h1,h2⟩:=h
 injection h1 with h1
 exact⟨h1,h2⟩
theorem cl_d {f:Nat} {r:Ty} {F:List Fx} {P:Caller} {x:r.T} {d:D} (h:RepL P (.cl f r) F x [d]):r.rowk=true∧∃cs,d= .clo f [.fptr cs 0]∧RepL P r F x cs:=by
 obtain⟨h0,cs,h1,h2⟩:=h
 injection h1 with h1
 exact⟨h0,cs,h1,h2⟩
theorem fn_d {a r:Ty} {F:List Fx} {P:Caller} {φ:a.T->Option r.T} {d:D} (h:RepL P (.fn a r) F φ [d]):∃f caps,d= .clo f caps∧(∀d∈caps,capD F d)∧∀(x:a.T) ak,RepL P a [] x ak->∀y:r.T,φ x=some y->∀n,(∀x∈F,x.f<n)->∃d q,resD r d q∧RepL P r [] y q∧∀B:List Bx,B.length=n->Sat F B->P f (ak++caps) B=some (d,B):=by
 obtain⟨f,caps,h1,h2⟩:=h
 injection h1 with h1
 exact⟨f,caps,h1,h2⟩
structure Flat (d:D):Prop where
 bnd:∀k,d.bnd1 k=true
 sto:d.sto1=true
 cells:d.cells=[d]
 agg:d.aggB=false
 tup:d.tupB=false
 inn:∀k bs,d.in1 k bs=true
 frz:∀k l,d.frz1 k l=d
theorem flat_v {x:Value} (h:x.oneCell'=true):Flat (.v x):=⟨fun _=>rfl,h,rfl,rfl,rfl,fun _ _=>rfl,fun _ _=>rfl⟩
theorem flat_sl {m:Mode} {z:Nat} {xs:List D}:Flat (.sl m z xs):=⟨fun _=>rfl,rfl,rfl,rfl,rfl,fun _ _=>rfl,fun _ _=>rfl⟩
theorem flat_u {τ:Ty} {x:τ.T} {F:List Fx} {P:Caller} {d:D} (h:RepL P τ F x [d]) (hs:uSto τ=true):Flat d:=by
 cases τ with
 |i k=>rw[(i_d h).1];exact flat_v rfl
 |b=>rw[b_d h];exact flat_v rfl
 |s=>rw[(s_d h).1];exact flat_v rfl
 |l m t=>
  obtain⟨hl,es,h1,h2⟩:=l_d h
  rcases h2 with rfl|⟨_,z,rfl⟩<;>exact flat_sl
 |_=>cases hs
theorem caps_b {ws:List W} {cs:List D} (hc:c.ok) (h:All2 (Rep1 c) ws cs) (hw:ws.all capW=true):(cs.all fun| .ptr f _ _=>decide (f<c.n+1)| .v _=>true| .fptr _ _=>true|_=>false)=true:=by
 refine All2.all_r (fun w d hm h=>?_) h
 have hm:=List.all_eq_true.1 hw w hm
 cases w with
 |pt b off=>cases b with
  |own b=>rw[show d= .ptr c.n b off from h];simp
  |ext i=>
   obtain⟨r,h1,h2⟩:=h
   rw[h2]
   have:=hc.lt r (List.mem_of_getElem? h1)
   simp;omega
 |fp ws off=>obtain⟨q,h1,h2⟩:=h;rw[h1]
 |u τ x=>cases τ with
  |i k=>rw[(i_d h.2).1]
  |b=>rw[b_d h.2]
  |s=>rw[(s_d h.2).1]
  |_=>cases hm
 |_=>cases hm
theorem sto_ok (hc:c.ok) {w:W} {d:D} (h:Rep2 c w d) (hw:w.sto=true):d.bnd1 (c.n+1)=true∧d.sto1=true∧d.cells=[d]∧d.aggB=false∧d.tupB=false:=by
 cases w with
 |u τ x=>have q:=flat_u h.2 hw;exact⟨q.bnd _,q.sto,q.cells,q.agg,q.tup⟩
 |nil=>obtain⟨z,rfl⟩:=h;exact⟨rfl,rfl,rfl,rfl,rfl⟩
 |np=>rw[show d= .v (.pointer none)from h];exact⟨rfl,rfl,rfl,rfl,rfl⟩
 |pt b off=>cases b with
  |own b=>rw[show d= .ptr c.n b off from h];exact⟨by simp[D.bnd1],rfl,rfl,rfl,rfl⟩
  |ext i=>
   obtain⟨r,h1,h2⟩:=h
   rw[h2]
   have:=hc.lt r (List.mem_of_getElem? h1)
   exact⟨by simp[D.bnd1];omega,rfl,rfl,rfl,rfl⟩
 |fp ws off=>obtain⟨q,h1,h2⟩:=h;rw[h1];exact⟨rfl,rfl,rfl,rfl,rfl⟩
 |clo f ws=>obtain⟨q,h1,h2,h3⟩:=h;rw[h1];exact⟨caps_b hc h2 h3,rfl,rfl,rfl,rfl⟩
 |rs b τ lo n=>
  obtain⟨h0,rfl|⟨h1,z,rfl⟩⟩:=h
  ·exact⟨by simp[D.bnd1],rfl,rfl,rfl,rfl⟩
  ·exact⟨rfl,rfl,rfl,rfl,rfl⟩
 |ep b τ i off=>obtain⟨h0,rfl⟩:=h;exact⟨by simp[D.bnd1],rfl,rfl,rfl,rfl⟩
 |_=>cases hw
theorem strip_u {τ:Ty} {x:τ.T} {d:D} (h1:τ.one=true) (h:RepL c.P τ c.F x [d]):Rep0 c (uStrip τ x) d.strip1:=by
 cases τ with
 |i k=>obtain⟨rfl,h2⟩:=i_d h;exact⟨rfl,rfl,h2⟩
 |b=>obtain rfl:=b_d h;exact⟨rfl,rfl⟩
 |s=>obtain⟨rfl,h2⟩:=s_d h;exact⟨rfl,rfl,h2⟩
 |l m t=>
  obtain⟨hl,es,h3,h2⟩:=l_d h
  cases m with
  |app=>
   rcases h2 with rfl|⟨rfl,z,rfl⟩
   ·exact⟨rfl,hl,es,h3,.inl rfl⟩
   ·exact⟨rfl,hl,[],h3,.inr ⟨rfl,z,rfl⟩⟩
  |mu=>exact trivial
  |ro=>
   rcases h2 with rfl|⟨rfl,z,rfl⟩
   ·exact⟨rfl,hl,es,h3,.inl rfl⟩
   ·exact⟨rfl,hl,[],h3,.inr ⟨rfl,z,rfl⟩⟩
  |nl=>
   rcases h2 with rfl|⟨rfl,z,rfl⟩
   ·exact⟨rfl,hl,es,h3,.inl rfl⟩
   ·exact⟨rfl,hl,[],h3,.inr ⟨rfl,z,rfl⟩⟩
 |fn a r=>
  obtain⟨f,caps,rfl,h3⟩:=fn_d h
  exact⟨rfl,f,caps,rfl,h3⟩
 |cl f r=>
  obtain⟨h0,cs,rfl,h3⟩:=cl_d h
  exact⟨rfl,h0,cs,rfl,h3⟩
 |_=>cases h1
theorem strip1_ok {w:W} {d:D} (h:Rep2 c w d):Rep2 c w.strip1 d.strip1:=by
 cases w with
 |u τ x=>exact to2 (to1 (strip_u h.1 h.2))
 |nil=>obtain⟨z,rfl⟩:=h;exact⟨z,rfl⟩
 |np=>rw[show d= .v (.pointer none)from h];exact rfl
 |un=>trivial
 |pt b off=>cases b with
  |own b=>rw[show d= .ptr c.n b off from h];exact rfl
  |ext i=>obtain⟨r,h1,h2⟩:=h;rw[h2];exact⟨r,h1,rfl⟩
 |fp ws off=>obtain⟨q,rfl,h2⟩:=h;exact⟨q,rfl,h2⟩
 |clo f ws=>obtain⟨q,rfl,h2⟩:=h;exact⟨q,rfl,h2⟩
 |ag=>trivial
 |tp=>trivial
 |gd=>trivial
 |lb=>exact False.elim (by simpa[Rep2,Rep1,Rep0]using h)
 |rs b τ lo n=>
  obtain⟨h0,rfl|⟨h1,z,rfl⟩⟩:=h
  ·exact⟨h0,.inl rfl⟩
  ·exact⟨h0,.inr ⟨h1,z,rfl⟩⟩
 |ep b τ i off=>obtain⟨h0,rfl⟩:=h;exact⟨h0,rfl⟩
theorem ag_d {d:D} {w:W} (h:Rep2 c w d) (hw:∀ws,w≠ .ag ws):w= .un∨w= .tp []∨d.aggB=false:=by
 cases w with
 |u τ x=>
  refine .inr (.inr ?_)
  have h1:=h.1
  have h:=h.2
  cases τ with
  |i k=>rw[(i_d h).1];rfl
  |b=>rw[b_d h];rfl
  |s=>rw[(s_d h).1];rfl
  |l m t=>obtain⟨hl,es,h3,h2⟩:=l_d h;rcases h2 with rfl|⟨_,z,rfl⟩<;>rfl
  |fn a r=>obtain⟨f,caps,rfl,h3⟩:=fn_d h;rfl
  |cl f r=>obtain⟨h0,cs,rfl,h3⟩:=cl_d h;rfl
  |_=>cases h1
 |nil=>obtain⟨z,rfl⟩:=h;exact .inr (.inr rfl)
 |np=>rw[show d= .v (.pointer none)from h];exact .inr (.inr rfl)
 |un=>exact .inl rfl
 |pt b off=>cases b with
  |own b=>rw[show d= .ptr c.n b off from h];exact .inr (.inr rfl)
  |ext i=>obtain⟨r,h1,h2⟩:=h;rw[h2];exact .inr (.inr rfl)
 |fp ws off=>obtain⟨q,rfl,h2⟩:=h;exact .inr (.inr rfl)
 |clo f ws=>obtain⟨q,rfl,h2⟩:=h;exact .inr (.inr rfl)
 |ag ws=>exact absurd rfl (hw ws)
 |tp=>exact False.elim (by simpa[Rep2,Rep1,Rep0]using h)
 |gd=>exact False.elim (by simpa[Rep2,Rep1,Rep0]using h)
 |lb=>exact False.elim (by simpa[Rep2,Rep1,Rep0]using h)
 |rs b τ lo n=>obtain⟨h0,rfl|⟨h1,z,rfl⟩⟩:=h<;>exact .inr (.inr rfl)
 |ep b τ i off=>obtain⟨h0,rfl⟩:=h;exact .inr (.inr rfl)
theorem D.strip2_na {d:D} (h:d.aggB=false):d.strip2=d.strip1:=by cases d<;>first|rfl|cases h
theorem D.cells_na {d:D} (h:d.aggB=false):d.cells=[d]:=by cases d<;>first|rfl|cases h
theorem of3 {w:W} {d:D} (h:Rep3 c w d) (hw:∀ws,w≠ .ag ws):Rep2 c w d:=by
 cases w with
 |ag ws=>exact absurd rfl (hw ws)
 |_=>exact h
theorem of4 {w:W} {d:D} (h:Rep4 c w d) (hw:∀ws,w≠ .tp ws):Rep3 c w d:=by
 cases w with
 |tp ws=>exact absurd rfl (hw ws)
 |_=>exact h
theorem strip2_ok {w:W} {d:D} (h:Rep3 c w d):Rep3 c w.strip2 d.strip2:=by
 cases w with
 |ag ws=>
  obtain⟨cs,rfl,h2⟩:=h
  exact⟨_,rfl,h2.map fun w d _ q=>strip1_ok q⟩
 |un=>trivial
 |tp=>exact False.elim (by simpa[Rep3,Rep2,Rep1,Rep0]using h)
 |gd=>exact False.elim (by simpa[Rep3,Rep2,Rep1,Rep0]using h)
 |_=>
  have h':=of3 h (fun ws q=>by cases q)
  rcases ag_d h' (fun ws q=>by cases q)with q|q|q
  ·cases q
  ·cases q
  ·rw[D.strip2_na q];exact to3 (strip1_ok h')
theorem D.strip_nt {d:D} (h:d.tupB=false):d.strip=d.strip2:=by cases d<;>first|rfl|cases h
theorem tup_d {d:D} {w:W} (h:Rep3 c w d):w= .un∨d.tupB=false:=by
 cases w with
 |ag ws=>obtain⟨cs,rfl,h2⟩:=h;exact .inr rfl
 |u τ x=>
  refine .inr ?_
  have h1:=h.1
  have h:=h.2
  cases τ with
  |i k=>rw[(i_d h).1];rfl
  |b=>rw[b_d h];rfl
  |s=>rw[(s_d h).1];rfl
  |l m t=>obtain⟨hl,es,h3,h2⟩:=l_d h;rcases h2 with rfl|⟨_,z,rfl⟩<;>rfl
  |fn a r=>obtain⟨f,caps,rfl,h3⟩:=fn_d h;rfl
  |cl f r=>obtain⟨h0,cs,rfl,h3⟩:=cl_d h;rfl
  |_=>cases h1
 |nil=>obtain⟨z,rfl⟩:=h;exact .inr rfl
 |np=>rw[show d= .v (.pointer none)from h];exact .inr rfl
 |un=>exact .inl rfl
 |pt b off=>cases b with
  |own b=>rw[show d= .ptr c.n b off from h];exact .inr rfl
  |ext i=>obtain⟨r,h1,h2⟩:=h;rw[h2];exact .inr rfl
 |fp ws off=>obtain⟨q,rfl,h2⟩:=h;exact .inr rfl
 |clo f ws=>obtain⟨q,rfl,h2⟩:=h;exact .inr rfl
 |tp=>exact False.elim (by simpa[Rep3,Rep2,Rep1,Rep0]using h)
 |gd=>exact False.elim (by simpa[Rep3,Rep2,Rep1,Rep0]using h)
 |lb=>exact False.elim (by simpa[Rep3,Rep2,Rep1,Rep0]using h)
 |rs b τ lo n=>obtain⟨h0,rfl|⟨h1,z,rfl⟩⟩:=h<;>exact .inr rfl
 |ep b τ i off=>obtain⟨h0,rfl⟩:=h;exact .inr rfl
theorem strip_ok {w:W} {d:D} (h:Rep4 c w d):Rep4 c w.strip d.strip:=by
 cases w with
 |tp ws=>
  obtain⟨cs,rfl,h2⟩:=h
  exact⟨_,rfl,h2.map fun w d _ q=>strip2_ok q⟩
 |un=>trivial
 |gd=>exact False.elim (Rep4_gd h)
 |_=>
  have h':=of4 h (fun ws q=>by cases q)
  rcases tup_d h' with q|q
  ·cases q
  ·rw[D.strip_nt q];exact to4 (strip2_ok h')
def rdE (e:Env):Opd->D
 | .t n=>(get n e).strip
 | .m n=>get n e
 | .c x=>.v x
 | .cn=>.sl .nl 0 []
 | .f n=>.clo n []
theorem rd_fst (x:Opd) (e:Env) (l:Bx) (o:List Bx):(rd x ⟨e,l,o⟩).1=rdE e x:=by cases x<;>rfl
def rdN (e:Env):Opd->Env
 | .m n=>(n,(get n e).strip)::e
 |_=>e
theorem rd_snd (x:Opd) (e:Env) (l:Bx) (o:List Bx):(rd x ⟨e,l,o⟩).2=⟨rdN e x,l,o⟩:=by cases x<;>rfl
theorem nbeq {a b:Nat}:Nat.beq a b=true↔a=b:=⟨Nat.eq_of_beq_eq_true,fun h=>by subst h;exact Nat.beq_refl a⟩
theorem nbeq_f {a b:Nat} (h:a≠b):Nat.beq a b=false:=by
 cases q:Nat.beq a b with
 |false=>rfl
 |true=>exact absurd (nbeq.1 q) h
theorem getW_clr (t:Nat) {t':Nat}:∀{e:List (Nat×W)},getW t' (clr t e)=match getW t' e with
  | .gd q b w=>bif namesP t q then .un else .gd q b w
  |w=>w
 |[]=>rfl
 |(n,w)::r=>by
  have ih:=getW_clr t (t':=t') (e:=r)
  cases hq:Nat.beq t' n with
  |true=>
   cases w with
   |gd q b w=>simp only[clr,List.map_cons,getW,hq];cases hn:namesP t q<;>simp only[cond_true,cond_false,getW,hq,hn]
   |_=>simp only[clr,List.map_cons,getW,hq,cond_true]
  |false=>
   cases w with
   |gd q b w=>
    simp only[clr,List.map_cons,getW,hq]at ih ⊢
    cases namesP t q<;>(simp only[cond_true,cond_false,getW,hq];exact ih)
   |_=>simp only[clr,List.map_cons,getW,hq,cond_false]at ih ⊢;exact ih
theorem get_put {t t':Nat} {d:D} {e:Env}:get t' ((t,d)::e)=if t'=t then d else get t' e:=rfl
theorem namesP_no {t:Nat} {q:Path} (h:namesP t q=false):∀x∈q,x.1≠t:=fun x hx e=>by
 have:=List.any_eq_false.1 h x hx
 rw[e]at this
 exact this (Nat.beq_refl t)
theorem act_put {t:Nat} {d:D} {e:Env} {q:Path} (h:namesP t q=false):act q ((t,d)::e)↔act q e:=by
 constructor
 ·intro a x hx
  have:=a x hx
  rwa[get_put,if_neg (namesP_no h x hx)]at this
 ·intro a x hx
  rw[get_put,if_neg (namesP_no h x hx)]
  exact a x hx
theorem env_put {t:Nat} {w:W} {d:D} {es:List (Nat×W)} {e:Env} (h:∀t,Rep5 c e (getW t es) (get t e)) (hw:Rep5 c ((t,d)::e) w d):∀n,Rep5 c ((t,d)::e) (getW n ((t,w)::clr t es)) (get n ((t,d)::e)):=by
 intro n
 rw[get_put]
 by_cases hn:n=t
 ·subst hn
  simp only[getW,Nat.beq_refl,cond_true,if_true]
  exact hw
 ·simp only[getW,nbeq_f hn,cond_false,if_neg hn]
  rw[getW_clr]
  have hx:=h n
  split
  ·rename_i q b y hq
   rw[hq]at hx
   cases hp:namesP t q with
   |true=>exact trivial
   |false=>
    obtain⟨h1,h2,h3⟩:=hx
    rw[cond_false]
    exact⟨h1.trans (act_put hp).symm,fun a=>h2 ((act_put hp).1 a),fun a=>h3 fun b=>a ((act_put hp).2 b)⟩
  ·rename_i y hy
   cases hg:getW n es with
   |gd q b z=>exact absurd hg (hy q b z)
   |_=>rw[hg]at hx;exact hx
theorem RepS.put {s:SU} {e:Env} {l:Bx} {Y:List (List D)} (h:RepS c s e l Y) {t:Nat} {w:W} {d:D} (hw:Rep4 c w d):RepS c (putW t w s) ((t,d)::e) l Y:=
 ⟨env_put h.env (Rep5_of hw),h.box,h.nm,h.ext,h.wr,h.len,h.ro⟩
theorem RepS.putO {s:SU} {e:Env} {l:Bx} {Y:List (List D)} (h:RepS c s e l Y) {t:Option Nat} {w:W} {d:D} (hw:Rep4 c w d):∀o,∃e',Ev.putO t d ⟨e,l,o⟩=⟨e',l,o⟩∧RepS c (putWO t w s) e' l Y∧e'=(match t with|some t=>(t,d)::e|none=>e):=by
 intro o
 cases t with
 |none=>exact⟨e,rfl,h,rfl⟩
 |some t=>exact⟨_,rfl,h.put hw,rfl⟩
theorem hasP_mem {x:Nat×Bool}:∀{p:Path},hasP x p=true->x∈p
 |[],h=>by cases h
 |y::r,h=>by
  unfold hasP at h
  cases hq:(Nat.beq x.1 y.1&&(x.2==y.2))with
  |true=>
   simp only[Bool.and_eq_true,beq_iff_eq]at hq
   have:x=y:=Prod.ext (nbeq.1 hq.1) hq.2
   simp[this]
  |false=>rw[hq]at h;exact List.mem_cons_of_mem _ (hasP_mem h)
theorem act_sub {q p:Path} {e:Env} (h:subP q p=true) (hp:act p e):act q e:=fun x hx=>hp x (hasP_mem (List.all_eq_true.1 h x hx))
theorem opn_ok {p:Path} {e:Env} {w:W} {d:D} (hp:act p e) (h:Rep5 c e w d):Rep4 c (opn p w) d:=by
 cases w with
 |gd q b w=>
  simp only[opn]
  cases hs:subP q p with
  |true=>exact h.2.1 (act_sub hs hp)
  |false=>exact trivial
 |_=>exact h
theorem act_nil (e:Env):act [] e:=fun x hx=>by simp at hx
theorem strI_strV {s:ByteArray}:strV (strI s)=s:=by
 cases s with
 |mk a=>
  unfold strV strI
  congr 1
  rw[List.map_map]
  have:(fun c:UInt8=>UInt8.ofNat c.toNat)=id:=by funext c;simp
  have e:((fun c:Int=>UInt8.ofNat c.toNat)∘fun c:UInt8=>(c.toNat:Int))=id:=by funext c;simp
  rw[e,List.map_id]
theorem strI_range {s:ByteArray}:∀c:Int,List.Mem (α:=Int) c (strI s)->0<=c∧c<256:=by
 intro c hc
 obtain⟨b,_,rfl⟩:=List.mem_map.1 (show c∈strI s from hc)
 have:=UInt8.toNat_lt b
 omega
theorem cW_ok (v:Value):Rep2 c (cW v) (zc v):=by
 unfold cW
 split
 ·rename_i k n
  cases h:inK k n with
  |true=>exact⟨rfl,rfl,h⟩
  |false=>exact trivial
 ·exact⟨rfl,rfl⟩
 ·rename_i s
  cases hs:Nat.ble s.size 1000000 with
  |true=>exact⟨rfl,by rw[strI_strV];rfl,(by
    have:=Nat.le_of_ble_eq_true hs
    have e:(strI s).length=s.size:=by simp[strI]
    rw[e];unfold maxLn;omega),strI_range⟩
  |false=>exact trivial
 ·exact⟨0,rfl⟩
 ·exact rfl
 ·exact trivial
theorem cW_ok' (v:Value) (h:v≠ .slice none 0 0):Rep2 c (cW v) (.v v):=by
 have:=cW_ok (c:=c) v
 unfold zc at this
 split at this
 ·exact absurd rfl h
 ·exact this
theorem rdW_ok {p:Path} {s:SU} {e:Env} {l:Bx} {Y:List (List D)} (h:RepS c s e l Y) (hp:act p e) (x:Opd):Rep4 c (rdW p x s).1 (rdE e x):=by
 cases x with
 |t n=>exact strip_ok (opn_ok hp (h.env n))
 |m n=>cases p with
  |nil=>exact opn_ok hp (h.env n)
  |cons=>exact trivial
 |c v=>
  by_cases hv:∃a n k,v= .slice a n k
  ·obtain⟨a,n,k,rfl⟩:=hv;exact trivial
  ·have:(rdW p (.c v) s).1=cW v:=by
    cases v with
    |slice a n k=>exact absurd ⟨a,n,k,rfl⟩ hv
    |_=>rfl
   rw[this]
   exact to4x2 (cW_ok' v fun e=>hv ⟨none,0,0,e⟩)
 |cn=>exact⟨0,rfl⟩
 |f n=>exact⟨[],rfl,trivial,rfl⟩
theorem rdW_st {s:SU} {e:Env} {l:Bx} {Y:List (List D)} (h:RepS c s e l Y) (x:Opd):RepS c (rdW [] x s).2 (rdN e x) l Y:=by
 cases x with
 |m n=>exact h.put (strip_ok (opn_ok (act_nil e) (h.env n)))
 |_=>exact h
theorem rdW_ot {p:Path} {s:SU} {x:Opd} (h:x.ot=true):(rdW p x s).2=s:=by cases x<;>first|rfl|cases h
theorem rdN_ot {e:Env} {x:Opd} (h:x.ot=true):rdN e x=e:=by cases x<;>first|rfl|cases h
theorem rdsE_eq (e:Env) (l:Bx) (o:List Bx):∀xs:List Opd,rds ⟨e,l,o⟩ xs=xs.map (rdE e)
 |[]=>rfl
 |x::r=>by simp only[rds,List.map_cons,rd_fst,rdsE_eq e l o r]
theorem rdsW_ok {p:Path} {s:SU} {e:Env} {l:Bx} {Y:List (List D)} (h:RepS c s e l Y) (hp:act p e):∀xs:List Opd,All2 (Rep4 c) (rdsW p s xs) (xs.map (rdE e))
 |[]=>trivial
 |x::r=>⟨rdW_ok h hp x,rdsW_ok h hp r⟩
theorem own_box {s:SU} {e:Env} {l:Bx} {Y:List (List D)} (h:RepS c s e l Y) {b:Nat} {ws:List W} (hb:(lkW b s.l).bind notLb=some ws):lkW b s.l=some ws∧∃ds,lk b l=some ds∧All2 (Rep2 c) ws ds:=by
 obtain⟨ws0,h1,h2⟩:=Option.bind_eq_some_iff.1 hb
 obtain⟨rfl,h3⟩:=(h.box b ws0 h1).all h2
 exact⟨h1,h3⟩
end
end Go.Proofs.Ytfopbiiffiickaa.Ev.U
namespace Go.Proofs.Ytfopbiiffiickaa.Ev.U
open Go
section
variable {c:Cx}
theorem castT_eq {a b:Ty} {x:a.T} {y:b.T} (h:castT a b x=some y):∃e:a=b,e▸x=y:=by
 unfold castT at h
 split at h
 ·rename_i e;injection h with h;exact⟨e,h⟩
 ·cases h
theorem nilT_ok {τ:Ty} {x:τ.T} (h:nilT τ=some x) {P:Caller} {F:List Fx} {z:Nat}:τ.one=true∧RepL P τ F x [.sl .nl z []]:=by
 cases τ with
 |l m t=>simp only[nilT]at h;injection h with h;subst h;exact⟨rfl,Nat.zero_le _,[],trivial,.inr ⟨rfl,z,rfl⟩⟩
 |_=>cases h
theorem oneT_ok {τ:Ty} {w:W} {x:τ.T} {d:D} (h:oneT τ w=some x) (hr:Rep4 c w d):τ.one=true∧RepL c.P τ c.F x [d]:=by
 cases w with
 |u τ' y=>
  obtain⟨e,h⟩:=castT_eq h
  subst e
  subst h
  exact hr
 |nil=>obtain⟨z,rfl⟩:=hr;exact nilT_ok h
 |_=>cases h
theorem one_sing {P:Caller} {τ:Ty} {F:List Fx} {x:τ.T} {ds:List D} (h1:τ.one=true) (h:RepL P τ F x ds):∃d,ds=[d]:=by
 cases τ with
 |i k=>exact⟨_,h.1⟩
 |b=>exact⟨_,h⟩
 |s=>exact⟨_,h.1⟩
 |l m t=>obtain⟨_,es,_,h2|⟨_,z,h2⟩⟩:=h<;>exact⟨_,h2⟩
 |fn a r=>obtain⟨f,cs,h2,_⟩:=h;exact⟨_,h2⟩
 |cl f r=>obtain⟨_,cs,h2,_⟩:=h;exact⟨_,h2⟩
 |_=>cases h1
theorem one_rowk {τ:Ty} (h:τ.one=true):τ.rowk=true:=by cases τ<;>first|rfl|exact h
theorem one_val {τ:Ty} (h:τ.one=true):τ.val=true:=by cases τ<;>first|rfl|exact h
theorem val_tupk {τ:Ty} (h:τ.val=true):τ.tupk=true:=by cases τ<;>first|rfl|exact h
theorem rowT_ok:∀{r:Ty} {ws:List W} {x:r.T} {ds:List D},rowT r ws=some x->All2 (Rep2 c) ws ds->r.rowk=true∧RepL c.P r c.F x ds:=by
 intro r
 have base:∀{r:Ty} {ws:List W} {x:r.T} {ds:List D},(∃w,ws=[w]∧oneT r w=some x)->All2 (Rep2 c) ws ds->r.rowk=true∧RepL c.P r c.F x ds:=by
  intro r ws x ds ⟨w,h1,h2⟩ ha
  subst h1
  obtain⟨d,q,rfl,a1,a2⟩:=ha.cons_l
  obtain rfl:=a2.nil_l
  obtain⟨b1,b2⟩:=oneT_ok h2 (to4x2 a1)
  exact⟨one_rowk b1,b2⟩
 have sing:∀{r:Ty} {ws:List W} {x:r.T},(∀a q,r≠ .p a q)->rowT r ws=some x->∃w,ws=[w]∧oneT r w=some x:=by
  intro r ws x hr h
  unfold rowT at h
  split at h
  ·exact absurd rfl (hr _ _)
  ·exact⟨_,rfl,h⟩
  ·cases h
 induction r with
 |p a r iha ihr=>
  intro ws x ds h ha
  cases ws with
  |nil=>simp[rowT]at h
  |cons w ws=>
   obtain⟨d,q,rfl,a1,a2⟩:=ha.cons_l
   simp only[rowT]at h
   obtain⟨y,h1,h2⟩:=Option.bind_eq_some_iff.1 h
   obtain⟨z,h3,h4⟩:=Option.map_eq_some_iff.1 h2
   subst h4
   obtain⟨b1,b2⟩:=oneT_ok h1 (to4x2 a1)
   obtain⟨b3,b4⟩:=ihr h3 a2
   exact⟨rfl,⟨b1,b3⟩,d,q,rfl,b2,b4⟩
 |_=>intro ws x ds h ha;exact base (sing (fun a q e=>by cases e) h) ha
theorem valT_ok {τ:Ty} {w:W} {x:τ.T} {d:D} (h:valT τ w=some x) (hr:Rep4 c w d):τ.val=true∧RepL c.P τ c.F x [d]:=by
 have base:∀{τ:Ty} {w:W} {x:τ.T} {d:D},oneT τ w=some x->Rep4 c w d->τ.val=true∧RepL c.P τ c.F x [d]:=fun h hr=>by
  obtain⟨a,b⟩:=oneT_ok h hr
  exact⟨one_val a,b⟩
 unfold valT at h
 split at h
 ·obtain⟨cs,rfl,h2⟩:=hr
  obtain⟨a,b⟩:=rowT_ok h h2
  exact⟨rfl,a,cs,rfl,b⟩
 ·exact base h hr
theorem tupT_ok:∀{τ:Ty} {ws:List W} {x:τ.T} {ds:List D},tupT τ ws=some x->All2 (Rep4 c) ws ds->τ.tupk=true∧RepL c.P τ c.F x ds:=by
 intro τ
 have sing:∀{r:Ty} {ws:List W} {x:r.T} {ds:List D},(∀a q,r≠ .t a q)->(r≠ .n)->tupT r ws=some x->All2 (Rep4 c) ws ds->r.tupk=true∧RepL c.P r c.F x ds:=by
  intro r ws x ds hr hn h ha
  unfold tupT at h
  split at h
  ·exact absurd rfl (hr _ _)
  ·exact absurd rfl hn
  ·exact absurd rfl hn
  ·rename_i w _ _
   obtain⟨d,q,rfl,a1,a2⟩:=ha.cons_l
   obtain rfl:=a2.nil_l
   obtain⟨a,b⟩:=valT_ok h a1
   exact⟨val_tupk a,b⟩
  ·cases h
 induction τ with
 |t a r iha ihr=>
  intro ws x ds h ha
  cases ws with
  |nil=>simp[tupT]at h
  |cons w ws=>
   obtain⟨d,q,rfl,a1,a2⟩:=ha.cons_l
   simp only[tupT]at h
   obtain⟨y,h1,h2⟩:=Option.bind_eq_some_iff.1 h
   obtain⟨z,h3,h4⟩:=Option.map_eq_some_iff.1 h2
   subst h4
   obtain⟨b1,b2⟩:=valT_ok h1 a1
   obtain⟨b3,b4⟩:=ihr h3 a2
   exact⟨rfl,⟨b1,b3⟩,d,q,rfl,b2,b4⟩
 |n=>
  intro ws x ds h ha
  cases ws with
  |nil=>obtain rfl:=ha.nil_l;exact⟨rfl,rfl⟩
  |cons w ws=>
   cases h
 |_=>intro ws x ds h ha;exact sing (fun a q e=>by cases e) (fun e=>by cases e) h ha
theorem All2.to4 {ws:List W} {ds:List D} (h:All2 (Rep3 c) ws ds):All2 (Rep4 c) ws ds:=h.mono fun _ _ _ q=>U.to4 q
theorem resT_ok {τ:Ty} {w:W} {x:τ.T} {d:D} (h:resT τ w=some x) (hr:Rep4 c w d):τ.tupk=true∧RepR c.P τ c.F x d:=by
 unfold resT at h
 split at h
 ·obtain⟨ds,rfl,h2⟩:=hr
  obtain⟨a,b⟩:=tupT_ok h (All2.to4 h2)
  exact⟨a,ds,rfl,b⟩
 ·obtain⟨ds,rfl,h2⟩:=hr
  obtain rfl:=h2.nil_l
  exact⟨rfl,[],rfl,rfl⟩
 ·rename_i h1 h2
  obtain⟨a,b⟩:=valT_ok h hr
  refine⟨val_tupk a,[d],?_,b⟩
  cases τ with
  |t=>cases a
  |n=>cases a
  |_=>rfl
theorem cellsW_ok:∀{r:Ty} {x:r.T} {ds:List D},r.rowk=true->RepL c.P r c.F x ds->All2 (Rep0 c) (cellsW r x) ds:=by
 intro r
 have base:∀{r:Ty} {x:r.T} {ds:List D},r.one=true->RepL c.P r c.F x ds->All2 (Rep0 c) [W.u r x] ds:=by
  intro r x ds h1 h
  obtain⟨d,rfl⟩:=one_sing (by exact h1) h
  exact⟨⟨h1,h⟩,trivial⟩
 induction r with
 |p a r iha ihr=>
  intro x ds h1 h
  obtain⟨⟨q1,q2⟩,d,q,rfl,h3,h4⟩:=h
  exact⟨⟨q1,h3⟩,ihr q2 h4⟩
 |_=>intro x ds h1 h;exact base h1 h
theorem valW_ok {τ:Ty} {x:τ.T} {d:D} (h1:τ.val=true) (h:RepL c.P τ c.F x [d]):Rep3 c (valW τ x) d:=by
 cases τ with
 |g r=>
  obtain⟨a,cs,h2,h3⟩:=h
  injection h2 with h2
  exact⟨cs,h2,(cellsW_ok a h3).mono fun _ _ _ q=>to2 (to1 q)⟩
 |i k=>exact⟨h1,h⟩
 |b=>exact⟨h1,h⟩
 |s=>exact⟨h1,h⟩
 |l=>exact⟨h1,h⟩
 |fn=>exact⟨h1,h⟩
 |cl=>exact⟨h1,h⟩
 |_=>cases h1
theorem tupW_ok:∀{τ:Ty} {x:τ.T} {ds:List D},τ.tupk=true->RepL c.P τ c.F x ds->All2 (Rep3 c) (tupW τ x) ds:=by
 intro τ
 have base:∀{τ:Ty} {x:τ.T} {ds:List D},τ.val=true->RepL c.P τ c.F x ds->All2 (Rep3 c) [valW τ x] ds:=by
  intro τ x ds h1 h
  have:∃d,ds=[d]:=by
   cases τ with
   |g r=>obtain⟨a,cs,h2,h3⟩:=h;exact⟨_,h2⟩
   |i k=>exact one_sing (by exact h1) h
   |b=>exact one_sing (τ:=.b) h1 h
   |s=>exact one_sing (τ:=.s) h1 h
   |l=>exact one_sing (by exact h1) h
   |fn=>exact one_sing (by exact h1) h
   |cl=>exact one_sing (by exact h1) h
   |_=>cases h1
  obtain⟨d,rfl⟩:=this
  exact⟨valW_ok h1 h,trivial⟩
 induction τ with
 |t a r iha ihr=>
  intro x ds h1 h
  obtain⟨⟨q1,q2⟩,d,q,rfl,h3,h4⟩:=h
  exact⟨valW_ok q1 h3,ihr q2 h4⟩
 |n=>intro x ds h1 h;rw[show ds=[]from h];trivial
 |p=>intro x ds h1 h;cases h1
 |o=>intro x ds h1 h;cases h1
 |_=>intro x ds h1 h;exact base h1 h
theorem resW_ok {τ:Ty} {x:τ.T} {d:D} (h1:τ.tupk=true) (h:RepR c.P τ c.F x d):Rep4 c (resW τ x) d:=by
 obtain⟨q,h2,h3⟩:=h
 cases τ with
 |t a r=>exact⟨q,h2,tupW_ok rfl h3⟩
 |n=>obtain rfl:q=[]:=h3;exact⟨[],h2,trivial⟩
 |p=>cases h1
 |o=>cases h1
 |g r=>obtain rfl:q=[d]:=h2;exact to4 (valW_ok rfl h3)
 |i k=>obtain rfl:q=[d]:=h2;exact to4 (valW_ok rfl h3)
 |b=>obtain rfl:q=[d]:=h2;exact to4 (valW_ok (τ:=.b) rfl h3)
 |s=>obtain rfl:q=[d]:=h2;exact to4 (valW_ok (τ:=.s) rfl h3)
 |l=>obtain rfl:q=[d]:=h2;exact to4 (valW_ok rfl h3)
 |fn=>obtain rfl:q=[d]:=h2;exact to4 (valW_ok rfl h3)
 |cl=>obtain rfl:q=[d]:=h2;exact to4 (valW_ok rfl h3)
theorem elW_ok {t:Ty} {x:t.T} {d:D} (h1:t.val=true) (h:RepL c.P t c.F x [d]):All2 (Rep0 c) (elW t x) d.cells:=by
 have one:t.one=true->All2 (Rep0 c) [W.u t x] [d]:=fun h1=>⟨⟨h1,h⟩,trivial⟩
 have cd:t.one=true->d.cells=[d]:=fun h1=>by
  rcases ag_d (c:=c) (w:=.u t x) ⟨h1,h⟩ (fun ws q=>by cases q)with q|q|q
  ·cases q
  ·cases q
  ·exact D.cells_na q
 cases t with
 |g r=>
  obtain⟨a,cs,h2,h3⟩:=h
  injection h2 with h2
  subst h2
  exact cellsW_ok a h3
 |i k=>rw[cd h1];exact one h1
 |b=>rw[cd h1];exact one h1
 |s=>rw[cd h1];exact one h1
 |l=>rw[cd h1];exact one h1
 |fn=>rw[cd h1];exact one h1
 |cl=>rw[cd h1];exact one h1
 |_=>cases h1
theorem len_row {P:Caller} {F:List Fx}:∀{r:Ty} {x:r.T} {ds:List D},r.rowk=true->RepL P r F x ds->ds.length=rowLen r:=by
 intro r
 induction r with
 |p a r iha ihr=>
  intro x ds h1 h
  obtain⟨⟨q1,q2⟩,d,q,rfl,h3,h4⟩:=h
  simp only[List.length_cons,rowLen,ihr q2 h4]
 |i k=>intro x ds h1 h;obtain⟨d,rfl⟩:=one_sing (by exact h1) h;rfl
 |b=>intro x ds h1 h;obtain⟨d,rfl⟩:=one_sing (τ:=.b) h1 h;rfl
 |s=>intro x ds h1 h;obtain⟨d,rfl⟩:=one_sing (τ:=.s) h1 h;rfl
 |l=>intro x ds h1 h;obtain⟨d,rfl⟩:=one_sing (by exact h1) h;rfl
 |fn=>intro x ds h1 h;obtain⟨d,rfl⟩:=one_sing (by exact h1) h;rfl
 |cl=>intro x ds h1 h;obtain⟨d,rfl⟩:=one_sing (by exact h1) h;rfl
 |_=>intro x ds h1 h;cases h1
theorem el_len {P:Caller} {F:List Fx} {t:Ty} {x:t.T} {d:D} (h1:t.val=true) (h:RepL P t F x [d]):d.cells.length=csz t:=by
 have cd:t.one=true->d.cells=[d]:=fun h1=>by
  rcases ag_d (c:=⟨P,F,0,[],fun _=>[]⟩) (w:=.u t x) ⟨h1,h⟩ (fun ws q=>by cases q)with q|q|q
  ·cases q
  ·cases q
  ·exact D.cells_na q
 cases t with
 |g r=>
  obtain⟨a,cs,h2,h3⟩:=h
  injection h2 with h2
  subst h2
  exact len_row a h3
 |i k=>rw[cd h1];rfl
 |b=>rw[cd h1];rfl
 |s=>rw[cd h1];rfl
 |l=>rw[cd h1];rfl
 |fn=>rw[cd h1];rfl
 |cl=>rw[cd h1];rfl
 |_=>cases h1
def Cm.out {α:Type} (m:Cm α) (a:α):Prop:=match m with
 | .f=>False
 | .r y=>y=a
 | .b τ o d k=>∃x,o=some x∧k x=a
theorem out_r {α:Type} {b a:α} (h:(Cm.r b).out a):b=a:=h
theorem out_b {α:Type} {τ:Ty} {o d:Option τ.T} {k:τ.T->α} {a:α} (h:(Cm.b τ o d k).out a):∃x,o=some x∧k x=a:=h
theorem out_map {α β:Type} {g:α->β} {m:Cm α} {b:β} (h:(m.map g).out b):∃a,m.out a∧g a=b:=by
 cases m with
 |f=>exact h.elim
 |r a=>exact⟨a,rfl,h⟩
 |b τ o d k=>obtain⟨x,h1,h2⟩:=h;exact⟨k x,⟨x,h1,rfl⟩,h2⟩
theorem idx_some {α:Type} {xs:List α} {i:Int} {x:α} (h:idx xs i=some x):0<=i∧xs[i.toNat]? =some x:=by
 unfold idx at h
 split at h
 ·exact⟨by assumption,h⟩
 ·cases h
theorem cut_some {α:Type} {xs ys:List α} {lo hi:Int} (h:cut xs lo hi=some ys):(0<=lo∧lo<=hi∧hi<=(xs.length:Int))∧ys=(xs.take hi.toNat).drop lo.toNat:=by
 unfold cut at h
 split at h
 ·rename_i q;injection h with h;exact⟨q,h.symm⟩
 ·cases h
theorem apd_some {α:Type} {by_:Nat} {xs ys zs:List α} (h:apd by_ xs ys=some zs):(xs.length+ys.length)*by_<=140737488355328∧zs=xs++ys:=by
 unfold apd at h
 split at h
 ·rename_i q;injection h with h;exact⟨q,h.symm⟩
 ·cases h
theorem mkl_some {α:Type} {by_:Nat} {n k:Int} {x:α} {zs:List α} (h:mkl by_ n k x=some zs):(0<=n∧n<=k∧(by_:Int)*k<=140737488355328)∧zs=List.replicate n.toNat x:=by
 unfold mkl at h
 split at h
 ·rename_i q;injection h with h;exact⟨q,h.symm⟩
 ·cases h
theorem noUn_some {x:Option W} {w:W} (h:noUn x=some w):x=some w∧w≠ .un:=by
 unfold noUn at h
 split at h
 ·cases h
 ·rename_i hn;subst h;exact⟨rfl,fun e=>hn (by rw[e])⟩
theorem pick_ok {q:Option Nat} {ws:List W} {ds:List D} {off:Nat} {w:W} (ha:All2 (Rep2 c) ws ds) (h:pickW q ws off=some w):∃d,pick q ds off=some d∧Rep3 c w d:=by
 cases q with
 |none=>
  obtain⟨d,h1,h2⟩:=ha.get (noUn_some h).1
  exact⟨d,h1,to3 h2⟩
 |some n=>
  simp only[pickW]at h
  split at h
  ·rename_i hl
   injection h with h
   subst h
   refine⟨.agg ((ds.drop off).take n),?_,_,rfl,(ha.drop off).take n⟩
   simp only[pick]
   rw[if_pos (by rw[<-ha.length];exact hl)]
  ·cases h
theorem veq_ok:∀{z:List Value} {xs ys:List W} {as_ bs:List D} {q:Bool},zOk z xs=true->veqW xs ys=some q->All2 (Rep2 c) xs as_->All2 (Rep2 c) ys bs->veqs z as_ bs=some q
 |[],[],ys,as_,bs,q,hz,h,h1,h2=>by
  obtain rfl:=h1.nil_l
  cases ys with
  |nil=>obtain rfl:=h2.nil_l;simpa[veqW,veqs]using h
  |cons=>simp[veqW]at h
 |z::zs,x::xs,ys,as_,bs,q,hz,h,h1,h2=>by
  obtain⟨a,as2,rfl,a1,a2⟩:=h1.cons_l
  cases ys with
  |nil=>cases x<;>simp[veqW]at h
  |cons y ys=>
   obtain⟨b,bs2,rfl,b1,b2⟩:=h2.cons_l
   unfold zOk at hz
   split at hz
   ·cases ‹_=[]›
   ·rename_i k n zs' k' xv xs' e1 e2
    injection e1 with e1 e1';injection e2 with e2 e2';subst e1 e1' e2 e2'
    split at hz
    ·rename_i ek;subst ek
     unfold veqW at h
     split at h
     ·cases ‹_::_=[]›
     ·rename_i k2 y1 r1 k3 y2 r2 e3 e4
      injection e3 with e3 e3';injection e4 with e4 e4'
      injection e3 with e5 e6
      injection e5 with e5
      subst e5
      (try simp only[heq_eq_eq]at e6)
      subst e6 e3' e4 e4'
      split at h
      ·rename_i ek
       subst ek
       obtain⟨q',g1,g2⟩:=Option.map_eq_some_iff.1 h
       subst g2
       have ih:=veq_ok hz g1 a2 b2
       obtain⟨rfl,_⟩:=i_d a1.2
       obtain⟨rfl,_⟩:=i_d b1.2
       simp only[veqs,veq,ih,and_self,if_true]
      ·cases h
     ·rename_i e3 _;injection e3 with e3 _;injection e3 with e3 _;cases e3
     ·rename_i e3 _;injection e3 with e3 _;injection e3 with e3 _;cases e3
     ·cases h
    ·cases hz
   ·rename_i b0 zs' xv xs' e1 e2
    injection e1 with e1 e1';injection e2 with e2 e2';subst e1 e1' e2 e2'
    unfold veqW at h
    split at h
    ·cases ‹_::_=[]›
    ·rename_i e3 _;injection e3 with e3 _;injection e3 with e3 _;cases e3
    ·rename_i y1 r1 y2 r2 e3 e4
     injection e3 with e3 e3';injection e4 with e4 e4'
     injection e3 with e5 e6
     (try simp only[heq_eq_eq]at e6)
     subst e6 e3' e4 e4'
     obtain⟨q',g1,g2⟩:=Option.map_eq_some_iff.1 h
     subst g2
     have ih:=veq_ok hz g1 a2 b2
     obtain rfl:=b_d a1.2
     obtain rfl:=b_d b1.2
     simp only[veqs,veq,ih]
    ·rename_i e3 _;injection e3 with e3 _;injection e3 with e3 _;cases e3
    ·cases h
   ·rename_i b0 zs' xv xs' e1 e2
    injection e1 with e1 e1';injection e2 with e2 e2';subst e1 e1' e2 e2'
    unfold veqW at h
    split at h
    ·cases ‹_::_=[]›
    ·rename_i e3 _;injection e3 with e3 _;injection e3 with e3 _;cases e3
    ·rename_i e3 _;injection e3 with e3 _;injection e3 with e3 _;cases e3
    ·rename_i y1 r1 y2 r2 e3 e4
     injection e3 with e3 e3';injection e4 with e4 e4'
     injection e3 with e5 e6
     (try simp only[heq_eq_eq]at e6)
     subst e6 e3' e4 e4'
     obtain⟨q',g1,g2⟩:=Option.map_eq_some_iff.1 h
     subst g2
     have ih:=veq_ok hz g1 a2 b2
     obtain⟨rfl,_,r1⟩:=s_d a1.2
     obtain⟨rfl,_,r2⟩:=s_d b1.2
     simp only[veqs,veq,ih]
     rw[strV_eq r1 r2]
    ·cases h
   ·cases hz
 |[],x::xs,ys,as_,bs,q,hz,h,h1,h2=>by simp[zOk]at hz
 |z::zs,[],ys,as_,bs,q,hz,h,h1,h2=>by cases z<;>simp[zOk]at hz
where
 strV_eq {a b:List Int} (ha:∀q:Int,q∈a->0<=q∧q<256) (hb:∀q:Int,q∈b->0<=q∧q<256):((strV a).toList==(strV b).toList)=decide (a=b):=by
  rw[ByteArray.toList_eq,ByteArray.toList_eq]
  have e:∀{a b:List Int},(∀q:Int,q∈a->0<=q∧q<256)->(∀q:Int,q∈b->0<=q∧q<256)->a.map (fun c=>UInt8.ofNat c.toNat)=b.map (fun c=>UInt8.ofNat c.toNat)->a=b:=by
   intro a
   induction a with
   |nil=>intro b _ _ h;cases b with|nil=>rfl|cons=>cases h
   |cons x r ih=>
    intro b ha hb h
    cases b with
    |nil=>cases h
    |cons y q=>
     simp only[List.map_cons,List.cons.injEq]at h
     have hx:=ha x (by simp)
     have hy:=hb y (by simp)
     have h1:=congrArg UInt8.toNat h.1
     simp only[UInt8.toNat_ofNat']at h1
     have:x=y:=by omega
     rw[this,ih (fun q hq=>ha q (by simp[hq])) (fun q hq=>hb q (by simp[hq])) h.2]
  simp only[strV]
  by_cases h:a=b
  ·subst h;simp
  ·have:¬ a.map (fun c=>UInt8.ofNat c.toNat)=b.map (fun c=>UInt8.ofNat c.toNat):=fun q=>h (e ha hb q)
   simp[this,h]
end
end Go.Proofs.Ytfopbiiffiickaa.Ev.U
