/- Operations that write, over typed values. Conditions: none. -/
import Derived.Test.YtfopbiiffiickaaU4
set_option linter.all false
namespace Go.Proofs.Ytfopbiiffiickaa.Ev.U
open Go
section
variable {c:Cx}
theorem fam_len {B:List Bx} (h:Fam c B) (Y:List (List D)):(upd c.rg Y B).length=c.n:=by rw[upd_len,h.len]
theorem fam_at {s:SU} {e:Env} {l:Bx} {Y:List (List D)} (hc:c.ok) (hS:RepS c s e l Y) {B:List Bx} (h:Fam c B) {i:Nat} {r:Rg} {ys:List D} (hr:c.rg[i]? =some r) (hy:Y[i]? =some ys):atR r ys (upd c.rg Y B):=by
 refine upd_at hc.dj h.rg (fun i r ys a b=>(hS.ro i r ys a b).1) (fun i r ys a b d=>?_) hr hy
 obtain⟨l,cs,q1,q2,q3,q4⟩:=h.ro i r a b
 obtain⟨q5,q6⟩:=hS.ro i r ys a d
 rw[q6 b]at q5 ⊢
 exact⟨l,cs,q1,q2,by rw[q5];exact q3,by rw[q5];exact q4⟩
theorem bx_own {e:Env} {l:Bx} {o:List Bx} {n b:Nat} (h:o.length=n):bx n b ⟨e,l,o⟩=lk b l:=by unfold bx;rw[if_pos h.symm]
theorem bx_out {e:Env} {l:Bx} {o:List Bx} {f b:Nat} (h:f<o.length):bx f b ⟨e,l,o⟩=(o[f]?).bind (lk b):=by unfold bx;rw[if_neg (by simp;omega)]
theorem bx_ok {s:SU} {e:Env} {l:Bx} {Y:List (List D)} (hc:c.ok) (hS:RepS c s e l Y) {pb:PB} {ws:List W} {off:Nat} {d:D} (hb:getBx pb s=some ws) (hd:Rep0 c (.pt pb off) d):
  ∃f b o ys,d= .ptr f b (o+off)∧All2 (Rep2 c) ws ys∧∀B,Fam c B->∃cs,bx f b ⟨e,l,upd c.rg Y B⟩=some cs∧o+ys.length<=cs.length∧(cs.drop o).take ys.length=ys:=by
 cases pb with
 |own b=>
  obtain⟨-,ys,h1,h2⟩:=own_box hS hb
  refine⟨c.n,b,0,ys,by rw[Nat.zero_add];exact hd,h2,fun B hB=>⟨ys,?_,by omega,by simp⟩⟩
  rw[bx_own (fam_len hB Y),h1]
 |ext i=>
  obtain⟨r,h1,h2⟩:=hd
  obtain⟨ys,h3,h4⟩:=hS.ext.get (i:=i) hb
  refine⟨r.f,r.b,r.o,ys,h2,h4,fun B hB=>?_⟩
  obtain⟨l',cs,a1,a2,a3,a4⟩:=fam_at hc hS hB h1 h3
  refine⟨cs,?_,a3,a4⟩
  rw[bx_out (by rw[fam_len hB Y];exact hc.lt r (List.mem_of_getElem? h1)),a1]
  exact a2
theorem pick_in {q:Option Nat} {cs ys:List D} {o off:Nat} {d:D} (h:pick q ys off=some d) (h1:o+ys.length<=cs.length) (h2:(cs.drop o).take ys.length=ys):pick q cs (o+off)=some d:=by
 have e:cs.drop o=ys++(cs.drop o).drop ys.length:=by
  have:=List.take_append_drop ys.length (cs.drop o)
  rw[h2]at this
  exact this.symm
 cases q with
 |none=>
  have hl:=getq_lt h
  have:(cs.drop o)[off]? =ys[off]? :=by rw[e,List.getElem?_append_left hl]
  rw[List.getElem?_drop]at this
  exact this.trans h
 |some n=>
  simp only[pick]at h ⊢
  split at h
  ·rename_i hl
   rw[if_pos (by omega)]
   injection h with h
   subst h
   congr 2
   rw[<-List.drop_drop,e,List.drop_append_of_le_length (by omega),List.take_append_of_le_length (by simp;omega)]
  ·cases h
theorem merge1_ok {q:Bool} {a b w:W} {x y:D} (h:merge1 q a b=some w) (ha:q=true->Rep4 c a x) (hb:q=false->Rep4 c b y):Rep4 c w (if q then x else y):=by
 unfold merge1 at h
 split at h
 ·rename_i τ x' τ' y'
  obtain⟨z,h1,h2⟩:=Option.map_eq_some_iff.1 h
  obtain⟨e,h1⟩:=castT_eq h1
  subst e;subst h1;subst h2
  cases q with
  |true=>exact ha rfl
  |false=>exact hb rfl
 ·rename_i τ x'
  obtain⟨z,h1,h2⟩:=Option.map_eq_some_iff.1 h
  subst h2
  cases q with
  |true=>exact ha rfl
  |false=>obtain⟨z',hz⟩:=hb rfl;simp only[Bool.false_eq_true,if_false];rw[hz];exact nilT_ok h1
 ·rename_i τ y'
  obtain⟨z,h1,h2⟩:=Option.map_eq_some_iff.1 h
  subst h2
  cases q with
  |true=>obtain⟨z',hz⟩:=ha rfl;simp only[if_true];rw[hz];exact nilT_ok h1
  |false=>exact hb rfl
 ·injection h with h;subst h
  cases q with
  |true=>exact ha rfl
  |false=>exact hb rfl
 ·injection h with h;subst h
  cases q with
  |true=>exact ha rfl
  |false=>exact hb rfl
 ·split at h
  ·rename_i e
   injection h with h;subst h
   obtain⟨rfl,rfl⟩:=e
   cases q with
   |true=>exact ha rfl
   |false=>exact hb rfl
  ·cases h
 ·cases h
theorem mergeL_ok {q:Bool}:∀{as_ bs ws:List W},mergeL q as_ bs=some ws->(q=true->∀{xs:List D},All2 (Rep2 c) as_ xs->All2 (Rep2 c) ws xs)∧(q=false->∀{ys:List D},All2 (Rep2 c) bs ys->All2 (Rep2 c) ws ys)
 |[],[],ws,h=>by injection h with h;subst h;exact⟨fun _ _ h=>h,fun _ _ h=>h⟩
 |[],_::_,ws,h=>by cases h
 |_::_,[],ws,h=>by cases h
 |a::as_,b::bs,ws,h=>by
  simp only[mergeL]at h
  obtain⟨z,h1,h2⟩:=Option.bind_eq_some_iff.1 h
  obtain⟨zs,h3,h4⟩:=Option.map_eq_some_iff.1 h2
  subst h4
  obtain⟨i1,i2⟩:=mergeL_ok h3
  have key:∀{x:D},Rep4 c z x->(∀ws,z≠ .tp ws)->(∀ws,z≠ .ag ws)->Rep2 c z x:=fun h a b=>of3 (of4 h a) b
  have nz:(∀ws,z≠ .tp ws)∧(∀ws,z≠ .ag ws):=by
   unfold merge1 at h1
   split at h1
   ·obtain⟨_,_,q⟩:=Option.map_eq_some_iff.1 h1;subst q;exact⟨(fun _ h=>by cases h),(fun _ h=>by cases h)⟩
   ·obtain⟨_,_,q⟩:=Option.map_eq_some_iff.1 h1;subst q;exact⟨(fun _ h=>by cases h),(fun _ h=>by cases h)⟩
   ·obtain⟨_,_,q⟩:=Option.map_eq_some_iff.1 h1;subst q;exact⟨(fun _ h=>by cases h),(fun _ h=>by cases h)⟩
   ·injection h1 with q;subst q;exact⟨(fun _ h=>by cases h),(fun _ h=>by cases h)⟩
   ·injection h1 with q;subst q;exact⟨(fun _ h=>by cases h),(fun _ h=>by cases h)⟩
   ·split at h1
    ·injection h1 with q;subst q;exact⟨(fun _ h=>by cases h),(fun _ h=>by cases h)⟩
    ·cases h1
   ·cases h1
  refine⟨fun hq xs hx=>?_,fun hq xs hx=>?_⟩
  ·obtain⟨x,xs',rfl,a1,a2⟩:=hx.cons_l
   refine⟨key ?_ nz.1 nz.2,i1 hq a2⟩
   have:=merge1_ok (x:=x) (y:=x) h1 (fun _=>to4x2 a1) (fun e=>by rw[hq]at e;cases e)
   rwa[ite_self]at this
  ·obtain⟨x,xs',rfl,a1,a2⟩:=hx.cons_l
   refine⟨key ?_ nz.1 nz.2,i2 hq a2⟩
   have:=merge1_ok (x:=x) (y:=x) h1 (fun e=>by rw[hq]at e;cases e) (fun _=>to4x2 a1)
   rwa[ite_self]at this
theorem mergeW_ok {q:Bool} {a b w:W} {x y:D} (h:mergeW q a b=some w) (ha:q=true->Rep4 c a x) (hb:q=false->Rep4 c b y):Rep4 c w (if q then x else y):=by
 unfold mergeW at h
 split at h
 ·obtain⟨ws,h1,h2⟩:=Option.map_eq_some_iff.1 h
  subst h2
  obtain⟨i1,i2⟩:=mergeL_ok (c:=c) h1
  cases q with
  |true=>obtain⟨cs,rfl,h3⟩:=ha rfl;exact⟨cs,rfl,i1 rfl h3⟩
  |false=>obtain⟨cs,rfl,h3⟩:=hb rfl;exact⟨cs,rfl,i2 rfl h3⟩
 ·exact merge1_ok h ha hb
theorem nzO_ok {x:Opd} {e:Env} {k:IntKind} {n:Int} (h:nzO x=true) (hx:rdE e x= .v (.int k n)):n≠0:=by
 unfold nzO at h
 split at h
 ·rename_i k' m
  injection hx with hx
  injection hx with h1 h2
  rw[<-h2]
  intro e;cases e
 ·rename_i k' m
  injection hx with hx
  injection hx with h1 h2
  rw[<-h2]
  intro e;cases e
 ·cases h
theorem nnO_ok {x:Opd} {e:Env} {k:IntKind} {n:Int} (h:nnO x=true) (hx:rdE e x= .v (.int k n)):0<=n:=by
 unfold nnO at h
 split at h
 ·rename_i k' m
  injection hx with hx
  injection hx with h1 h2
  rw[<-h2]
  exact Int.natCast_nonneg m
 ·cases h
theorem u_i {k:IntKind} {n:Int} (h:inK k n=true):Rep4 c (.u (.i k) n) (.v (.int k n)):=⟨rfl,rfl,h⟩
theorem u_b {q:Bool}:Rep4 c (.u .b q) (.v (.bool q)):=⟨rfl,rfl⟩
theorem bin_ok {op:Bop} {nz:Bool} {k:IntKind} {x y:Int} {w:W} (hx:inK k x=true) (hy:inK k y=true) (hz:nz=true->y≠0) (h:(binW op nz k x y).out w):∃v,bz op k x y=some v∧Rep4 c w (.v v):=by
 cases op with
 |add=>obtain rfl:=out_r h;exact⟨_,rfl,u_i (wrap_in _ _)⟩
 |sub=>obtain rfl:=out_r h;exact⟨_,rfl,u_i (wrap_in _ _)⟩
 |mul=>obtain rfl:=out_r h;exact⟨_,rfl,u_i (wrap_in _ _)⟩
 |and=>obtain rfl:=out_r h;exact⟨_,rfl,u_i (wrap_in _ _)⟩
 |or=>obtain rfl:=out_r h;exact⟨_,rfl,u_i (wrap_in _ _)⟩
 |xor=>obtain rfl:=out_r h;exact⟨_,rfl,u_i (wrap_in _ _)⟩
 |andNot=>obtain rfl:=out_r h;exact⟨_,rfl,u_i (wrap_in _ _)⟩
 |eql=>obtain rfl:=out_r h;exact⟨_,rfl,u_b⟩
 |neq=>obtain rfl:=out_r h;exact⟨_,rfl,u_b⟩
 |lss=>obtain rfl:=out_r h;exact⟨_,rfl,u_b⟩
 |leq=>obtain rfl:=out_r h;exact⟨_,rfl,u_b⟩
 |gtr=>obtain rfl:=out_r h;exact⟨_,rfl,u_b⟩
 |geq=>obtain rfl:=out_r h;exact⟨_,rfl,u_b⟩
 |quo=>
  cases hn:nz with
  |true=>
   rw[hn]at h
   obtain rfl:=out_r h
   exact⟨_,if_neg (hz hn),u_i (wrap_in _ _)⟩
  |false=>
   rw[hn]at h
   obtain⟨z,h1,rfl⟩:=out_b h
   unfold quo at h1
   split at h1
   ·cases h1
   ·rename_i q;injection h1 with h1;subst h1;exact⟨_,if_neg q,u_i (wrap_in _ _)⟩
 |rem=>
  cases hn:nz with
  |true=>
   rw[hn]at h
   obtain rfl:=out_r h
   exact⟨_,if_neg (hz hn),u_i (tmod_in hx)⟩
  |false=>
   rw[hn]at h
   obtain⟨z,h1,rfl⟩:=out_b h
   unfold rem at h1
   split at h1
   ·cases h1
   ·rename_i q;injection h1 with h1;subst h1;exact⟨_,if_neg q,u_i (tmod_in hx)⟩
 |shl=>exact h.elim
 |shr=>exact h.elim
theorem sh_ok {op:Bop} {nn:Bool} {k:IntKind} {x y:Int} {w:W} (hx:inK k x=true) (hn:nn=true->0<=y) (h:(shW op nn k x y).out w):∃v,bsh op k x y=some v∧Rep4 c w (.v v):=by
 have go:∀{v:Int},inK k v=true->((bif nn then Cm.r (W.u (.i k) v)else Cm.b (.i k) (if y<0 then none else some v) (some (0:Int)) fun z=>.u (.i k) z:Cm W)).out w->0<=y∧w= .u (.i k) v:=by
  intro v hv h
  cases hq:nn with
  |true=>rw[hq]at h;obtain rfl:=out_r h;exact⟨hn hq,rfl⟩
  |false=>
   rw[hq]at h
   obtain⟨z,h1,rfl⟩:=out_b h
   split at h1
   ·cases h1
   ·rename_i q;injection h1 with h1;subst h1;exact⟨by omega,rfl⟩
 have p2:∀m:Nat,(1:Int)<=2^m:=fun m=>by
  have:(1:Nat)<=2^m:=Nat.one_le_two_pow
  have h2:((2^m:Nat):Int)=(2:Int)^m:=by simp
  omega
 cases op with
 |shl=>
  obtain⟨h1,rfl⟩:=go (wrap_in _ _) h
  exact⟨_,if_neg (by omega),u_i (wrap_in _ _)⟩
 |shr=>
  obtain⟨h1,rfl⟩:=go (fdiv_in hx (p2 _)) h
  exact⟨_,if_neg (by omega),u_i (fdiv_in hx (p2 _))⟩
 |_=>exact h.elim
theorem mm_ok {mx:Bool} {k:IntKind} {e:Env} {l:Bx} {o:List Bx} {p:Path} {s:SU} {Y:List (List D)} (hS:RepS c s e l Y) (hp:act p e):∀{xs:List Opd} {a v:Int},inK k a=true->mmW mx k a (rdsW p s xs)=some v->mnm mx k a ⟨e,l,o⟩ xs=some v∧inK k v=true
 |[],a,v,ha,h=>by injection h with h;subst h;exact⟨rfl,ha⟩
 |x::r,a,v,ha,h=>by
  have hx:=rdW_ok hS hp x
  simp only[rdsW]at h
  unfold mmW at h
  split at h
  ·rename_i h1;cases h1
  ·rename_i k' y r' h1
   injection h1 with h1 h2
   subst h2
   rw[h1]at hx
   obtain⟨hy,hyk⟩:=i_d hx.2
   split at h
   ·rename_i e;subst e
    simp only[mnm,rd_fst,hy]
    refine mm_ok hS hp ?_ h
    cases mx<;>simp only[Bool.false_eq_true,if_true,if_false]<;>split<;>assumption
   ·cases h
  ·cases h
theorem allT_ok {t:Ty}:∀{ws:List W} {xs:List t.T} {ds:List D},allT t ws=some xs->All2 (Rep4 c) ws ds->(ws≠[]->t.val=true)∧All2 (fun x d=>RepL c.P t c.F x [d]) xs ds
 |[],xs,ds,h,ha=>by injection h with h;subst h;obtain rfl:=ha.nil_l;exact⟨fun q=>absurd rfl q,trivial⟩
 |w::ws,xs,ds,h,ha=>by
  obtain⟨d,q,rfl,a1,a2⟩:=ha.cons_l
  simp only[allT]at h
  obtain⟨y,h1,h2⟩:=Option.bind_eq_some_iff.1 h
  obtain⟨z,h3,h4⟩:=Option.map_eq_some_iff.1 h2
  subst h4
  obtain⟨b1,b2⟩:=valT_ok h1 a1
  exact⟨fun _=>b1,b2,(allT_ok h3 a2).2⟩
theorem elOk_rf {τ:Ty} {x:τ.T} {P:Caller} {F:List Fx} {d:D} (h:RepL P τ F x [d]) (hk:elOk τ=true):d.rf1=true∧d.cells=[d]:=by
 cases τ with
 |i k=>obtain⟨rfl,_⟩:=i_d h;exact⟨rfl,rfl⟩
 |b=>obtain rfl:=b_d h;exact⟨rfl,rfl⟩
 |s=>obtain⟨rfl,_⟩:=s_d h;exact⟨rfl,rfl⟩
 |l m t=>
  obtain⟨hl,es,h1,h2⟩:=l_d h
  cases m with
  |ro=>rcases h2 with rfl|⟨_,z,rfl⟩<;>exact⟨rfl,rfl⟩
  |_=>cases hk
 |_=>cases hk
theorem rowOk_rf:∀{r:Ty} {x:r.T} {P:Caller} {F:List Fx} {ds:List D},r.rowk=true->RepL P r F x ds->rowOk r=true->ds.all D.rf1=true:=by
 intro r
 have base:∀{r:Ty} {x:r.T} {P:Caller} {F:List Fx} {ds:List D},r.one=true->RepL P r F x ds->elOk r=true->ds.all D.rf1=true:=by
  intro r x P F ds h1 h hk
  obtain⟨d,rfl⟩:=one_sing h1 h
  simp[(elOk_rf h hk).1]
 induction r with
 |p a r iha ihr=>
  intro x P F ds h1 h hk
  obtain⟨⟨q1,q2⟩,d,q,rfl,h3,h4⟩:=h
  simp only[rowOk,Bool.and_eq_true]at hk
  simp only[List.all_cons,(elOk_rf h3 hk.1).1,ihr q2 h4 hk.2,Bool.and_self]
 |_=>intro x P F ds h1 h hk;exact base (by exact h1) h (by exact hk)
theorem eleOk_rf {t:Ty} {x:t.T} {P:Caller} {F:List Fx} {d:D} (hv:t.val=true) (h:RepL P t F x [d]) (hk:eleOk t=true):d.cells.all D.rf1=true:=by
 cases t with
 |g r=>
  obtain⟨a,cs,h2,h3⟩:=h
  injection h2 with h2
  subst h2
  exact rowOk_rf a h3 hk
 |i k=>rw[(elOk_rf h hk).2];simp[(elOk_rf h hk).1]
 |b=>rw[(elOk_rf h hk).2];simp[(elOk_rf h hk).1]
 |s=>rw[(elOk_rf h hk).2];simp[(elOk_rf h hk).1]
 |l=>rw[(elOk_rf h hk).2];simp[(elOk_rf h hk).1]
 |fn=>cases hk
 |cl=>cases hk
 |_=>cases hv
theorem flat_at {z:Nat}:∀{es:List D},(∀e∈es,e.cells.length=z)->∀{i:Nat} {e:D},es[i]? =some e->i*z+z<=(es.flatMap D.cells).length∧((es.flatMap D.cells).drop (i*z)).take z=e.cells
 |[],_,i,e,h=>by simp at h
 |a::es,hz,0,e,h=>by
  simp only[List.getElem?_cons_zero]at h
  injection h with h
  subst h
  have:=hz a (by simp)
  rw[List.flatMap_cons,Nat.zero_mul,List.drop_zero,List.length_append]
  exact⟨by omega,by rw[<-this];simp⟩
 |a::es,hz,i+1,e,h=>by
  have ha:=hz a (by simp)
  obtain⟨h1,h2⟩:=flat_at (es:=es) (z:=z) (fun e he=>hz e (List.mem_cons_of_mem _ he)) (i:=i) (e:=e) (by simpa using h)
  rw[List.flatMap_cons,List.length_append,ha,Nat.add_mul,Nat.one_mul]
  refine⟨by omega,?_⟩
  rw[Nat.add_comm (i*z) z,<-List.drop_drop,List.drop_append_of_le_length (by omega),<-ha,List.drop_length,List.nil_append,ha]
  exact h2
theorem flat_set {z:Nat}:∀{es:List D},(∀e∈es,e.cells.length=z)->∀{i:Nat} {e e':D},es[i]? =some e->e'.cells.length=z->(es.set i e').flatMap D.cells=over (es.flatMap D.cells) (i*z) e'.cells
 |[],_,i,e,e',h,_=>by simp at h
 |a::es,hz,0,e,e',h,h'=>by
  have:=hz a (by simp)
  simp only[List.set_cons_zero,List.flatMap_cons,over,Nat.zero_mul,List.take_zero,List.nil_append,Nat.zero_add,h',List.drop_append_of_le_length (show z<=a.cells.length by omega)]
  rw[<-this,List.drop_length,List.nil_append]
 |a::es,hz,i+1,e,e',h,h'=>by
  have ha:=hz a (by simp)
  have ih:=flat_set (es:=es) (z:=z) (fun e he=>hz e (List.mem_cons_of_mem _ he)) (i:=i) (e:=e) (e':=e') (by simpa using h) h'
  simp only[List.set_cons_succ,List.flatMap_cons,ih,over,h']
  have e1:(i+1)*z=a.cells.length+i*z:=by rw[ha,Nat.add_mul,Nat.one_mul,Nat.add_comm]
  have e2:a.cells.length+i*z+z=a.cells.length+(i*z+z):=by omega
  rw[e1,e2,List.take_length_add_append,List.drop_length_add_append]
  simp only[List.append_assoc]
theorem lb_at {s:SU} {e:Env} {l:Bx} {Y:List (List D)} (hS:RepS c s e l Y) {b:Nat} {τ:Ty} {m:Int} {xs:List τ.T} (h:lkW b s.l=some [.lb τ m xs]) {i:Int} {x:τ.T} (hx:idx xs i=some x):
  ∃es d,(eleOk τ=true∧τ.val=true)∧mkOk τ=true∧(xs.length:Int)=m∧xs.length<=maxLn∧All2 (fun y e=>RepL c.P τ c.F y [e]) xs es∧lk b l=some (es.flatMap D.cells)∧es[i.toNat]? =some d∧RepL c.P τ c.F x [d]∧0<=i:=by
 obtain⟨h1,h6,h2,h3,es,h4,h5⟩:=(show BRep c [.lb τ m xs] (lk b l)from hS.box b _ h)
 obtain⟨i1,i2⟩:=idx_some hx
 obtain⟨d,e1,e2⟩:=h4.get i2
 refine⟨es,d,h1,h6,h2,h3,h4,?_,e1,e2,i1⟩
 rcases h5 with h5|⟨rfl,_⟩
 ·exact h5
 ·simp at e1
theorem els_len {τ:Ty} {xs:List τ.T} {es:List D} (hv:τ.val=true) (h:All2 (fun y e=>RepL c.P τ c.F y [e]) xs es):∀e∈es,e.cells.length=csz τ:=fun e he=>by
 obtain⟨i,hi⟩:=List.getElem?_of_mem he
 have hl:=h.length
 obtain⟨x,hx⟩:∃x,xs[i]? =some x:=by
  have:=getq_lt hi
  exact⟨xs[i]'(by omega),List.getElem?_eq_getElem (by omega)⟩
 obtain⟨e',e1,e2⟩:=h.get hx
 rw[hi]at e1
 injection e1 with e1
 subst e1
 exact el_len hv e2
theorem mu_cast {a b:Ty} {xs:List a.T} {ys:List b.T} (h:castT (.l .mu a) (.l .mu b) xs=some ys):∃e:a=b,e▸xs=ys:=by
 obtain⟨e,h1⟩:=castT_eq h
 have e':a=b:=by injection e
 subst e'
 exact⟨rfl,h1⟩
theorem elT_ok {τ:Ty} {ws:List W} {x:τ.T} {ds:List D} (h:elT τ ws=some x) (ha:All2 (Rep2 c) ws ds) (hk:eleOk τ=true):∃d,RepL c.P τ c.F x [d]∧d.cells=ds:=by
 have one:∀{τ:Ty} {x:τ.T},(∀{w},ws=[w]->oneT τ w=some x)->(∃w,ws=[w])->elOk τ=true->∃d,RepL c.P τ c.F x [d]∧d.cells=ds:=by
  intro τ x h hw hk
  obtain⟨w,rfl⟩:=hw
  obtain⟨d,q,rfl,h2,h3⟩:=ha.cons_l
  have:=h3.nil_l
  subst this
  have h4:=(oneT_ok (h rfl) (to4x2 h2)).2
  exact⟨d,h4,(elOk_rf h4 hk).2⟩
 cases τ with
 |g r=>
  obtain⟨h1,h2⟩:=rowT_ok h ha
  exact⟨.agg ds,⟨h1,ds,rfl,h2⟩,rfl⟩
 |i k=>
  match ws,h with
  |[w],h=>exact one (fun{w'} e=>by injection e with e;subst e;exact h) ⟨w,rfl⟩ hk
 |b=>
  match ws,h with
  |[w],h=>exact one (fun{w'} e=>by injection e with e;subst e;exact h) ⟨w,rfl⟩ hk
 |s=>
  match ws,h with
  |[w],h=>exact one (fun{w'} e=>by injection e with e;subst e;exact h) ⟨w,rfl⟩ hk
 |l m t=>
  match ws,h with
  |[w],h=>exact one (fun{w'} e=>by injection e with e;subst e;exact h) ⟨w,rfl⟩ hk
 |_=>cases hk
theorem lay_ok (hc:c.ok) {e:Env} {l:Bx} {o:List Bx} {p:Path} {s:SU} {Y:List (List D)} (hS:RepS c s e l Y) (hp:act p e):∀{ps:List (Nat×Nat×Opd)} {ws ws':List W} {ds:List D},layW p s ws ps=some ws'->All2 (Rep2 c) ws ds->∃ds',lay ⟨e,l,o⟩ ds ps=some ds'∧All2 (Rep2 c) ws' ds'
 |[],ws,ws',ds,h,ha=>by injection h with h;subst h;exact⟨ds,rfl,ha⟩
 |(off,sz,x)::r,ws,ws',ds,h,ha=>by
  have hx:=rdW_ok hS hp x
  simp only[layW]at h
  split at h
  ·rename_i hq
   obtain⟨q1,q2,q3⟩:=hq
   simp only[lay,rd_fst]
   have hcs:All2 (Rep2 c) (rdW p x s).1.cells (rdE e x).cells:=by
    generalize(rdW p x s).1=w at hx q3
    generalize rdE e x=d at hx
    cases w with
    |ag cs=>obtain⟨q,rfl,h2⟩:=hx;exact h2
    |tp=>simp[W.cells,W.sto]at q3
    |un=>simp[W.cells,W.sto]at q3
    |gd=>simp[W.cells,W.sto]at q3
    |_=>
     have hx2:=of3 (of4 hx (fun _ q=>by cases q)) (fun _ q=>by cases q)
     simp only[W.cells,List.all_cons,List.all_nil,Bool.and_true,Bool.and_eq_true]at q3
     have:=sto_ok hc hx2 q3.1
     rw[this.2.2.1]
     exact⟨hx2,trivial⟩
   have hall:(rdE e x).cells.all D.sto1=true∧(rdE e x).cells.all (fun d=>d.strip1.sto1)=true:=by
    refine⟨All2.all_r (fun w d hm hr=>?_) hcs,All2.all_r (fun w d hm hr=>?_) hcs⟩
    ·have:=List.all_eq_true.1 q3 w hm
     simp only[Bool.and_eq_true]at this
     exact(sto_ok hc hr this.1).2.1
    ·have:=List.all_eq_true.1 q3 w hm
     simp only[Bool.and_eq_true]at this
     exact(sto_ok hc (strip1_ok hr) this.2).2.1
   have hlen:=hcs.length
   have hl2:=ha.length
   rw[if_pos ⟨by omega,by omega,hall⟩]
   refine lay_ok hc hS hp h ?_
   have hm:All2 (Rep2 c) ((rdW p x s).1.cells.map W.strip1) ((rdE e x).cells.map D.strip1):=hcs.map fun _ _ _ q=>strip1_ok q
   unfold overW over
   refine((ha.take off).app hm).app ?_
   have:=hm.length
   rw[this]
   exact ha.drop _
  ·cases h
theorem liO_ok {e:Env} {l:Bx} {o:List Bx} {p:Path} {s:SU} {Y:List (List D)} (hS:RepS c s e l Y) (hp:act p e) {d n:Int} {x:Option Opd} (h:liO p s d x=some n):optI ⟨e,l,o⟩ d x=some n:=by
 cases x with
 |none=>exact h
 |some x=>
  have hx:=rdW_ok hS hp x
  simp only[liO]at h
  split at h
  ·rename_i k m hm
   rw[hm]at hx
   injection h with h
   subst h
   simp only[optI,rd_fst,(i_d hx.2).1]
  ·cases h
theorem zEl_ok {a:Ty} {ze:D} {q:a.T} (h:zElT a ze=some q):a.val=true∧RepL c.P a c.F q [ze]:=by
 unfold zElT at h
 split at h
 ·rename_i ds
  refine valT_ok (c:=c) h ⟨ds,rfl,?_⟩
  clear h
  induction ds with
  |nil=>trivial
  |cons d r ih=>
   refine⟨?_,ih⟩
   cases d with
   |v x=>exact cV_ok x
   |sl m z xs=>
    cases m<;>first|exact(trivial:Rep2 c .un _)|skip
    cases xs with
    |nil=>exact⟨z,rfl⟩
    |cons=>exact(trivial:Rep2 c .un _)
   |_=>exact(trivial:Rep2 c .un _)
 ·rename_i x;exact valT_ok (c:=c) h (to4x2 (cV_ok x))
 ·rename_i z;exact valT_ok (c:=c) (w:=.nil) h ⟨z,rfl⟩
 ·cases h
where
 cV_ok (v:Value):Rep2 c (cV v) (.v v):=by
  by_cases hv:∃a n k,v= .slice a n k
  ·obtain⟨a,n,k,rfl⟩:=hv;exact trivial
  ·have:cV v=cW v:=by
    cases v with
    |slice a n k=>exact absurd ⟨a,n,k,rfl⟩ hv
    |_=>rfl
   rw[this]
   exact cW_ok' v fun e=>hv ⟨none,0,0,e⟩
theorem chunks_flat {z:Nat}:∀{es:List D},(∀e∈es,e.cells.length=z∧mkEl e.cells=e)->chunks z es.length (es.flatMap D.cells)=es
 |[],_=>rfl
 |a::es,h=>by
  obtain⟨h1,h2⟩:=h a (by simp)
  have ih:=chunks_flat fun e he=>h e (List.mem_cons_of_mem _ he)
  simp only[List.length_cons,chunks,List.flatMap_cons]
  rw[<-h1,List.take_left',List.drop_left',h1,ih,h2]<;>rfl
theorem els_rf {τ:Ty} {xs:List τ.T} {es:List D} (hv:τ.val=true) (hk:eleOk τ=true) (h:All2 (fun y e=>RepL c.P τ c.F y [e]) xs es):es.all (fun d=>d.cells.all D.rf1)=true:=
 All2.all_r (fun x e _ q=>eleOk_rf hv q hk) h
theorem els_mk {τ:Ty} {xs:List τ.T} {es:List D} (hv:τ.val=true) (hk:eleOk τ=true) (hm:mkOk τ=true) (h:All2 (fun y e=>RepL c.P τ c.F y [e]) xs es):∀e∈es,e.cells.length=csz τ∧mkEl e.cells=e:=fun e he=>by
 refine⟨els_len hv h e he,?_⟩
 obtain⟨i,hi⟩:=List.getElem?_of_mem he
 have hl:=h.length
 obtain⟨x,hx⟩:∃x,xs[i]? =some x:=by
  have:=getq_lt hi
  exact⟨xs[i]'(by omega),List.getElem?_eq_getElem (by omega)⟩
 obtain⟨e',e1,e2⟩:=h.get hx
 rw[hi]at e1
 injection e1 with e1
 subst e1
 have hlen:=els_len hv h e he
 cases τ with
 |g r=>
  obtain⟨h1,cs,h2,h3⟩:=e2
  injection h2 with h2
  subst h2
  have h4:cs.length=rowLen r:=hlen
  have h5:rowLen r≠1:=fun q=>by simp[mkOk,q]at hm
  match cs,h4 with
  |[],_=>rfl
  |[d],h4=>exact absurd h4.symm h5
  |d::d'::q,_=>rfl
 |i k=>rw[(elOk_rf e2 hk).2];rfl
 |b=>rw[(elOk_rf e2 hk).2];rfl
 |s=>rw[(elOk_rf e2 hk).2];rfl
 |l m t=>rw[(elOk_rf e2 hk).2];rfl
 |_=>cases hk
end
end Go.Proofs.Ytfopbiiffiickaa.Ev.U
namespace Go.Proofs.Ytfopbiiffiickaa.Ev.U
open Go
def gOp:Op->Bool
 | .mv x=>x.ot
 | .ext x _=>x.ot
 | .pk _ _ _| .ld _ _| .bin _ _ _| .no _| .un _ _| .fa _ _| .ia _ _ _| .len _| .lns _| .slc _ _ _ _| .eqn _ _| .eqs _ _ _| .eqb _ _ _| .eqa _ _ _ _| .sh _ _ _| .ci _ _| .mm _ _ _| .nck _| .bst _| .bs _ _ _| .mk _ _ _ _ _ _| .bd _ _| .mf _ _=>true
 |_=>false
section
variable {c:Cx}
def GR (c:Cx) (e:Env) (l:Bx) (Y:List (List D)) (t:Option Nat) (op:Op) (w:W):Prop:=∃d,Rep4 c w d∧∀B,Fam c B->evOp c.P t op ⟨e,l,upd c.rg Y B⟩=some (d,⟨e,l,upd c.rg Y B⟩)
variable {e:Env} {l:Bx} {Y:List (List D)} {t:Option Nat} {s:SU}
theorem gr {op:Op} {w:W} {d:D} (h:Rep4 c w d) (h2:∀o,evOp c.P t op ⟨e,l,o⟩=some (d,⟨e,l,o⟩)):GR c e l Y t op w:=⟨d,h,fun B _=>h2 _⟩
theorem act_cons {p:Path} {n:Nat} {w:Bool} (h:act p e) (hn:get n e= .v (.bool w)):act ((n,w)::p) e:=fun x hx=>by
 rcases List.mem_cons.1 hx with rfl|hx
 ·exact hn
 ·exact h x hx
theorem flat_cells_l {m:Mode} {t:Ty} {xs:List t.T} {d:D} (h:Rep4 c (.u (.l m t) xs) d):xs.length<=maxLn∧∃es,All2 (fun y e=>RepL c.P t c.F y [e]) xs es∧(d= .sl m (csz t) es∨(es=[]∧∃z,d= .sl .nl z [])):=l_d h.2
theorem mk_len {b:Nat} {n k:Int} (h:0<b) (h1:0<=n) (h2:n<=k) (h3:(b:Int)*k<=140737488355328):n.toNat<=maxLn:=by
 have h4:k<=(b:Int)*k:=by
  have:=Int.mul_le_mul_of_nonneg_right (show(1:Int)<=(b:Int) by omega) (show 0<=k by omega)
  omega
 unfold maxLn
 omega
theorem chkI_ok {lo:Option Int} {n m:Int} {v:Unit} (l0:0<=lo.getD 0) (h:chkI n m=some v):0<=n∧m≠0∧n<(m.toNat:Int)∧0<=plusO lo n∧(plusO lo n).toNat=(lo.getD 0).toNat+n.toNat:=by
 unfold chkI at h
 split at h
 ·rename_i hb
  cases lo with
  |none=>exact⟨hb.1,by omega,by omega,hb.1,by simp[plusO]⟩
  |some q=>
   have:0<=q:=l0
   simp only[plusO,Option.getD_some]
   omega
 ·cases h
theorem u8s_of {P:Caller} {F:List Fx}:∀{xs:List Int} {es:List D},All2 (fun(y:Int) e=>RepL P (.i .u8) F y [e]) xs es->u8s es=some (xs.map fun c=>UInt8.ofNat c.toNat)∧∀c∈xs,0<=c∧c<256
 |[],[],_=>⟨rfl,fun c h=>by cases h⟩
 |x::xs,e::es,h=>by
  obtain⟨h1,h2⟩:=h
  obtain⟨rfl,hin⟩:=i_d h1
  obtain⟨q1,q2⟩:=u8s_of h2
  have hx:0<=x∧x<256:=by
   simp only[inK,decide_eq_true_eq]at hin
   omega
  refine⟨by simp only[u8s,q1];rfl,fun c hc=>?_⟩
  rcases List.mem_cons.1 hc with rfl|hc
  ·exact hx
  ·exact q2 c hc
 |[],_::_,h=>h.elim
 |_::_,[],h=>h.elim
theorem opG (hc:c.ok) (hS:RepS c s e l Y) {T:Tab} {p:Path} (hp:act p e) {a:Ty} {op:Op} (hg:gOp op=true) {w:W} {s':SU} (h:(evOpW T p t a op s).out (some (w,s'))):s'=s∧GR c e l Y t op w:=by
 cases op with
 |mv x=>
  have hx:=rdW_ok hS hp x
  have h:=out_r h
  injection h with h
  have e1:(rdW p x s).1=w:=congrArg Prod.fst h
  have e2:(rdW p x s).2=s':=congrArg Prod.snd h
  rw[rdW_ot hg]at e2
  rw[e1]at hx
  exact⟨e2.symm,gr hx fun o=>by simp only[evOp];exact congrArg some (Prod.ext (rd_fst x e l o) ((rd_snd x e l o).trans (by rw[rdN_ot hg])))⟩
 |pk cc x y=>
  simp only[evOpW]at h
  split at h
  ·rename_i q hq
   have hcq:=rdW_ok hS hp cc
   rw[hq]at hcq
   have hcd:rdE e cc= .v (.bool q):=b_d hcq.2
   split at h
   ·rename_i w' hot hm
    have h:=out_r h
    injection h with h
    injection h with h1 h2
    subst h1 h2
    simp only[Bool.and_eq_true]at hot
    have key:∀b:Bool,q=b->act (match(match cc with| .t n=>some n|_=>none)with|some n=>(n,b)::p|none=>p) e:=by
     intro b hb
     subst hb
     split
     ·rename_i n hn
      split at hn
      ·rename_i n'
       injection hn with hn
       subst hn
       refine act_cons hp ?_
       have:(get n' e).strip= .v (.bool q):=hcd
       cases hv:get n' e with
       |v z=>rw[hv]at this;exact this
       |sl m z xs=>rw[hv]at this;cases m<;>cases this
       |agg cs=>rw[hv]at this;cases this
       |tup ds=>rw[hv]at this;cases this
       |_=>rw[hv]at this;cases this
      ·cases hn
     ·exact hp
    have:=mergeW_ok (c:=c) (x:=rdE e x) (y:=rdE e y) hm (fun hb=>rdW_ok hS (key true hb) x) (fun hb=>rdW_ok hS (key false hb) y)
    refine⟨rfl,gr this fun o=>?_⟩
    simp only[evOp,rd_fst,hcd]
    cases q with
    |true=>exact congrArg some (Prod.ext (rd_fst x e l o) ((rd_snd x e l o).trans (by rw[rdN_ot hot.1])))
    |false=>exact congrArg some (Prod.ext (rd_fst y e l o) ((rd_snd y e l o).trans (by rw[rdN_ot hot.2])))
   ·exact h.elim
  ·exact h.elim
 |ld q x=>
  have hx:=rdW_ok hS hp x
  simp only[evOpW]at h
  split at h
  ·rename_i pb off hq
   rw[hq]at hx
   split at h
   ·rename_i w' hb
    have h:=out_r h
    injection h with h
    injection h with h1 h2
    subst h1 h2
    obtain⟨ws,g1,g2⟩:=Option.bind_eq_some_iff.1 hb
    obtain⟨f,b,o,ys,d1,d2,d3⟩:=bx_ok hc hS g1 hx
    obtain⟨d,p1,p2⟩:=pick_ok d2 g2
    refine⟨rfl,d.strip,strip_ok (to4 p2),fun B hB=>?_⟩
    obtain⟨cs,b1,b2,b3⟩:=d3 B hB
    simp only[evOp,rd_fst,d1,b1,pick_in p1 b2 b3,Option.map_some]
   ·exact h.elim
  ·rename_i ws off hq
   rw[hq]at hx
   split at h
   ·rename_i w' hb
    have h:=out_r h
    injection h with h
    injection h with h1 h2
    subst h1 h2
    obtain⟨cs,hd,ha⟩:=hx
    obtain⟨d,p1,p2⟩:=pick_ok (c:=c) (ha.mono fun _ _ _ q=>to2 (to1 q)) hb
    exact⟨rfl,gr (to4 p2) fun o=>by simp only[evOp,rd_fst,hd,p1,Option.map_some]⟩
   ·exact h.elim
  ·rename_i b τ i off hq
   rw[hq]at hx
   split at h
   ·rename_i τ' m' xs0 hb
    split at h
    ·rename_i xs hcast
     obtain⟨v,o1,o2⟩:=out_b h
     obtain⟨e1,e2⟩:=mu_cast hcast
     subst e1
     subst e2
     obtain⟨w0,p1,p2⟩:=Option.map_eq_some_iff.1 o2
     injection p2 with p2 p3
     subst p2 p3
     obtain⟨es,d,k1,_,_,_,ha,hl,hd,hr,hi⟩:=lb_at hS hb o1
     obtain⟨f1,f2⟩:=flat_at (els_len k1.2 ha) hd
     obtain⟨d',g1,g2⟩:=pick_ok (c:=c) ((elW_ok k1.2 hr).mono fun _ _ _ q=>to2 (to1 q)) p1
     have hz:=el_len k1.2 hr
     have hp1:=pick_in g1 (o:=i.toNat*csz τ') (cs:=es.flatMap D.cells) (by rw[hz];exact f1) (by rw[hz];exact f2)
     refine⟨rfl,d'.strip,strip_ok (to4 g2),fun B hB=>?_⟩
     simp only[evOp,rd_fst,hx.2,bx_own (fam_len hB Y),hl,hp1,Option.map_some]
    ·exact h.elim
   ·exact h.elim
  ·exact h.elim
 |bin o x y=>
  have hx:=rdW_ok hS hp x
  have hy:=rdW_ok hS hp y
  simp only[evOpW]at h
  split at h
  ·rename_i k m k' n h1 h2
   rw[h1]at hx;rw[h2]at hy
   obtain⟨dx,kx⟩:=i_d hx.2
   obtain⟨dy,ky⟩:=i_d hy.2
   split at h
   ·rename_i ek
    subst ek
    obtain⟨w',o1,o2⟩:=out_map h
    injection o2 with o2
    injection o2 with o3 o4
    subst o3 o4
    obtain⟨v,v1,v2⟩:=bin_ok (c:=c) kx ky (fun hz=>nzO_ok hz dy) o1
    exact⟨rfl,gr v2 fun o=>by simp only[evOp,rd_fst,dx,dy,if_true,v1,Option.map_some]⟩
   ·exact h.elim
  ·exact h.elim
 |no x=>
  have hx:=rdW_ok hS hp x
  simp only[evOpW]at h
  split at h
  ·rename_i q h1
   rw[h1]at hx
   have h:=out_r h
   injection h with h
   injection h with h2 h3
   subst h2 h3
   exact⟨rfl,gr u_b fun o=>by simp only[evOp,rd_fst,b_d hx.2]⟩
  ·exact h.elim
 |un xr x=>
  have hx:=rdW_ok hS hp x
  simp only[evOpW]at h
  split at h
  ·rename_i k n h1
   rw[h1]at hx
   obtain⟨dx,kx⟩:=i_d hx.2
   have h:=out_r h
   injection h with h
   injection h with h2 h3
   subst h2 h3
   refine⟨rfl,gr (d:=.v (.int k (if xr then xorI k (if k.signed then -1 else k.max) n else k.wrap (0-n)))) (u_i ?_) fun o=>?_⟩
   ·cases xr
    ·exact wrap_in _ _
    ·exact wrap_in _ _
   ·cases xr<;>simp only[evOp,rd_fst,dx]<;>rfl
  ·exact h.elim
 |fa x off=>
  have hx:=rdW_ok hS hp x
  simp only[evOpW]at h
  split at h
  ·rename_i b o h1
   rw[h1]at hx
   have h:=out_r h
   injection h with h
   injection h with h2 h3
   subst h2 h3
   cases b with
   |own b=>exact⟨rfl,gr (d:=.ptr c.n b (o+off)) rfl fun o'=>by simp only[evOp,rd_fst,show rdE e x= .ptr c.n b o from hx]⟩
   |ext i=>
    obtain⟨r,g1,g2⟩:=hx
    refine⟨rfl,gr (d:=.ptr r.f r.b (r.o+(o+off))) ⟨r,g1,rfl⟩ fun o'=>?_⟩
    simp only[evOp,rd_fst,g2,Nat.add_assoc]
  ·rename_i ws o h1
   rw[h1]at hx
   have h:=out_r h
   injection h with h
   injection h with h2 h3
   subst h2 h3
   obtain⟨cs,hd,ha⟩:=hx
   exact⟨rfl,gr (d:=.fptr cs (o+off)) ⟨cs,rfl,ha⟩ fun o'=>by simp only[evOp,rd_fst,hd]⟩
  ·rename_i b τ i o h1
   rw[h1]at hx
   have h:=out_r h
   injection h with h
   injection h with h2 h3
   subst h2 h3
   exact⟨rfl,gr (d:=.ptr c.n b (i.toNat*csz τ+(o+off))) ⟨hx.1,rfl⟩ fun o'=>by simp only[evOp,rd_fst,show rdE e x= .ptr c.n b (i.toNat*csz τ+o)from hx.2,Nat.add_assoc]⟩
  ·exact h.elim
 |ia x j z=>
  have hx:=rdW_ok hS hp x
  have hj:=rdW_ok hS hp j
  simp only[evOpW]at h
  split at h
  ·rename_i m t' xs k n h1 h2
   rw[h1]at hx;rw[h2]at hj
   obtain⟨hl,es,ha,hd⟩:=flat_cells_l hx
   obtain⟨dj,kj⟩:=i_d hj.2
   split at h
   ·rename_i hz
    obtain⟨v,o1,o2⟩:=out_b h
    injection o2 with o2
    injection o2 with o3 o4
    subst o3 o4
    obtain⟨i1,i2⟩:=idx_some o1
    obtain⟨d,e1,e2⟩:=ha.get i2
    have hd:rdE e x= .sl m (csz t') es:=by
     rcases hd with hd|⟨rfl,_⟩
     ·exact hd
     ·simp at e1
    refine⟨rfl,gr (d:=.fptr d.cells 0) ⟨d.cells,rfl,elW_ok hz.2.2.2 e2⟩ fun o=>?_⟩
    simp only[evOp,rd_fst,hd,dj]
    rw[if_pos ⟨hz.1.symm,i1,hz.2.1⟩,e1];rfl
   ·exact h.elim
  ·obtain⟨v,o1,o2⟩:=out_b h
   cases o1
  ·rename_i b τ lo m k n h1 h2
   rw[h1]at hx;rw[h2]at hj
   obtain⟨⟨n0,n1,l0⟩,hd⟩:=hx
   obtain⟨dj,kj⟩:=i_d hj.2
   split at h
   ·rename_i hz
    obtain⟨v,o1,o2⟩:=out_b h
    injection o2 with o2
    injection o2 with o3 o4
    subst o3 o4
    obtain⟨b1,b2,b3,hpl⟩:=chkI_ok l0 o1
    have hd:rdE e x= .ref c.n b ((lo.getD 0).toNat*csz τ) m.toNat (csz τ):=by
     rcases hd with hd|⟨h0,_⟩
     ·exact hd
     ·exact absurd h0 b2
    refine⟨rfl,gr (d:=.ptr c.n b ((plusO lo n).toNat*csz τ+0)) ⟨hpl.1,rfl⟩ fun o=>?_⟩
    simp only[evOp,rd_fst,hd,dj]
    rw[if_pos ⟨hz.symm,b1,b3⟩,hpl.2,Nat.add_mul,Nat.add_zero,<-hz]
   ·exact h.elim
  ·exact h.elim
 |ext x i=>
  have hx:=rdW_ok hS hp x
  cases x with
  |m n=>cases hg
  |t n=>
   simp only[evOpW]at h
   split at h
   ·rename_i ws h1
    rw[h1]at hx
    obtain⟨ds,hd,ha⟩:=hx
    split at h
    ·rename_i w' hw
     have h:=out_r h
     injection h with h
     injection h with h2 h3
     subst h2 h3
     obtain⟨d,e1,e2⟩:=ha.get hw
     exact⟨rfl,gr (to4 e2) fun o=>by simp only[evOp,rd_fst,hd,e1,Option.map_some]⟩
    ·exact h.elim
   ·exact h.elim
  |c v=>
   simp only[evOpW]at h
   split at h
   ·rename_i ws h1
    rw[h1]at hx
    obtain⟨ds,hd,ha⟩:=hx
    cases hd
   ·exact h.elim
  |cn=>
   simp only[evOpW]at h
   split at h
   ·rename_i ws h1;cases h1
   ·exact h.elim
  |f n=>
   simp only[evOpW]at h
   split at h
   ·rename_i ws h1;cases h1
   ·exact h.elim
 |len x=>
  have hx:=rdW_ok hS hp x
  simp only[evOpW]at h
  split at h
  ·rename_i m t' xs h1
   rw[h1]at hx
   obtain⟨hl,es,ha,hd⟩:=flat_cells_l hx
   have h:=out_r h
   injection h with h
   injection h with h2 h3
   subst h2 h3
   refine⟨rfl,gr (u_i (nat_in _ hl)) fun o=>?_⟩
   rcases hd with hd|⟨rfl,z,hd⟩
   ·simp only[evOp,rd_fst,hd,ha.length]
   ·simp only[evOp,rd_fst,hd,ha.length]
  ·rename_i h1
   rw[h1]at hx
   obtain⟨z,hd⟩:=hx
   have h:=out_r h
   injection h with h
   injection h with h2 h3
   subst h2 h3
   exact⟨rfl,gr (u_i (n:=0) rfl) fun o=>by simp only[evOp,rd_fst,hd];rfl⟩
  ·rename_i b τ lo n h1
   rw[h1]at hx
   obtain⟨⟨n0,n1,l0⟩,hd⟩:=hx
   have h:=out_r h
   injection h with h
   injection h with h2 h3
   subst h2 h3
   have hin:inK .i64 n=true:=by
    have:=nat_in n.toNat (by unfold maxLn at n1;omega)
    rwa[Int.toNat_of_nonneg n0]at this
   refine⟨rfl,gr (u_i hin) fun o=>?_⟩
   rcases hd with hd|⟨h0,z,hd⟩
   ·simp only[evOp,rd_fst,hd,Int.toNat_of_nonneg n0]
   ·simp only[evOp,rd_fst,hd,h0];rfl
  ·exact h.elim
 |lns x=>
  have hx:=rdW_ok hS hp x
  simp only[evOpW]at h
  split at h
  ·rename_i xs h1
   rw[h1]at hx
   obtain⟨hd,hl,_⟩:=s_d hx.2
   have h:=out_r h
   injection h with h
   injection h with h2 h3
   subst h2 h3
   refine⟨rfl,gr (u_i (nat_in _ hl)) fun o=>?_⟩
   simp only[evOp,rd_fst,hd]
   have:(strV xs).size=List.length (α:=Int) xs:=by simp[strV,ByteArray.size]
   rw[this]
  ·exact h.elim
 |bst x=>
  have hx:=rdW_ok hS hp x
  simp only[evOpW]at h
  split at h
  ·rename_i xs h1
   rw[h1]at hx
   obtain⟨hl,es,ha,hd⟩:=flat_cells_l hx
   have h:=out_r h
   injection h with h
   injection h with h2 h3
   subst h2 h3
   obtain⟨q1,q2⟩:=u8s_of ha
   have hq2:∀c:Int,List.Mem (α:=Int) c xs->0<=c∧c<256:=fun c hc=>q2 c hc
   refine⟨rfl,gr (show Rep4 c (.u .s xs) (.v (.string (strV xs)))from⟨rfl,rfl,hl,hq2⟩) fun o=>?_⟩
   rcases hd with hd|⟨rfl,z,hd⟩
   ·simp only[evOp,rd_fst,hd]
    rw[if_pos ⟨by decide,by decide,.inl rfl⟩,q1];rfl
   ·obtain rfl:=ha.nil_r
    simp only[evOp,rd_fst,hd]
    rw[if_pos ⟨by decide,by decide,.inr rfl⟩];rfl
  ·rename_i h1
   rw[h1]at hx
   obtain⟨z,hd⟩:=hx
   have h:=out_r h
   injection h with h
   injection h with h2 h3
   subst h2 h3
   refine⟨rfl,gr (show Rep4 c (.u .s ([]:List Int)) (.v (.string (strV [])))from⟨rfl,rfl,Nat.zero_le _,fun c hc=>by cases hc⟩) fun o=>?_⟩
   have hd:rdE e x= .sl .nl z []:=hd
   simp only[evOp,rd_fst,hd]
   rw[if_pos ⟨by decide,by decide,.inr rfl⟩];rfl
  ·exact h.elim
 |slc z x lo hi=>
  have hx:=rdW_ok hS hp x
  simp only[evOpW]at h
  split at h
  ·rename_i t' xs h1
   rw[h1]at hx
   obtain⟨hl,es,ha,hd⟩:=flat_cells_l hx
   split at h
   ·rename_i lo' hi' g1 g2
    split at h
    ·rename_i hz
     obtain⟨v,o1,o2⟩:=out_b h
     injection o2 with o2
     injection o2 with o3 o4
     subst o3 o4
     obtain⟨⟨c1,c2,c3⟩,rfl⟩:=cut_some o1
     have g1':=fun o=>liO_ok (l:=l) (o:=o) hS hp g1
     have g2':=fun o=>liO_ok (l:=l) (o:=o) hS hp g2
     rw[ha.length]at g2'
     rw[ha.length]at c3
     have hres:All2 (fun y e=>RepL c.P t' c.F y [e]) ((xs.take hi'.toNat).drop lo'.toNat) ((es.take hi'.toNat).drop lo'.toNat):=(ha.take _).drop _
     have hlen:((xs.take hi'.toNat).drop lo'.toNat).length<=maxLn:=by
      simp only[List.length_drop,List.length_take];omega
     rcases hd with hd|⟨rfl,z',hd⟩
     ·refine⟨rfl,gr (d:=.sl .ro z ((es.take hi'.toNat).drop lo'.toNat)) ⟨rfl,hlen,_,hres,.inl (by rw[hz])⟩ fun o=>?_⟩
      simp only[evOp,rd_fst,hd,g1',g2']
      rw[if_pos ⟨.inl hz.symm,c1,c2,c3⟩]
     ·have hn:∀k,List.drop k (List.take hi'.toNat ([]:List D))=[]:=fun k=>by simp
      rw[hn]at hres
      refine⟨rfl,gr (d:=.sl .nl 0 []) ⟨rfl,hlen,[],hres,.inr ⟨rfl,0,rfl⟩⟩ fun o=>?_⟩
      simp only[evOp,rd_fst,hd,g1',g2']
      rw[if_pos ⟨.inr rfl,c1,c2,c3⟩]
    ·exact h.elim
   ·exact h.elim
  ·rename_i b τ lo0 n h1
   rw[h1]at hx
   obtain⟨⟨n0,n1,l0⟩,hd⟩:=hx
   split at h
   ·rename_i lo' hi' g1 g2
    split at h
    ·rename_i hz
     obtain⟨v,o1,o2⟩:=out_b h
     injection o2 with o2
     injection o2 with o3 o4
     subst o3 o4
     have hb:0<=lo'∧lo'<=hi'∧hi'<=n:=by
      unfold chkS at o1
      split at o1
      ·assumption
      ·cases o1
     have g1':=fun o=>liO_ok (l:=l) (o:=o) hS hp g1
     have g2':=fun o=>liO_ok (l:=l) (o:=o) hS hp g2
     have hpl:0<=plusO lo0 lo'∧(plusO lo0 lo').toNat=(lo0.getD 0).toNat+lo'.toNat:=by
      cases lo0 with
      |none=>exact⟨hb.1,by simp[plusO]⟩
      |some q=>
       have:0<=q:=l0
       simp only[plusO,Option.getD_some]
       omega
     have hinv:0<=hi'-lo'∧hi'-lo'<=(maxLn:Int)∧0<=(some (plusO lo0 lo')).getD 0:=⟨by omega,by omega,hpl.1⟩
     rcases hd with hd|⟨h0,z',hd⟩
     ·refine⟨rfl,gr (d:=.ref c.n b ((plusO lo0 lo').toNat*csz τ) (hi'-lo').toNat (csz τ)) ⟨hinv,.inl rfl⟩ fun o=>?_⟩
      simp only[evOp,rd_fst,hd,g1',Int.toNat_of_nonneg n0,g2']
      rw[if_pos ⟨hz.symm,hb.1,hb.2.1,hb.2.2⟩,hpl.2,Nat.add_mul,<-hz,show(hi'-lo').toNat=hi'.toNat-lo'.toNat by omega]
     ·refine⟨rfl,gr (d:=.sl .nl 0 []) ⟨hinv,.inr ⟨by omega,0,rfl⟩⟩ fun o=>?_⟩
      subst h0
      simp only[evOp,rd_fst,hd,g1',List.length_nil,Int.ofNat_zero,g2']
      rw[if_pos ⟨.inr rfl,hb.1,hb.2.1,hb.2.2⟩]
    ·exact h.elim
   ·exact h.elim
  ·exact h.elim
 |eqn ne x=>
  have hx:=rdW_ok hS hp x
  simp only[evOpW]at h
  split at h
  ·rename_i t' xs h1
   rw[h1]at hx
   obtain⟨hl,es,ha,hd⟩:=flat_cells_l hx
   obtain⟨v,o1,o2⟩:=out_b h
   injection o2 with o2
   injection o2 with o3 o4
   subst o3 o4
   unfold nilq at o1
   split at o1
   ·cases o1
   ·rename_i hne
    injection o1 with o1
    subst o1
    have hes:es≠[]:=fun q=>by subst q;rw[ha.nil_r]at hne;exact hne rfl
    rcases hd with hd|⟨q,_⟩
    ·refine⟨rfl,gr u_b fun o=>?_⟩
     simp only[evOp,rd_fst,hd]
    ·exact absurd q hes
  ·rename_i h1
   rw[h1]at hx
   obtain⟨z,hd⟩:=hx
   have h:=out_r h
   injection h with h
   injection h with h2 h3
   subst h2 h3
   exact⟨rfl,gr u_b fun o=>by simp only[evOp,rd_fst,hd]⟩
  ·exact h.elim
 |eqs ne x y=>
  have hx:=rdW_ok hS hp x
  have hy:=rdW_ok hS hp y
  simp only[evOpW]at h
  split at h
  ·rename_i a b h1 h2
   rw[h1]at hx;rw[h2]at hy
   obtain⟨dx,_,rx⟩:=s_d hx.2
   obtain⟨dy,_,ry⟩:=s_d hy.2
   have h:=out_r h
   injection h with h
   injection h with h2 h3
   subst h2 h3
   refine⟨rfl,gr u_b fun o=>?_⟩
   simp only[evOp,rd_fst,dx,dy]
   rw[veq_ok.strV_eq rx ry]
   cases ne<;>simp
  ·exact h.elim
 |eqb ne x y=>
  have hx:=rdW_ok hS hp x
  have hy:=rdW_ok hS hp y
  simp only[evOpW]at h
  split at h
  ·rename_i a b h1 h2
   rw[h1]at hx;rw[h2]at hy
   have dx:=b_d hx.2
   have dy:=b_d hy.2
   have h:=out_r h
   injection h with h
   injection h with h2 h3
   subst h2 h3
   exact⟨rfl,gr u_b fun o=>by simp only[evOp,rd_fst,dx,dy]⟩
  ·exact h.elim
 |eqa ne z x y=>
  have hx:=rdW_ok hS hp x
  have hy:=rdW_ok hS hp y
  simp only[evOpW]at h
  split at h
  ·rename_i xs ys h1 h2
   rw[h1]at hx;rw[h2]at hy
   obtain⟨as_,dx,ax⟩:=hx
   obtain⟨bs,dy,ay⟩:=hy
   split at h
   ·rename_i q z1 z2
    have h:=out_r h
    injection h with h
    injection h with h2 h3
    subst h2 h3
    have:=veq_ok z1 z2 ax ay
    refine⟨rfl,gr u_b fun o=>?_⟩
    simp only[evOp,rd_fst,dx,dy,this,Option.map_some]
    cases ne<;>simp
   ·exact h.elim
  ·exact h.elim
 |sh o x y=>
  have hx:=rdW_ok hS hp x
  have hy:=rdW_ok hS hp y
  simp only[evOpW]at h
  split at h
  ·rename_i k m k' n h1 h2
   rw[h1]at hx;rw[h2]at hy
   obtain⟨dx,kx⟩:=i_d hx.2
   obtain⟨dy,ky⟩:=i_d hy.2
   obtain⟨w',o1,o2⟩:=out_map h
   injection o2 with o2
   injection o2 with o3 o4
   subst o3 o4
   obtain⟨v,v1,v2⟩:=sh_ok (c:=c) kx (fun hz=>nnO_ok hz dy) o1
   exact⟨rfl,gr v2 fun o=>by simp only[evOp,rd_fst,dx,dy,v1,Option.map_some]⟩
  ·exact h.elim
 |ci k x=>
  have hx:=rdW_ok hS hp x
  simp only[evOpW]at h
  split at h
  ·rename_i k' n h1
   rw[h1]at hx
   obtain⟨dx,_⟩:=i_d hx.2
   have h:=out_r h
   injection h with h
   injection h with h2 h3
   subst h2 h3
   exact⟨rfl,gr (u_i (wrap_in _ _)) fun o=>by simp only[evOp,rd_fst,dx]⟩
  ·exact h.elim
 |mm mx x r=>
  have hx:=rdW_ok hS hp x
  simp only[evOpW]at h
  split at h
  ·rename_i k n h1
   rw[h1]at hx
   obtain⟨dx,kx⟩:=i_d hx.2
   split at h
   ·rename_i v hv
    have h:=out_r h
    injection h with h
    injection h with h2 h3
    subst h2 h3
    refine⟨rfl,gr (u_i (mm_ok (e:=e) (l:=l) (o:=[]) hS hp kx hv).2) fun o=>?_⟩
    simp only[evOp,rd_fst,dx,(mm_ok (e:=e) (l:=l) (o:=o) hS hp kx hv).1,Option.map_some]
   ·exact h.elim
  ·exact h.elim
 |mf f caps=>
  simp only[evOpW]at h
  split at h
  ·rename_i hw
   have h:=out_r h
   injection h with h
   injection h with h2 h3
   subst h2 h3
   have ha:=rdsW_ok hS hp caps
   have ha1:All2 (Rep1 c) (rdsW p s caps) (caps.map (rdE e)):=ha.mono fun w d hm q=>by
    have:=List.all_eq_true.1 hw w hm
    cases w with
    |pt=>exact q
    |fp=>exact q
    |u=>exact q
    |_=>cases this
   refine⟨rfl,gr (d:=.clo f (caps.map (rdE e))) ⟨_,rfl,ha1,hw⟩ fun o=>?_⟩
   have hcap:(caps.map (rdE e)).all D.capB=true:=All2.all_r (fun w d hm q=>by
    have:=List.all_eq_true.1 hw w hm
    cases w with
    |pt b off=>cases b with
     |own b=>rw[show d= .ptr c.n b off from q];rfl
     |ext i=>obtain⟨r,_,rfl⟩:=q;rfl
    |fp=>obtain⟨_,rfl,_⟩:=q;rfl
    |u τ x=>cases τ with
     |i k=>rw[(i_d q.2).1];rfl
     |b=>rw[b_d q.2];rfl
     |s=>rw[(s_d q.2).1];rfl
     |_=>cases this
    |_=>cases this) ha
   simp only[evOp,rdsE_eq,hcap,if_true]
  ·exact h.elim
 |nck x=>
  have hx:=rdW_ok hS hp x
  simp only[evOpW]at h
  split at h
  ·rename_i b o h1
   rw[h1]at hx
   have h:=out_r h
   injection h with h
   injection h with h2 h3
   subst h2 h3
   cases b with
   |own b=>exact⟨rfl,gr (d:=.ptr c.n b o) rfl fun o'=>by simp only[evOp,rd_fst,show rdE e x= .ptr c.n b o from hx]⟩
   |ext i=>
    obtain⟨r,g1,g2⟩:=hx
    exact⟨rfl,gr (d:=.ptr r.f r.b (r.o+o)) ⟨r,g1,rfl⟩ fun o'=>by simp only[evOp,rd_fst,g2]⟩
  ·rename_i ws o h1
   rw[h1]at hx
   have h:=out_r h
   injection h with h
   injection h with h2 h3
   subst h2 h3
   obtain⟨cs,hd,ha⟩:=hx
   exact⟨rfl,gr (d:=.fptr cs o) ⟨cs,rfl,ha⟩ fun o'=>by simp only[evOp,rd_fst,hd]⟩
  ·rename_i b τ i o h1
   rw[h1]at hx
   have h:=out_r h
   injection h with h
   injection h with h2 h3
   subst h2 h3
   exact⟨rfl,gr (d:=.ptr c.n b (i.toNat*csz τ+o)) ⟨hx.1,rfl⟩ fun o'=>by simp only[evOp,rd_fst,show rdE e x= .ptr c.n b (i.toNat*csz τ+o)from hx.2]⟩
  ·exact h.elim
 |bs wm z xs=>
  simp only[evOpW]at h
  split at h
  ·rename_i l' hk hl
   split at h
   ·rename_i hz
    have h:=out_r h
    injection h with h
    injection h with h2 h3
    subst h2 h3
    have ha:=rdsW_ok hS hp xs
    obtain⟨_,hb⟩:=allT_ok hl ha
    have hlen:l'.length=xs.length:=by rw[hb.length,List.length_map]
    refine⟨rfl,gr (d:=.sl (if wm=true then .mu else .app) z (xs.map (rdE e))) ⟨rfl,(by unfold maxLn;omega),_,hb,.inl (by rw[hz.1];rfl)⟩ fun o=>?_⟩
    have hall:(xs.map (rdE e)).all (fun d=>decide (d.cells.length=z)&&d.cells.all D.rf1)=true:=All2.all_r (fun x d _ q=>by
     rw[el_len hz.2.1 q,eleOk_rf hz.2.1 q hk,hz.1];simp) hb
    simp only[evOp,rdsE_eq,hall,if_true]
   ·exact h.elim
  ·exact h.elim
 |mk w z by_ ze n k=>
  have hn:=rdW_ok hS hp n
  have hk:=rdW_ok hS hp k
  simp only[evOpW]at h
  split at h
  ·rename_i q kn nn kk nk h0 hq h1 h2
   rw[h1]at hn;rw[h2]at hk
   obtain⟨dn,_⟩:=i_d hn.2
   obtain⟨dk,_⟩:=i_d hk.2
   split at h
   ·rename_i hz
    obtain⟨v,o1,o2⟩:=out_b h
    injection o2 with o2
    injection o2 with o3 o4
    subst o3 o4
    obtain⟨⟨c1,c2,c3⟩,rfl⟩:=mkl_some o1
    obtain⟨z1,z2⟩:=zEl_ok (c:=c) hq
    have hlen:=mk_len hz.2 c1 c2 c3
    refine⟨rfl,gr (d:=.sl (if w then .mu else .app) z (List.replicate (Int.toNat nn) ze)) ⟨rfl,(by simpa using hlen),_,All2.rep (R:=fun y e=>RepL c.P a c.F y [e]) z2 _,.inl (by rw[hz.1];rfl)⟩ fun o=>?_⟩
    simp only[evOp,rd_fst,dn,dk]
    rw[if_pos ⟨c1,c2,c3⟩]
   ·exact h.elim
  ·exact h.elim
 |bd z ps=>
  simp only[evOpW]at h
  split at h
  ·rename_i cs hl
   have h:=out_r h
   injection h with h
   injection h with h2 h3
   subst h2 h3
   have hz:All2 (Rep2 c) (z.map cW) (z.map zc):=by
    clear hl hg
    induction z with
    |nil=>trivial
    |cons v r ih=>exact⟨cW_ok v,ih⟩
   obtain⟨ds,_,g2⟩:=lay_ok (l:=l) (o:=[]) hc hS hp hl hz
   have g:∀o,lay ⟨e,l,o⟩ (z.map zc) ps=some ds:=fun o=>by
    have:=lay_same (s:=⟨e,l,[]⟩) (s':=⟨e,l,o⟩) (ps:=ps) (fun _ _=>rfl) (z.map zc)
    rw[<-this];assumption
   exact⟨rfl,gr (d:=.agg ds) ⟨ds,rfl,g2⟩ fun o=>by simp only[evOp,g,Option.map_some]⟩
  ·exact h.elim
 |_=>cases hg
end
end Go.Proofs.Ytfopbiiffiickaa.Ev.U
namespace Go.Proofs.Ytfopbiiffiickaa.Ev.U
open Go
section
variable {c:Cx} {e:Env} {l:Bx} {Y:List (List D)} {t:Option Nat} {s:SU}
theorem lkW_sbW {b b':Nat} {ws:List W}:∀{L:List (Nat×List W)},lkW b' (sbW b ws L)=if b'=b then(lkW b L).map fun _=>ws else lkW b' L
 |[]=>by simp[sbW,lkW]
 |(n,q)::r=>by
  have ih:=lkW_sbW (b:=b) (b':=b') (ws:=ws) (L:=r)
  by_cases h:b=n
  ·subst h
   simp only[sbW,Nat.beq_refl,cond_true,lkW]
   by_cases h':b'=b
   ·subst h';simp[lkW]
   ·simp only[nbeq_f h',cond_false,if_neg h',lkW]
  ·simp only[sbW,nbeq_f h,cond_false,lkW]
   by_cases h':b'=n
   ·subst h'
    simp only[Nat.beq_refl,cond_true]
    rw[if_neg (Ne.symm h)]
   ·simp only[nbeq_f h',cond_false]
    exact ih
theorem wr_ok (hc:c.ok) (hS:RepS c s e l Y) {pb:PB} {ws:List W} {off:Nat} {d:D} (hb:getBx pb s=some ws) (hd:Rep0 c (.pt pb off) d):
  ∃f b o ys,d= .ptr f b (o+off)∧All2 (Rep2 c) ws ys∧f<c.n+1∧(∀B,Fam c B->∃full,(∀e',bx f b ⟨e',l,upd c.rg Y B⟩=some full)∧o+ys.length<=full.length∧(full.drop o).take ys.length=ys)∧
  ∀{cs:List W} {ds:List D} {s':SU},setBx pb (overW ws off cs) s=some s'->All2 (Rep2 c) cs ds->off+cs.length<=ws.length->
   ∃l' Y',RepS c s' e l' Y'∧∀B,Fam c B->∀full,(∀e',bx f b ⟨e',l,upd c.rg Y B⟩=some full)->∀e',sbx f b (over full (o+off) ds) ⟨e',l,upd c.rg Y B⟩=⟨e',l',upd c.rg Y' B⟩:=by
 have hov:∀{cs:List W} {ds ys:List D},All2 (Rep2 c) cs ds->All2 (Rep2 c) ws ys->All2 (Rep2 c) (overW ws off cs) (over ys off ds):=fun hcs h=>by
  unfold overW over
  rw[hcs.length]
  exact((h.take off).app hcs).app (h.drop _)
 cases pb with
 |own b=>
  obtain⟨hb0,ys,h1,h2⟩:=own_box hS hb
  refine⟨c.n,b,0,ys,by rw[Nat.zero_add];exact hd,h2,Nat.lt_succ_self _,fun B hB=>⟨ys,fun e'=>?_,by omega,by simp⟩,fun{cs ds s'} hs hcs hl=>?_⟩
  ·rw[bx_own (fam_len hB Y),h1]
  have e1:s'={s with l:=sbW b (overW ws off cs) s.l}:=(Option.some.inj hs).symm
  subst e1
  refine⟨sb b (over ys off ds) l,Y,?_,fun B hB full hfull e'=>?_⟩
  ·refine⟨hS.env,fun b' ws' hb'=>?_,fun b' hb'=>hS.nm b' fun q=>hb' ?_,hS.ext,hS.wr,hS.len,hS.ro⟩
   ·simp only[lkW_sbW]at hb'
    rw[lk_sb]
    by_cases e:b'=b
    ·rw[if_pos e]at hb' ⊢
     rw[h1]
     rw[hb0]at hb'
     have:=Option.some.inj hb'
     subst this
     exact BRep.of (hov hcs h2)
    ·rw[if_neg e]at hb' ⊢
     exact hS.box b' ws' hb'
   ·rw[lk_sb]
    by_cases e:b'=b
    ·rw[e]at q;rw[h1]at q;cases q
    ·rw[if_neg e];exact q
  ·have:=hfull e'
   rw[bx_own (fam_len hB Y),h1]at this
   have:=Option.some.inj this
   subst this
   rw[Nat.zero_add]
   unfold sbx
   rw[if_pos (fam_len hB Y).symm];rfl
 |ext i=>
  obtain⟨r,h1,h2⟩:=hd
  obtain⟨ys,h3,h4⟩:=hS.ext.get (i:=i) hb
  have hf:=hc.lt r (List.mem_of_getElem? h1)
  refine⟨r.f,r.b,r.o,ys,h2,h4,Nat.lt_succ_of_lt hf,fun B hB=>?_,fun{cs ds s'} hs hcs hl=>?_⟩
  ·obtain⟨l',full,a1,a2,a3,a4⟩:=fam_at hc hS hB h1 h3
   refine⟨full,fun e'=>?_,a3,a4⟩
   rw[bx_out (by rw[fam_len hB Y];exact hf),a1];exact a2
  simp only[setBx]at hs
  split at hs
  ·rename_i hw
   have e1:=(Option.some.inj hs).symm
   subst e1
   have hrw:r.w=true:=by
    have:=hS.wr
    rw[this,List.getElem?_map,h1]at hw
    exact Option.some.inj hw
   obtain⟨hz,_⟩:=hS.ro i r ys h1 h3
   have hlen:off+ds.length<=ys.length:=by rw[<-hcs.length,<-h4.length];exact hl
   have hzl:(over ys off ds).length=r.z:=by rw[over_len hlen];exact hz
   refine⟨l,Y.set i (over ys off ds),?_,fun B hB full hfull e'=>?_⟩
   ·refine⟨hS.env,hS.box,hS.nm,hS.ext.set i (hov hcs h4),hS.wr,by rw[List.length_set];exact hS.len,fun j q zs hq hj=>?_⟩
    rw[List.getElem?_set]at hj
    split at hj
    ·rename_i e
     subst e
     split at hj
     ·rw[h1]at hq
      have e1:=Option.some.inj hq
      have e2:=Option.some.inj hj
      subst e1 e2
      exact⟨hzl,fun hf=>by rw[hrw]at hf;cases hf⟩
     ·cases hj
    ·exact hS.ro j q zs hq hj
   ·obtain⟨l',full',a1,a2,a3,a4⟩:=fam_at hc hS hB h1 h3
    have hq:=hfull e'
    rw[bx_out (by rw[fam_len hB Y];exact hf),a1]at hq
    rw[show(some l').bind (lk r.b)=lk r.b l' from rfl,a2]at hq
    have:=Option.some.inj hq
    subst this
    unfold sbx
    rw[if_neg (by simp only[fam_len hB Y];omega)]
    have:(upd c.rg Y B).modify r.f (sb r.b (over full' (r.o+off) ds))=wrR r (over ys off ds) (upd c.rg Y B):=by
     apply List.ext_getElem?
     intro f
     rw[wrR_get,List.getElem?_modify]
     by_cases ef:r.f=f
     ·subst ef
      rw[a1]
      simp only[Option.map_eq_map,Option.map_some,if_true,a2,Option.getD_some]
      rw[<-over_in a3 hlen,over_id a4 a3]
     ·rw[if_neg ef]
      cases hbf:(upd c.rg Y B)[f]? with
      |none=>rfl
      |some z=>simp only[Option.map_eq_map,Option.map_some,if_neg ef]
    rw[show(S.wo ⟨e',l,upd c.rg Y B⟩ ((upd c.rg Y B).modify r.f (sb r.b (over full' (r.o+off) ds))))=⟨e',l,(upd c.rg Y B).modify r.f (sb r.b (over full' (r.o+off) ds))⟩from rfl,this,
     upd_set hc.dj hB.rg (fun i r ys a b=>(hS.ro i r ys a b).1) h1 hrw h3 hzl]
  ·cases hs
def SR (c:Cx) (e:Env) (l:Bx) (Y:List (List D)) (t:Option Nat) (op:Op) (w:W) (s':SU):Prop:=∃d e' l' Y',RepS c s' e' l' Y'∧Rep4 c w d∧∀B,Fam c B->evOp c.P t op ⟨e,l,upd c.rg Y B⟩=some (d,⟨e',l',upd c.rg Y' B⟩)
theorem GR.sr {op:Op} {w:W} (hS:RepS c s e l Y) (h:GR c e l Y t op w):SR c e l Y t op w s:=by
 obtain⟨d,h1,h2⟩:=h
 exact⟨d,e,l,Y,hS,h1,h2⟩
theorem hasN_c {n m:Nat} {r:List Nat}:hasN n (m::r)=(bif Nat.beq n m then true else hasN n r):=rfl
theorem al_ok (hS:RepS c s e l Y) {b:Nat} (hb:hasN b s.m=false) {ws:List W} {ds:List D} (h:All2 (Rep2 c) ws ds):lk b l=none∧RepS c {s with l:=(b,ws)::s.l,m:=b::s.m} e (ins b ds l) Y:=by
 have hn:lk b l=none:=by
  cases hq:lk b l with
  |none=>rfl
  |some q=>rw[hS.nm b (by rw[hq];simp)]at hb;cases hb
 refine⟨hn,hS.env,fun b' ws' hb'=>?_,fun b' hb'=>?_,hS.ext,hS.wr,hS.len,hS.ro⟩
 ·simp only[lkW]at hb'
  rw[lk_ins hn]
  by_cases e:b'=b
  ·rw[if_pos e]
   rw[e,Nat.beq_refl,cond_true]at hb'
   have:=Option.some.inj hb'
   subst this
   exact BRep.of h
  ·rw[if_neg e]
   rw[nbeq_f e,cond_false]at hb'
   exact hS.box b' ws' hb'
 ·rw[hasN_c]
  by_cases e:b'=b
  ·rw[e,Nat.beq_refl];rfl
  ·rw[nbeq_f e,cond_false]
   rw[lk_ins hn,if_neg e]at hb'
   exact hS.nm b' hb'
theorem cells_ok (hc:c.ok) {w:W} {d:D} (h:Rep4 c w d) (hw:w.cells.all W.sto=true):All2 (Rep2 c) w.cells d.cells∧d.bnd2 (c.n+1)=true∧d.cells.all D.sto1=true:=by
 cases w with
 |ag cs=>
  obtain⟨ds,rfl,h2⟩:=h
  exact⟨h2,All2.all_r (fun w d hm q=>(sto_ok hc q (List.all_eq_true.1 hw w hm)).1) h2,All2.all_r (fun w d hm q=>(sto_ok hc q (List.all_eq_true.1 hw w hm)).2.1) h2⟩
 |tp=>simp[W.cells,W.sto]at hw
 |un=>simp[W.cells,W.sto]at hw
 |gd=>simp[W.cells,W.sto]at hw
 |_=>
  have hx2:=of3 (of4 h (fun _ q=>by cases q)) (fun _ q=>by cases q)
  simp only[W.cells,List.all_cons,List.all_nil,Bool.and_true]at hw
  have hq:=sto_ok hc hx2 hw
  refine⟨by rw[hq.2.2.1];exact⟨hx2,trivial⟩,?_,by rw[hq.2.2.1];simp[hq.2.1]⟩
  have:∀{d:D},d.aggB=false->d.bnd2 (c.n+1)=d.bnd1 (c.n+1):=fun{d} h=>by cases d<;>first|rfl|cases h
  rw[this hq.2.2.2.1];exact hq.1
theorem rdW_sub {x:Opd}:(rdW [] x s).2.l=s.l∧(rdW [] x s).2.m=s.m∧(rdW [] x s).2.x=s.x∧(rdW [] x s).2.w=s.w:=by cases x<;>exact⟨rfl,rfl,rfl,rfl⟩
theorem getBx_rd {x:Opd} {b:PB}:getBx b (rdW [] x s).2=getBx b s:=by
 obtain⟨h1,h2,h3,h4⟩:=rdW_sub (s:=s) (x:=x)
 cases b with
 |own b=>simp only[getBx,h1]
 |ext i=>simp only[getBx,h3]
theorem pick_len {q:Option Nat} {ws:List W} {off:Nat} {w:W} (h:pickW q ws off=some w):(match q with|none=>True|some n=>w.cells.length=n)∧off+(match q with|none=>1|some n=>n)<=ws.length:=by
 cases q with
 |none=>exact⟨trivial,getq_lt (noUn_some h).1⟩
 |some n=>
  simp only[pickW]at h
  split at h
  ·rename_i hl
   have:=Option.some.inj h
   subst this
   exact⟨by simp[W.cells];omega,hl⟩
  ·cases h
theorem strip_cells1 {w:W} {d:D} (h:Rep2 c w d) (h1:∀ws,w≠ .ag ws) (h2:∀ws,w≠ .tp ws) (hn:w≠ .un):All2 (Rep2 c) w.strip.cells d.strip.cells∧w.strip.cells.length=w.cells.length∧d.strip.cells.length=d.cells.length:=by
 have h3:=tup_d (to3 h)
 rcases ag_d h h1 with q|q|q
 ·exact absurd q hn
 ·exact absurd q (h2 _)
 rcases h3 with q'|q'
 ·exact absurd q' hn
 have hs:=strip1_ok h
 have ed:d.strip=d.strip1:=by rw[D.strip_nt q',D.strip2_na q]
 have ec:∀{d:D},d.aggB=false->d.strip1.cells=[d.strip1]:=fun{d} h=>by
  cases d with
  |sl m z xs=>cases m<;>rfl
  |agg=>cases h
  |_=>rfl
 rw[ed,ec q,D.cells_na q]
 have ew:w.strip.cells=[w.strip1]∧w.cells=[w]:=by
  cases w with
  |ag ws=>exact absurd rfl (h1 ws)
  |tp ws=>exact absurd rfl (h2 ws)
  |u τ x=>cases τ with
   |l m t=>cases m<;>exact⟨rfl,rfl⟩
   |_=>exact⟨rfl,rfl⟩
  |_=>exact⟨rfl,rfl⟩
 rw[ew.1,ew.2]
 exact⟨⟨hs,trivial⟩,rfl,rfl⟩
theorem strip_cells {w:W} {d:D} (h:Rep3 c w d) (hn:w≠ .un):All2 (Rep2 c) w.strip.cells d.strip.cells∧w.strip.cells.length=w.cells.length∧d.strip.cells.length=d.cells.length:=by
 cases w with
 |ag cs=>
  obtain⟨ds,rfl,h2⟩:=h
  refine⟨h2.map fun _ _ _ q=>strip1_ok q,by simp[W.strip,W.strip2,W.cells],by simp[D.strip,D.strip2,D.cells]⟩
 |tp=>exact False.elim (by simpa[Rep3,Rep2,Rep1,Rep0]using h)
 |un=>exact absurd rfl hn
 |gd=>exact False.elim (by simpa[Rep3,Rep2,Rep1,Rep0]using h)
 |_=>exact strip_cells1 (of3 h (fun _ q=>by cases q)) (fun _ q=>by cases q) (fun _ q=>by cases q) hn
theorem opM (hc:c.ok) (hS:RepS c s e l Y) {T:Tab} {a:Ty} {x:Opd} {w:W} {s':SU} (h:(evOpW T [] t a (.mv x) s).out (some (w,s'))):SR c e l Y t (.mv x) w s':=by
 have h:=Option.some.inj (out_r h)
 have e1:(rdW [] x s).1=w:=congrArg Prod.fst h
 have e2:(rdW [] x s).2=s':=congrArg Prod.snd h
 subst e1 e2
 exact⟨rdE e x,rdN e x,l,Y,rdW_st hS x,rdW_ok hS (act_nil e) x,fun B _=>congrArg some (Prod.ext (rd_fst x e l _) (rd_snd x e l _))⟩
theorem opE (hc:c.ok) (hS:RepS c s e l Y) {T:Tab} {a:Ty} {x:Opd} {i:Nat} {w:W} {s':SU} (h:(evOpW T [] t a (.ext x i) s).out (some (w,s'))):SR c e l Y t (.ext x i) w s':=by
 cases hx:x.ot with
 |true=>
  obtain⟨e1,h2⟩:=opG hc hS (act_nil e) (op:=.ext x i) hx h
  subst e1
  exact GR.sr hS h2
 |false=>
  cases x with
  |m n=>
   simp only[evOpW]at h
   split at h
   ·rename_i ws hw
    split at h
    ·rename_i w' hi
     have h:=Option.some.inj (out_r h)
     injection h with h1 h2
     subst h1 h2
     have hn:=hS.env n
     rw[hw]at hn
     obtain⟨ds,hd,ha⟩:=hn
     obtain⟨d,e1,e2⟩:=ha.get hi
     refine⟨d,(n,.tup (ds.set i d.strip2))::e,l,Y,hS.put (w:=.tp (ws.set i w'.strip2)) ⟨_,rfl,ha.set i (strip2_ok e2)⟩,to4 e2,fun B _=>?_⟩
     simp only[evOp,hd,e1,Option.map_some];rfl
    ·exact h.elim
   ·exact h.elim
  |_=>cases hx
theorem opAl (hc:c.ok) (hS:RepS c s e l Y) {T:Tab} {a:Ty} {z:List Value} {w:W} {s':SU} (h:(evOpW T [] t a (.al z) s).out (some (w,s'))):SR c e l Y t (.al z) w s':=by
 simp only[evOpW]at h
 split at h
 ·rename_i b _
  cases hb:hasN b s.m with
  |true=>rw[hb]at h;exact h.elim
  |false=>
   rw[hb]at h
   have h:=Option.some.inj (out_r h)
   injection h with h1 h2
   subst h1 h2
   have hz:All2 (Rep2 c) (z.map cW) (z.map zc):=by
    clear hb h
    induction z with
    |nil=>trivial
    |cons v r ih=>exact⟨cW_ok v,ih⟩
   obtain⟨hn,hS'⟩:=al_ok hS hb hz
   refine⟨.ptr c.n b 0,e,_,Y,hS',rfl,fun B hB=>?_⟩
   simp only[evOp,hn,fam_len hB Y];rfl
 ·exact h.elim
theorem opBx (hc:c.ok) (hS:RepS c s e l Y) {T:Tab} {a:Ty} {x:Opd} {w:W} {s':SU} (h:(evOpW T [] t a (.bx x) s).out (some (w,s'))):SR c e l Y t (.bx x) w s':=by
 simp only[evOpW]at h
 split at h
 ·rename_i b _
  cases hb:hasN b s.m with
  |true=>rw[hb]at h;exact h.elim
  |false=>
   cases hw:(rdW [] x s).1.cells.all W.sto with
   |false=>rw[hb,hw]at h;exact h.elim
   |true=>
    rw[hb,hw]at h
    have h:=Option.some.inj (out_r h)
    injection h with h1 h2
    subst h1 h2
    obtain⟨q1,q2,q3⟩:=cells_ok hc (rdW_ok hS (act_nil e) x) hw
    have hm:=(rdW_sub (s:=s) (x:=x)).2.1
    have hS1:=rdW_st hS x
    obtain⟨hn,hS'⟩:=al_ok hS1 (b:=b) (by rw[hm];exact hb) q1
    rw[hm]at hS'
    refine⟨.ptr c.n b 0,_,_,Y,hS',rfl,fun B hB=>?_⟩
    have hn':lk b l=none:=hn
    simp only[evOp,hn',fam_len hB Y,rd_fst,rd_snd]
    rw[if_pos ⟨q2,q3⟩];rfl
 ·exact h.elim
theorem opLdm (hc:c.ok) (hS:RepS c s e l Y) {T:Tab} {a:Ty} {x:Opd} {q:Option Nat} {w:W} {s':SU} (h:(evOpW T [] t a (.ldm q x) s).out (some (w,s'))):SR c e l Y t (.ldm q x) w s':=by
 have hx:=rdW_ok hS (act_nil e) x
 simp only[evOpW]at h
 split at h
 ·rename_i pb off hq _
  rw[hq]at hx
  split at h
  ·rename_i ws hb
   split at h
   ·rename_i w' hp
    have h:=out_r h
    obtain⟨s1,h1,h2⟩:=Option.map_eq_some_iff.1 h
    injection h2 with h3 h4
    subst h3 h4
    obtain⟨f,b,o,ys,d1,d2,d3,d4,d5⟩:=wr_ok hc hS hb hx
    obtain⟨d,p1,p2⟩:=pick_ok d2 hp
    have hu:w'≠ .un:=by
     cases q with
     |none=>exact(noUn_some hp).2
     |some n=>
      simp only[pickW]at hp
      split at hp
      ·have:=Option.some.inj hp
       subst this
       intro q;cases q
      ·cases hp
    obtain⟨c1,c2,c3⟩:=strip_cells p2 hu
    have hlen:off+w'.strip.cells.length<=ws.length:=by
     rw[c2]
     cases q with
     |none=>
      have h0:=(pick_len hp).2
      have h1:w'.cells.length=1:=by
       obtain⟨y,_,hy⟩:=d2.get (noUn_some hp).1
       cases w' with
       |ag=>exact False.elim (by simpa[Rep2,Rep1,Rep0]using hy)
       |_=>rfl
      rw[h1];exact h0
     |some n=>obtain⟨a1,a2⟩:=pick_len hp;simp only at a1 a2;omega
    obtain⟨l',Y',g1,g2⟩:=d5 h1 c1 hlen
    refine⟨d,e,l',Y',g1,to4 p2,fun B hB=>?_⟩
    obtain⟨full,b1,b2,b3⟩:=d4 B hB
    simp only[evOp,rd_fst,d1,b1,pick_in p1 b2 b3,Option.map_some,g2 B hB full b1 e]
   ·exact h.elim
  ·exact h.elim
 ·exact h.elim
theorem stoX_1 {w:W} {d:D} (h:Rep2 c w d) (hw:w.stoX=true) (k:Nat):d.bnd1 k=true:=by
 cases w with
 |u τ x=>exact(flat_u h.2 hw).bnd k
 |nil=>obtain⟨z,rfl⟩:=h;rfl
 |np=>rw[show d= .v (.pointer none)from h];rfl
 |fp=>obtain⟨_,rfl,_⟩:=h;rfl
 |_=>cases hw
theorem stoX_b {w:W} {d:D} (hw:w.cells.all W.stoX=true) (h:Rep4 c w d) (k:Nat):d.bnd2 k=true:=by
 cases w with
 |ag cs=>
  obtain⟨ds,rfl,h2⟩:=h
  exact All2.all_r (fun w d hm q=>stoX_1 q (List.all_eq_true.1 hw w hm) k) h2
 |tp=>simp[W.cells,W.stoX]at hw
 |un=>simp[W.cells,W.stoX]at hw
 |gd=>simp[W.cells,W.stoX]at hw
 |_=>
  have hx2:=of3 (of4 h (fun _ q=>by cases q)) (fun _ q=>by cases q)
  simp only[W.cells,List.all_cons,List.all_nil,Bool.and_true]at hw
  rcases ag_d hx2 (fun _ q=>by cases q)with q|q|q
  ·cases q
  ·cases q
  have:∀{d:D},d.aggB=false->d.bnd2 k=d.bnd1 k:=fun{d} h=>by cases d<;>first|rfl|cases h
  rw[this q];exact stoX_1 hx2 hw k
theorem rd_l {p:Path} {x:Opd}:(rdW p x s).2.l=s.l:=by
 cases x with
 |m n=>cases p<;>rfl
 |_=>rfl
theorem opSt (hc:c.ok) (hS:RepS c s e l Y) {T:Tab} {a:Ty} {n:Nat} {x y:Opd} {w:W} {s':SU} (h:(evOpW T [] t a (.st n x y) s).out (some (w,s'))):SR c e l Y t (.st n x y) w s':=by
 have hx:=rdW_ok hS (act_nil e) x
 simp only[evOpW]at h
 split at h
 ·rename_i pb off hq _
  rw[hq]at hx
  split at h
  ·rename_i ws hb
   split at h
   ·rename_i hcond
    obtain⟨k1,k2,k3,k4⟩:=hcond
    have h:=out_r h
    obtain⟨s1,h1,h2⟩:=Option.map_eq_some_iff.1 h
    injection h2 with h3 h4
    subst h3 h4
    have hS1:=rdW_st hS y
    obtain⟨f,b,o,ys,d1,d2,d3,d4,d5⟩:=wr_ok hc hS1 (by rw[getBx_rd];exact hb) hx
    obtain⟨q1,q2,q3⟩:=cells_ok hc (rdW_ok hS (act_nil e) y) k3
    obtain⟨l',Y',g1,g2⟩:=d5 h1 q1 (by omega)
    refine⟨.u,rdN e y,l',Y',g1,trivial,fun B hB=>?_⟩
    obtain⟨full,b1,b2,b3⟩:=d4 B hB
    have hl1:=q1.length
    have hl2:=d2.length
    simp only[evOp,rd_fst,rd_snd,d1,b1]
    have hbn:(rdE e y).bnd2 (f+1)=true:=by
     cases pb with
     |own b'=>
      rw[show rdE e x= .ptr c.n b' off from hx]at d1
      injection d1 with d1
      rw[<-d1];exact q2
     |ext i=>
      exact stoX_b k4 (rdW_ok hS (act_nil e) y) _
    rw[if_pos ⟨by omega,by omega,hbn,q3⟩,g2 B hB full b1]
   ·exact h.elim
  ·exact h.elim
 ·rename_i b τ i off hq _
  rw[hq]at hx
  split at h
  ·rename_i τ' m xs0 hb
   split at h
   ·rename_i xs hcast
    split at h
    ·rename_i hcond
     obtain⟨k1,k2,k3⟩:=hcond
     obtain⟨v,o1,o2⟩:=out_b h
     obtain⟨e1,e2⟩:=mu_cast hcast
     subst e1
     subst e2
     obtain⟨x',p1,p2⟩:=Option.map_eq_some_iff.1 o2
     injection p2 with p2 p3
     subst p2 p3
     have hS1:=rdW_st hS y
     have hl:lkW b (rdW [] y s).2.l=some [.lb τ' m xs0]:=by rw[rd_l];exact hb
     obtain⟨es,d,q1,q0,q2,q3,ha,hlk,hd,hr,hi⟩:=lb_at hS1 hl o1
     obtain⟨f1,f2⟩:=flat_at (els_len q1.2 ha) hd
     have hz:=el_len q1.2 hr
     obtain⟨c1,c2,c3⟩:=cells_ok hc (rdW_ok hS (act_nil e) y) k3
     have hel:All2 (Rep2 c) (elW τ' v) d.cells:=(elW_ok q1.2 hr).mono fun _ _ _ q=>to2 (to1 q)
     have hov:All2 (Rep2 c) (overW (elW τ' v) off (rdW [] y s).1.cells) (over d.cells off (rdE e y).cells):=by
      unfold overW over
      rw[c1.length]
      exact((hel.take off).app c1).app (hel.drop _)
     obtain⟨d',r1,r2⟩:=elT_ok p1 hov q1.1
     have hlen:=el_len q1.2 r1
     have hfs:=flat_set (els_len q1.2 ha) hd hlen
     have hcl:=c1.length
     have hfull:over (es.flatMap D.cells) (i.toNat*csz τ'+off) (rdE e y).cells=(es.set i.toNat d').flatMap D.cells:=by
      have hid:over (es.flatMap D.cells) (i.toNat*csz τ') d.cells=es.flatMap D.cells:=over_id (by rw[hz];exact f2) (by rw[hz];exact f1)
      have h1:=over_in (cs:=es.flatMap D.cells) (ys:=d.cells) (zs:=(rdE e y).cells) (o:=i.toNat*csz τ') (k:=off) (by rw[hz];exact f1) (by rw[hz];omega)
      rw[hid]at h1
      rw[h1,hfs,r2]
     refine⟨.u,rdN e y,sb b ((es.set i.toNat d').flatMap D.cells) l,Y,⟨hS1.env,fun b' ws' hb'=>?_,fun b' hb'=>hS1.nm b' fun q=>hb' ?_,hS1.ext,hS1.wr,hS1.len,hS1.ro⟩,trivial,fun B hB=>?_⟩
     ·simp only[lkW_sbW]at hb'
      rw[lk_sb]
      by_cases e:b'=b
      ·rw[if_pos e,hl]at hb'
       rw[if_pos e,hlk]
       have:=Option.some.inj hb'
       subst this
       exact(show BRep c [.lb τ' m (List.set (α:=τ'.T) xs0 i.toNat x')] _ from⟨q1,q0,by rw[List.length_set];exact q2,by rw[List.length_set];exact q3,_,ha.set _ r1,.inl rfl⟩)
      ·rw[if_neg e]at hb' ⊢
       exact hS1.box b' ws' hb'
     ·rw[lk_sb]
      by_cases e:b'=b
      ·rw[e]at q;rw[hlk]at q;cases q
      ·rw[if_neg e];exact q
     ·simp only[evOp,rd_fst,rd_snd,hx.2,bx_own (fam_len hB Y),hlk]
      rw[if_pos ⟨by omega,by omega,c2,c3⟩,hfull]
      unfold sbx
      rw[if_pos (fam_len hB Y).symm]
      rfl
    ·exact h.elim
   ·exact h.elim
  ·exact h.elim
 ·exact h.elim
theorem one_csz {τ:Ty} (h:τ.one=true):csz τ=1:=by cases τ<;>first|rfl|cases h
theorem one_el {τ:Ty} (h:τ.one=true) (hk:eleOk τ=true):elOk τ=true:=by cases τ<;>first|exact hk|cases h
theorem one_flat {P:Caller} {F:List Fx} {τ:Ty} (hk:elOk τ=true):∀{xs:List τ.T} {es:List D},All2 (fun y e=>RepL P τ F y [e]) xs es->es.flatMap D.cells=es∧∀e∈es,e.rf1=true
 |[],[],_=>⟨rfl,fun e h=>by cases h⟩
 |x::xs,e::es,h=>by
  obtain⟨q1,q2⟩:=elOk_rf h.1 hk
  obtain⟨r1,r2⟩:=one_flat hk h.2
  refine⟨by rw[List.flatMap_cons,q2,r1];rfl,fun d hd=>?_⟩
  rcases List.mem_cons.1 hd with rfl|hd
  ·exact q1
  ·exact r2 d hd
 |[],_::_,h=>h.elim
 |_::_,[],h=>h.elim
theorem rf1_bnd' {k:Nat} {d:D} (h:d.rf1=true):d.bnd1 k=true∧d.sto1=true:=by
 cases d with
 |v y=>exact⟨rfl,h⟩
 |sl m z xs=>exact⟨rfl,rfl⟩
 |_=>cases h
theorem opCpy (hc:c.ok) (hS:RepS c s e l Y) {T:Tab} {a:Ty} {x y:Opd} {w:W} {s':SU} (h:(evOpW T [] t a (.cpy x y) s).out (some (w,s'))):SR c e l Y t (.cpy x y) w s':=by
 have hx:=rdW_ok hS (act_nil e) x
 have hy:=rdW_ok hS (act_nil e) y
 simp only[evOpW]at h
 split at h
 ·rename_i b τ lo n _ hq
  rw[hq]at hx
  obtain⟨⟨n0,n1,l0⟩,hd⟩:=(show Rep4 c (.rs b τ lo n) _ from hx)
  split at h
  ·rename_i τ' m xs0 ys hb hys
   split at h
   ·rename_i xs hcast
    split at h
    ·rename_i hone
     obtain⟨r,o1,o2⟩:=out_b h
     obtain⟨e1,e2⟩:=mu_cast hcast
     subst e1
     subst e2
     injection Option.some.inj o2 with p2 p3
     subst p2 p3
     simp only[cpyL]at o1
     split at o1
     ·rename_i hle
      have o1:=Option.some.inj o1
      subst o1
      obtain⟨⟨hk,hv⟩,hmk,hlen,hl,es,ha,hlk⟩:=(show BRep c [.lb τ' m xs0] (lk b l)from hS.box b _ hb)
      obtain⟨_,hyr⟩:=oneT_ok hys hy
      obtain⟨hyl,fs,hfa,hyd⟩:=l_d hyr
      have hcz:=one_csz hone
      have hkk:=one_el hone hk
      obtain⟨f1,f2⟩:=one_flat hkk hfa
      obtain⟨f3,f4⟩:=one_flat hkk (hfa.take n.toNat)
      obtain⟨f5,f6⟩:=one_flat hkk ha
      have hfl:=hfa.length
      have hel:=ha.length
      have hyd':∃mm z',rdE e y= .sl mm z' fs∧mm≠ .mu∧mm≠ .app∧(z'=1∨fs.isEmpty=true):=by
       rcases hyd with hyd|⟨rfl,z,hyd⟩
       ·exact⟨_,_,hyd,by decide,by decide,.inl hcz⟩
       ·exact⟨_,_,hyd,by decide,by decide,.inr rfl⟩
      obtain⟨mm,z',hyd',m1,m2,m3⟩:=hyd'
      have hint:Rep4 c (.u (.i .i64) ((min (List.length (α:=τ'.T) ys) n.toNat:Nat):Int)) (.v (.int .i64 ((min fs.length n.toNat:Nat):Int))):=by
       rw[hfl]
       exact u_i (nat_in _ (by have:=hyl;unfold maxLn at this;omega))
      have box:∀{L:Bx} {r:List τ'.T},(∀b',b'≠b->lk b' L=lk b' l)->BRep c [.lb τ' m r] (lk b L)->∀b' ws,lkW b' (sbW b [.lb τ' m r] s.l)=some ws->BRep c ws (lk b' L):=fun hL h0 b' ws hb'=>by
       rw[lkW_sbW]at hb'
       by_cases e:b'=b
       ·rw[if_pos e,hb]at hb'
        have:=Option.some.inj hb'
        subst this
        rw[e];exact h0
       ·rw[if_neg e]at hb'
        rw[hL b' e];exact hS.box b' ws hb'
      by_cases hn:n.toNat=0
      ·have hr:xs0.take (lo.getD 0).toNat++ys.take n.toNat++xs0.drop ((lo.getD 0).toNat+min ys.length n.toNat)=xs0:=by simp[hn]
       refine⟨.v (.int .i64 ((min fs.length n.toNat:Nat):Int)),e,l,Y,⟨hS.env,?_,hS.nm,hS.ext,hS.wr,hS.len,hS.ro⟩,hint,fun B hB=>?_⟩
       ·rw[hr]
        exact box (fun _ _=>rfl) (hS.box b _ hb)
       ·rcases hd with hd|⟨_,z,hd⟩
        ·simp only[evOp,rd_fst,hd,hyd']
         rw[if_pos ⟨m1,m2⟩,if_pos hn,hn];simp
        ·simp only[evOp,rd_fst,hd,hyd']
         rw[if_pos ⟨m1,m2⟩,hn];simp
      ·rcases hd with hd|⟨h0,_⟩
       ·rcases hlk with hlk|⟨h0,_⟩
        ·rw[f5]at hlk
         have hmin:((ys.take n.toNat).length)=min ys.length n.toNat:=by simp[Nat.min_comm]
         have hov:over es (lo.getD 0).toNat (fs.take n.toNat)=es.take (lo.getD 0).toNat++fs.take n.toNat++es.drop ((lo.getD 0).toNat+min ys.length n.toNat):=by
          unfold over
          rw[show(fs.take n.toNat).length=min ys.length n.toNat by simp[Nat.min_comm,hfl]]
         have hall:=((ha.take (lo.getD 0).toNat).app (hfa.take n.toNat)).app (ha.drop ((lo.getD 0).toNat+min ys.length n.toNat))
         rw[<-hov]at hall
         have hlenr:(xs0.take (lo.getD 0).toNat++ys.take n.toNat++xs0.drop ((lo.getD 0).toNat+min ys.length n.toNat)).length=xs0.length:=by
          simp;omega
         generalize xs0.take (lo.getD 0).toNat++ys.take n.toNat++xs0.drop ((lo.getD 0).toNat+min ys.length n.toNat)=r at hall hlenr
         obtain⟨g1,g2⟩:=one_flat hkk hall
         refine⟨.v (.int .i64 ((min fs.length n.toNat:Nat):Int)),e,sb b (over es (lo.getD 0).toNat (fs.take n.toNat)) l,Y,⟨hS.env,?_,fun b' hb'=>hS.nm b' fun q=>hb' ?_,hS.ext,hS.wr,hS.len,hS.ro⟩,hint,fun B hB=>?_⟩
         ·refine box (fun b' hb'=>by rw[lk_sb,if_neg hb']) ?_
          rw[lk_sb,if_pos rfl,hlk]
          exact(show BRep c [.lb τ' m r] _ from⟨⟨hk,hv⟩,hmk,by rw[hlenr];exact hlen,by rw[hlenr];exact hl,_,hall,.inl (by rw[g1];rfl)⟩)
         ·rw[lk_sb]
          by_cases e:b'=b
          ·rw[e]at q;rw[hlk]at q;cases q
          ·rw[if_neg e];exact q
         ·have hfull:(fs.take n.toNat).flatMap D.cells=fs.take n.toNat:=f3
          simp only[evOp,rd_fst,hd,hyd']
          rw[if_pos ⟨m1,m2⟩,if_neg hn,bx_own (fam_len hB Y),hlk]
          simp only
          rw[hfull,hcz,Nat.mul_one,if_pos ⟨rfl,m3,by omega,by simp[Nat.min_comm],List.all_eq_true.2 fun d hd=>(rf1_bnd' (f4 d hd)).1,List.all_eq_true.2 fun d hd=>(rf1_bnd' (k:=0) (f4 d hd)).2⟩]
          unfold sbx
          rw[if_pos (fam_len hB Y).symm]
          rfl
        ·subst h0
         have:=ha.length
         simp only[List.length_nil]at this
         omega
       ·omega
     ·cases o1
    ·exact h.elim
   ·exact h.elim
  ·exact h.elim
 ·exact h.elim
end
end Go.Proofs.Ytfopbiiffiickaa.Ev.U
