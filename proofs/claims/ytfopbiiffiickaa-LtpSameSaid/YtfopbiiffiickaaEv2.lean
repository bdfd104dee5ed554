/- Steps in which nothing happens, but is told otherwise: a list becomes a variable; a variable is never written again. Conditions: none. -/
import Derived.Test.YtfopbiiffiickaaEvX
import Derived.OrdersIn
import Derived.Test.YtfopbiiffiickaaEv6
set_option linter.all false
namespace Go.Proofs.Ytfopbiiffiickaa.Ev
open Go
theorem Ba.co_ne {k:Nat} {a b:Ba} (h:a.co k b=true) (hw:a.w=true∨b.w=true) (hd:a.dj b=false) {x y:Nat×Nat} (hx:a.loc k=some x) (hy:b.loc k=some y):x≠y:=by
 intro e
 subst e
 unfold Ba.co at h
 rw[hx,hy]at h
 rcases hw with hw|hw<;>simp[hw,hd]at h
theorem lk_ins_ne {t b:Nat} {ds:List D} {l:Bx} (h:b≠t):lk b (ins t ds l)=lk b l:=by
 induction l with
 |nil=>simp[ins,lk,h]
 |cons p r ih=>
  obtain⟨c,es⟩:=p
  unfold ins
  split
  ·simp only[lk,if_neg h]
  ·simp only[lk,ih]
theorem lk_ins_self {t:Nat} {ds:List D} {l:Bx}:(lk t (ins t ds l)).isSome:=by
 induction l with
 |nil=>simp[ins,lk]
 |cons p r ih=>
  obtain⟨c,es⟩:=p
  unfold ins
  split
  ·simp[lk]
  ·simp only[lk];split
   ·rfl
   ·exact ih
theorem sb_comm {b b':Nat} {x y:List D} (h:b≠b') (l:Bx):sb b x (sb b' y l)=sb b' y (sb b x l):=by
 induction l with
 |nil=>rfl
 |cons p r ih=>
  obtain⟨c,es⟩:=p
  by_cases h1:b=c
  ·subst h1
   have h2:¬ b'=b:=fun e=>h e.symm
   simp[sb,h2]
  ·by_cases h2:b'=c
   ·subst h2;simp[sb,h1]
   ·simp[sb,h1,h2,ih]
theorem sb_ins {b t:Nat} {x ds:List D} (h:b≠t) (l:Bx):sb b x (ins t ds l)=ins t ds (sb b x l):=by
 induction l with
 |nil=>simp[ins,sb,h]
 |cons p r ih=>
  obtain⟨c,es⟩:=p
  unfold ins
  by_cases h1:b=c
  ·subst h1
   by_cases h2:t<=b
   ·simp[h2,sb,h]
   ·simp[h2,sb]
  ·by_cases h2:t<=c
   ·simp[h2,sb,h,h1]
   ·simp[h2,sb,h1,ih]
theorem ins_comm {t t':Nat} {x y:List D} (h:t≠t') (l:Bx):ins t x (ins t' y l)=ins t' y (ins t x l):=by
 induction l with
 |nil=>
  simp only[ins]
  by_cases h1:t<=t'
  ·have:¬ t'<=t:=by omega
   simp[h1,this]
  ·have:t'<=t:=by omega
   simp[h1,this]
 |cons p r ih=>
  obtain⟨c,es⟩:=p
  by_cases h1:t<=c<;>by_cases h2:t'<=c
  ·by_cases h3:t<=t'
   ·have:¬ t'<=t:=by omega
    simp[ins,h1,h2,h3,this]
   ·have:t'<=t:=by omega
    simp[ins,h1,h2,h3,this]
  ·have h3:t<=t':=by omega
   have h4:¬ t'<=t:=by omega
   simp[ins,h1,h2,h4]
  ·have h3:¬ t<=t':=by omega
   simp[ins,h1,h2,h3]
  ·simp[ins,h1,h2,ih]
section
variable {c:Caller} {s s':S} {k:Nat}
theorem sbx_ol (f b:Nat) (ds:List D) (s:S):(sbx f b ds s).o.length=s.o.length:=by unfold sbx;split<;>simp[S.wl,S.wo]
theorem Ba.ap_ol (a:Ba) (s:S):(a.ap s).o.length=s.o.length:=by cases a<;>first|rfl|exact sbx_ol ..
theorem Ba.ap_e (a:Ba) (s:S):(a.ap s).e=s.e:=by
 cases a with
 |wr f b off cs=>exact sbx_e ..
 |_=>rfl
theorem bx_sbx_ne {f b f' b':Nat} {ds:List D} (h:(f',b')≠(f,b)):bx f b (sbx f' b' ds s)=bx f b s:=by
 unfold bx
 rw[sbx_ol]
 unfold sbx
 by_cases h1:f'=s.o.length
 ·rw[if_pos h1]
  by_cases h2:f=s.o.length
  ·rw[if_pos h2,if_pos h2]
   have:b≠b':=fun e=>h (by rw[h1,h2,e])
   simp only[S.wl]
   rw[lk_sb,if_neg this]
  ·rw[if_neg h2,if_neg h2];rfl
 ·rw[if_neg h1]
  by_cases h2:f=s.o.length
  ·rw[if_pos h2,if_pos h2];rfl
  ·rw[if_neg h2,if_neg h2]
   simp only[S.wo,List.getElem?_modify]
   by_cases h3:f'=f
   ·subst h3
    have:b≠b':=fun e=>h (by rw[e])
    cases hq:s.o[f']? with
    |none=>rfl
    |some L=>simp[lk_sb,this]
   ·simp[h3]
theorem Ba.bx_ap {a:Ba} {f b:Nat} (h:a.w=true->a.loc s.o.length≠some (f,b)):bx f b (a.ap s)=bx f b s:=by
 cases a with
 |no=>rfl
 |rd f' b' o n=>rfl
 |wr f' b' off cs=>exact bx_sbx_ne fun e=>h rfl (by rw[<-e];rfl)
 |al t ds=>
  have h':=h rfl
  show bx f b (s.wl (ins t ds s.l))=_
  unfold bx
  by_cases e:f=s.o.length
  ·rw[if_pos e,if_pos (show f=(s.wl (ins t ds s.l)).o.length from e)]
   exact lk_ins_ne fun e'=>h' (by rw[e,e'];rfl)
  ·rw[if_neg e,if_neg (show ¬ f=(s.wl (ins t ds s.l)).o.length from e)];rfl
theorem Ba.lk_up {a:Ba} {t:Nat} (h:lk t (a.ap s).l=none):lk t s.l=none:=by
 cases a with
 |no=>exact h
 |rd f' b'=>exact h
 |wr f' b' off cs=>
  simp only[Ba.ap,sbx]at h
  split at h
  ·simp only[S.wl,lk_sb]at h
   split at h
   ·rename_i e;subst e;simpa using h
   ·exact h
  ·exact h
 |al t' ds=>
  simp only[Ba.ap,S.wl]at h
  by_cases e:t=t'
  ·subst e;have:=lk_ins_self (t:=t) (ds:=ds) (l:=s.l);rw[h]at this;cases this
  ·rwa[lk_ins_ne e]at h
theorem Ba.lk_ap {a:Ba} {t:Nat} (h:lk t s.l=none) (hl:a.w=true->a.loc s.o.length≠some (s.o.length,t)):lk t (a.ap s).l=none:=by
 cases a with
 |no=>exact h
 |rd f' b'=>exact h
 |wr f' b' off cs=>
  simp only[Ba.ap,sbx]
  split
  ·simp only[S.wl,lk_sb]
   split
   ·rename_i e;subst e;rw[h];rfl
   ·exact h
  ·exact h
 |al t' ds=>
  simp only[Ba.ap,S.wl]
  rw[lk_ins_ne fun e=>hl rfl (by rw[e];rfl)]
  exact h
theorem sbx_l {f b:Nat} {x:List D} (h:f=s.o.length):sbx f b x s=s.wl (sb b x s.l):=if_pos h
theorem sbx_o {f b:Nat} {x:List D} (h:¬ f=s.o.length):sbx f b x s=s.wo (s.o.modify f (sb b x)):=if_neg h
theorem sbx_comm {f b f' b':Nat} {x y:List D} (h:(f,b)≠(f',b')) (s:S):sbx f b x (sbx f' b' y s)=sbx f' b' y (sbx f b x s):=by
 have e1:=sbx_ol f' b' y s
 have e2:=sbx_ol f b x s
 by_cases h1:f=s.o.length<;>by_cases h2:f'=s.o.length
 ·have hb:b≠b':=fun e=>h (by rw[h1,h2,e])
  rw[sbx_l (s:=sbx f' b' y s) (by rw[e1];exact h1),sbx_l (s:=sbx f b x s) (by rw[e2];exact h2),sbx_l h1,sbx_l h2]
  simp only[S.wl,sb_comm hb]
 ·rw[sbx_l (s:=sbx f' b' y s) (by rw[e1];exact h1),sbx_o (s:=sbx f b x s) (by rw[e2];exact h2),sbx_l h1,sbx_o h2]
  rfl
 ·rw[sbx_o (s:=sbx f' b' y s) (by rw[e1];exact h1),sbx_l (s:=sbx f b x s) (by rw[e2];exact h2),sbx_o h1,sbx_l h2]
  rfl
 ·rw[sbx_o (s:=sbx f' b' y s) (by rw[e1];exact h1),sbx_o (s:=sbx f b x s) (by rw[e2];exact h2),sbx_o h1,sbx_o h2]
  simp only[S.wo]
  congr 1
  refine List.ext_getElem? fun i=>?_
  simp only[List.getElem?_modify]
  by_cases h3:f=i<;>by_cases h4:f'=i
  ·have hb:b≠b':=fun e=>h (by rw[h3,h4,e])
   cases hq:s.o[i]? with
   |none=>simp[h3,h4]
   |some L=>simp[h3,h4,sb_comm hb]
  ·simp[h3,h4]
  ·simp[h3,h4]
  ·simp[h3,h4]
theorem sbx_wl {f b t:Nat} {x ds:List D} (h:(f,b)≠(s.o.length,t)):sbx f b x (s.wl (ins t ds s.l))=(sbx f b x s).wl (ins t ds (sbx f b x s).l):=by
 by_cases h1:f=s.o.length
 ·have hb:b≠t:=fun e=>h (by rw[h1,e])
  rw[sbx_l h1,sbx_l (s:=s.wl (ins t ds s.l)) h1]
  simp only[S.wl,sb_ins hb]
 ·rw[sbx_o h1,sbx_o (s:=s.wl (ins t ds s.l)) h1]
  rfl
theorem Ba.comm {a b:Ba} (h:a.co s.o.length b=true):b.ap (a.ap s)=a.ap (b.ap s):=by
 cases a with
 |no=>rfl
 |rd f1 b1 o1 n1=>rfl
 |wr f1 b1 o1 c1=>
  cases b with
  |no=>rfl
  |rd f2 b2 o2 n2=>rfl
  |wr f2 b2 o2 c2=>
   have hne:=Ba.co_ne h (.inl rfl) rfl rfl rfl
   have e1:bx f2 b2 ((Ba.wr f1 b1 o1 c1).ap s)=bx f2 b2 s:=Ba.bx_ap fun _ e=>hne (by injection e)
   have e2:bx f1 b1 ((Ba.wr f2 b2 o2 c2).ap s)=bx f1 b1 s:=Ba.bx_ap fun _ e=>hne (by injection e with e;exact e.symm)
   show sbx f2 b2 (over ((bx f2 b2 ((Ba.wr f1 b1 o1 c1).ap s)).getD []) o2 c2) ((Ba.wr f1 b1 o1 c1).ap s)=sbx f1 b1 (over ((bx f1 b1 ((Ba.wr f2 b2 o2 c2).ap s)).getD []) o1 c1) ((Ba.wr f2 b2 o2 c2).ap s)
   rw[e1,e2]
   exact sbx_comm (fun e=>hne e.symm) s
  |al t ds=>
   have hne:=Ba.co_ne h (.inl rfl) rfl rfl rfl
   have e2:bx f1 b1 ((Ba.al t ds).ap s)=bx f1 b1 s:=Ba.bx_ap fun _ e=>hne (by injection e with e;exact e.symm)
   show _=sbx f1 b1 (over ((bx f1 b1 ((Ba.al t ds).ap s)).getD []) o1 c1) ((Ba.al t ds).ap s)
   rw[e2]
   exact(sbx_wl hne).symm
 |al t ds=>
  cases b with
  |no=>rfl
  |rd f2 b2 o2 n2=>rfl
  |wr f2 b2 o2 c2=>
   have hne:=Ba.co_ne h (.inl rfl) rfl rfl rfl
   have e1:bx f2 b2 ((Ba.al t ds).ap s)=bx f2 b2 s:=Ba.bx_ap fun _ e=>hne (by injection e)
   show sbx f2 b2 (over ((bx f2 b2 ((Ba.al t ds).ap s)).getD []) o2 c2) ((Ba.al t ds).ap s)=_
   rw[e1]
   exact sbx_wl fun e=>hne e.symm
  |al t2 ds2=>
   have hne:=Ba.co_ne h (.inl rfl) rfl rfl rfl
   show s.wl (ins t2 ds2 (ins t ds s.l))=s.wl (ins t ds (ins t2 ds2 s.l))
   rw[ins_comm fun e=>hne (by rw[e])]
theorem Ba.ap_lo (a:Ba) (h1:s.l=s'.l) (h2:s.o=s'.o):(a.ap s).l=(a.ap s').l∧(a.ap s).o=(a.ap s').o:=by
 have hb:∀f b,bx f b s=bx f b s':=fun f b=>by unfold bx;rw[h1,h2]
 cases a with
 |no=>exact⟨h1,h2⟩
 |rd f b o n=>exact⟨h1,h2⟩
 |wr f b off cs=>
  simp only[Ba.ap,hb]
  unfold sbx
  rw[h2]
  split
  ·exact⟨by simp only[S.wl,h1],by simp only[S.wl,h2]⟩
  ·exact⟨by simp only[S.wo,h1],by simp only[S.wo,h2]⟩
 |al t ds=>exact⟨by simp only[Ba.ap,S.wl,h1],by simp only[Ba.ap,S.wl,h2]⟩
theorem Ins.ap_l (i:Ins) (t:Option Nat) (s:S):(i.ap t s).l=(i.a.ap s).l∧(i.ap t s).o=(i.a.ap s).o:=by
 unfold Ins.ap
 cases t<;>cases i.mv<;>exact⟨rfl,rfl⟩
theorem Ins.ap_ol (i:Ins) (t:Option Nat) (s:S):(i.ap t s).o.length=s.o.length:=by rw[(i.ap_l t s).2,Ba.ap_ol]
theorem moved_get (m:Option Nat) (n:Nat) (s:S):get n (moved m s).e=if m=some n then(get n s.e).strip else get n s.e:=by
 cases m with
 |none=>simp[moved]
 |some q=>
  simp only[moved,put,get,Option.some.injEq]
  by_cases e:n=q
  ·subst e;simp
  ·have:¬ q=n:=fun e'=>e e'.symm
   simp[e,this]
theorem putO_get (t:Option Nat) (d:D) (n:Nat) (s:S):get n (putO t d s).e=if t=some n then d else get n s.e:=by
 cases t with
 |none=>simp[putO]
 |some q=>
  simp only[putO,put,get,Option.some.injEq]
  by_cases e:n=q
  ·subst e;simp
  ·have:¬ q=n:=fun e'=>e e'.symm
   simp[e,this]
theorem Ins.ap_get (i:Ins) (t:Option Nat) (n:Nat) (s:S):get n (i.ap t s).e=if t=some n then i.d else if i.mv=some n then(get n s.e).strip else get n s.e:=by
 unfold Ins.ap
 rw[putO_get,moved_get,Ba.ap_e]
theorem Ins.ap_get_same (i:Ins) (t:Option Nat) {n:Nat} (h:get n s.e=get n s'.e):get n (i.ap t s).e=get n (i.ap t s').e:=by rw[Ins.ap_get,Ins.ap_get,h]
def Stp.ws (p:Stp):List Nat:=p.t.toList++p.op.ms.toList
theorem inst_mv {t:Option Nat} {p:Op} {i:Ins} (h:inst c t p s=some i):i.mv=none∨i.mv=p.ms:=by
 unfold inst at h
 split at h
 ·split at h
  ·split at h
   ·obtain⟨d,q1,q2⟩:=Option.map_eq_some_iff.1 h;subst q2;exact .inl rfl
   ·cases h
  ·obtain⟨d,q1,q2⟩:=Option.map_eq_some_iff.1 h;subst q2;exact .inl rfl
  ·cases h
 ·split at h
  ·split at h
   ·obtain⟨d,q1,q2⟩:=Option.map_eq_some_iff.1 h;subst q2;exact .inl rfl
   ·cases h
  ·cases h
 ·split at h
  ·split at h
   ·split at h
    ·injection h with h;subst h;exact .inr rfl
    ·cases h
   ·cases h
  ·cases h
 ·split at h
  ·split at h
   ·injection h with h;subst h;exact .inl rfl
   ·cases h
  ·split at h
   case isFalse=>cases h
   split at h
   ·injection h with h;subst h;exact .inl rfl
   split at h
   ·split at h
    ·injection h with h;subst h;exact .inl rfl
    ·cases h
   ·cases h
  ·cases h
 ·split at h
  ·split at h
   ·injection h with h;subst h;exact .inl rfl
   ·cases h
  ·cases h
 ·split at h
  ·obtain⟨d,q1,q2⟩:=Option.map_eq_some_iff.1 h;subst q2;exact .inl rfl
  ·cases h
 ·split at h
  ·obtain⟨d,q1,q2⟩:=Option.map_eq_some_iff.1 h;subst q2;exact .inl rfl
  ·cases h
 ·split at h
  ·split at h
   ·obtain⟨d,q1,q2⟩:=Option.map_eq_some_iff.1 h;subst q2;exact .inl rfl
   ·cases h
  ·cases h
 ·split at h
  ·obtain⟨d,q1,q2⟩:=Option.map_eq_some_iff.1 h;subst q2;exact .inr rfl
  ·cases h
theorem inst_al {t:Option Nat} {p:Op} {i:Ins} (h:inst c t p s=some i) {t':Nat} {ds:List D} (ha:i.a= .al t' ds):lk t' s.l=none:=by
 unfold inst at h
 split at h
 ·split at h
  ·split at h
   ·obtain⟨d,q1,q2⟩:=Option.map_eq_some_iff.1 h;subst q2;cases ha
   ·cases h
  ·obtain⟨d,q1,q2⟩:=Option.map_eq_some_iff.1 h;subst q2;cases ha
  ·cases h
 ·split at h
  ·split at h
   ·obtain⟨d,q1,q2⟩:=Option.map_eq_some_iff.1 h;subst q2;cases ha
   ·cases h
  ·cases h
 ·split at h
  ·split at h
   ·split at h
    ·injection h with h;subst h;cases ha
    ·cases h
   ·cases h
  ·cases h
 ·split at h
  ·split at h
   ·injection h with h;subst h;cases ha
   ·cases h
  ·split at h
   case isFalse=>cases h
   split at h
   ·injection h with h;subst h;cases ha
   split at h
   ·split at h
    ·injection h with h;subst h;cases ha
    ·cases h
   ·cases h
  ·cases h
 ·split at h
  ·split at h
   ·rename_i hl;injection h with h;subst h;injection ha with ha;rw[<-ha];exact hl
   ·cases h
  ·cases h
 ·split at h
  ·obtain⟨d,q1,q2⟩:=Option.map_eq_some_iff.1 h;subst q2;cases ha
  ·cases h
 ·split at h
  ·obtain⟨d,q1,q2⟩:=Option.map_eq_some_iff.1 h;subst q2;cases ha
  ·cases h
 ·split at h
  ·split at h
   ·obtain⟨d,q1,q2⟩:=Option.map_eq_some_iff.1 h;subst q2;cases ha
   ·cases h
  ·cases h
 ·split at h
  ·obtain⟨d,q1,q2⟩:=Option.map_eq_some_iff.1 h;subst q2;cases ha
  ·cases h
theorem pick_over {ds:List D} {o o':Nat} {c:D} {q:Option Nat} (h:o+q.getD 1<=o'∨o'+1<=o) (hl:o'<ds.length):pick q (over ds o' [c]) o=pick q ds o:=by
 have hlen:(over ds o' [c]).length=ds.length:=by simp[over];omega
 have hget:∀k,k≠o'->(over ds o' [c])[k]? =ds[k]? :=fun k hk=>by
  simp only[over,List.append_assoc,List.length_singleton]
  rcases Nat.lt_or_ge k o' with h1|h1
  ·rw[List.getElem?_append_left (by simp;omega),List.getElem?_take,if_pos h1]
  ·rw[List.getElem?_append_right (by simp;omega),List.length_take,Nat.min_eq_left (by omega),List.getElem?_append_right (by simp;omega),List.getElem?_drop]
   congr 1;simp;omega
 cases q with
 |none=>simp only[pick,Option.getD_none]at h ⊢;exact hget _ (by omega)
 |some n=>
  simp only[pick,hlen,Option.getD_some]at h ⊢
  split
  ·have:List.take n (List.drop o (over ds o' [c]))=List.take n (List.drop o ds):=by
    apply List.ext_getElem?
    intro k
    rw[List.getElem?_take,List.getElem?_take]
    split
    ·rw[List.getElem?_drop,List.getElem?_drop];exact hget _ (by omega)
    ·rfl
   rw[this]
  ·rfl
theorem bx_sbx_self {f b:Nat} {ds X:List D} (h:bx f b s=some ds):bx f b (sbx f b X s)=some X:=by
 unfold bx at h ⊢
 rw[sbx_ol]
 unfold sbx
 by_cases h1:f=s.o.length
 ·rw[if_pos h1]at h ⊢
  rw[if_pos h1]
  simp only[S.wl,lk_sb,if_true,h,Option.map_some]
 ·rw[if_neg h1]at h ⊢
  rw[if_neg h1]
  obtain⟨L,q1,q2⟩:=Option.bind_eq_some_iff.1 h
  simp only[S.wo,List.getElem?_modify,q1,if_true]
  show lk b (sb b X L)=some X
  rw[lk_sb,if_pos rfl,q2];rfl
theorem inst_wr {t:Option Nat} {p:Op} {i:Ins} (h:inst c t p s=some i) {f b o:Nat} {cs:List D} (ha:i.a= .wr f b o cs):∃ds,bx f b s=some ds∧(cs.length=1->o<ds.length):=by
 have pk:∀{n:Option Nat} {ds:List D} {o:Nat} {d:D},pick n ds o=some d->d.strip.cells.length=1->o<ds.length:=by
  intro n ds o d hp hl
  cases n with
  |none=>exact getq_lt hp
  |some m=>
   simp only[pick]at hp
   split at hp
   ·injection hp with hp
    subst hp
    simp[D.strip,D.strip2,D.cells]at hl
    omega
   ·cases hp
 unfold inst at h
 split at h
 ·split at h
  ·split at h
   ·obtain⟨d,q1,q2⟩:=Option.map_eq_some_iff.1 h;subst q2;cases ha
   ·cases h
  ·obtain⟨d,q1,q2⟩:=Option.map_eq_some_iff.1 h;subst q2;cases ha
  ·cases h
 ·split at h
  ·split at h
   ·rename_i hb
    obtain⟨d,q1,q2⟩:=Option.map_eq_some_iff.1 h
    subst q2
    injection ha with e1 e2 e3 e4
    subst e1 e2 e3 e4
    exact⟨_,hb,fun hl=>pk q1 hl⟩
   ·cases h
  ·cases h
 ·split at h
  ·split at h
   ·rename_i hb
    split at h
    ·rename_i hc
     injection h with h
     subst h
     injection ha with e1 e2 e3 e4
     subst e1 e2 e3 e4
     exact⟨_,hb,fun hl=>by have:=hc.1;have:=hc.2.1;omega⟩
    ·cases h
   ·cases h
  ·cases h
 ·split at h
  ·split at h
   ·injection h with h;subst h;cases ha
   ·cases h
  ·split at h
   case isFalse=>cases h
   split at h
   ·injection h with h;subst h;cases ha
   split at h
   ·rename_i hb
    split at h
    ·rename_i hc
     injection h with h
     subst h
     injection ha with e1 e2 e3 e4
     subst e1 e2 e3 e4
     exact⟨_,hb,fun hl=>by have:=hc.2.2.1;have:=hc.2.2.2.1;omega⟩
    ·cases h
   ·cases h
  ·cases h
 ·split at h
  ·split at h
   ·injection h with h;subst h;cases ha
   ·cases h
  ·cases h
 ·split at h
  ·obtain⟨d,q1,q2⟩:=Option.map_eq_some_iff.1 h;subst q2;cases ha
  ·cases h
 ·split at h
  ·obtain⟨d,q1,q2⟩:=Option.map_eq_some_iff.1 h;subst q2;cases ha
  ·cases h
 ·split at h
  ·split at h
   ·obtain⟨d,q1,q2⟩:=Option.map_eq_some_iff.1 h;subst q2;cases ha
   ·cases h
  ·cases h
 ·split at h
  ·obtain⟨d,q1,q2⟩:=Option.map_eq_some_iff.1 h;subst q2;cases ha
  ·cases h
theorem instS_cases {p:Stp} {i:Ins} (h:instS c p s=some i):inst c p.t p.op s=some i∨i=⟨.v undef,none,.no⟩:=by
 unfold instS at h
 split at h
 ·exact .inl h
 ·split at h
  ·split at h
   ·exact .inl h
   ·injection h with h;exact .inr h.symm
  ·injection h with h;exact .inr h.symm
  ·cases h
theorem instS_get {p:Stp} {i:Ins} (h:instS c p s=some i) {n:Nat} (hn:¬ n∈p.ws) (s':S):get n (i.ap p.t s').e=get n s'.e:=by
 simp only[Stp.ws,List.mem_append,Option.mem_toList,not_or]at hn
 rw[Ins.ap_get,if_neg (fun e=>hn.1 (by rw[e]))]
 rcases instS_cases h with h|h
 ·rcases inst_mv h with h|h
  ·simp[h]
  ·rw[h,if_neg fun e=>hn.2 (by rw[e])]
 ·rw[h];simp
theorem instS_al {p:Stp} {i:Ins} (h:instS c p s=some i) {t':Nat} {ds:List D} (ha:i.a= .al t' ds):lk t' s.l=none:=by
 rcases instS_cases h with h|h
 ·exact inst_al h ha
 ·rw[h]at ha;cases ha
theorem instS_wr {p:Stp} {i:Ins} (h:instS c p s=some i) {f b o:Nat} {cs:List D} (ha:i.a= .wr f b o cs):∃ds,bx f b s=some ds∧(cs.length=1->o<ds.length):=by
 rcases instS_cases h with h|h
 ·exact inst_wr h ha
 ·rw[h]at ha;cases ha
theorem rd_apart {a:Ba} {f b o n:Nat} (hw:∀f b o cs,a= .wr f b o cs->∃ds,bx f b s=some ds∧(cs.length=1->o<ds.length)) (hc:a.co s.o.length (.rd f b o n)=true) (q:Option Nat) (hq:q.getD 1=n):
  ((bx f b (a.ap s)).bind fun ds=>pick q ds o)=(bx f b s).bind fun ds=>pick q ds o:=by
 cases hd:a.dj (.rd f b o n)with
 |false=>rw[Ba.bx_ap fun hw e=>Ba.co_ne hc (.inl hw) hd e rfl rfl]
 |true=>
  cases a with
  |wr f' b' o' cs=>
   by_cases he:(f',b')=(f,b)
   ·injection he with e1 e2
    subst e1 e2
    obtain⟨ds,h1,h2⟩:=hw _ _ _ _ rfl
    simp only[Ba.dj,Bool.and_eq_true,beq_iff_eq,Bool.or_eq_true,decide_eq_true_eq]at hd
    obtain⟨hl,hr⟩:=hd
    obtain⟨c,rfl⟩:∃c,cs=[c]:=List.length_eq_one_iff.1 hl
    show((bx f' b' (sbx f' b' _ s)).bind _)=_
    rw[bx_sbx_self h1,h1]
    simp only[Option.getD_some,Option.bind_some]
    exact pick_over (by rw[hq];exact hr) (h2 rfl)
   ·rw[show bx f b ((Ba.wr f' b' o' cs).ap s)=bx f b s from bx_sbx_ne he]
  |_=>cases hd
theorem Ba.co_symm {k:Nat} {a b:Ba} (h:a.co k b=true):b.co k a=true:=by
 unfold Ba.co at h ⊢
 cases ha:a.loc k with
 |none=>cases b.loc k<;>rfl
 |some x=>
  cases hb:b.loc k with
  |none=>rfl
  |some y=>
   rw[ha,hb]at h
   simp only at h ⊢
   have e1:b.dj a=a.dj b:=by cases a<;>cases b<;>rfl
   have e2:(y.1==x.1&&y.2==x.2)=(x.1==y.1&&x.2==y.2):=by
    rw[Bool.eq_iff_iff];simp;constructor<;>(rintro⟨r1,r2⟩;exact⟨r1.symm,r2.symm⟩)
   rw[e1,e2,Bool.or_comm b.w a.w];exact h
def apart (p q:Stp):Bool:=p.ws.all (fun n=> !(q.rs.contains n)&& !(q.ws.contains n))&&q.ws.all (fun n=> !(p.rs.contains n)&& !(p.ws.contains n))
theorem apart_l {p q:Stp} (h:apart p q=true) {n:Nat} (hn:n∈p.ws):¬ n∈q.rs∧¬ n∈q.ws:=by
 have:=List.all_eq_true.1 (Bool.and_eq_true _ _▸h:_∧_).1 n hn
 simpa using this
theorem apart_r {p q:Stp} (h:apart p q=true) {n:Nat} (hn:n∈q.ws):¬ n∈p.rs∧¬ n∈p.ws:=by
 have:=List.all_eq_true.1 (Bool.and_eq_true _ _▸h:_∧_).2 n hn
 simpa using this
theorem swap {p q:Stp} {i j:Ins} (hi:instS c p s=some i) (hj:instS c q (i.ap p.t s)=some j) (ha:apart p q=true) (hco:i.a.co s.o.length j.a=true):
  instS c q s=some j∧instS c p (j.ap q.t s)=some i∧SEq (j.ap q.t (i.ap p.t s)) (i.ap p.t (j.ap q.t s)):=by
 have hbx:∀(i:Ins) (t:Option Nat) f b,bx f b (i.ap t s)=bx f b (i.a.ap s):=fun i t f b=>by unfold bx;rw[(i.ap_l t s).1,(i.ap_l t s).2]
 have h1:instS c q s=some j:=by
  refine instS_loc hj (fun n hn=>instS_get hi (fun hw=>(apart_l ha hw).1 hn) s) (i.ap_ol p.t s) ?_
  cases hja:j.a with
  |no=>trivial
  |rd f b o n=>intro q' hq';rw[hbx];exact rd_apart (fun f b o cs e=>instS_wr hi e) (by rw[<-hja];exact hco) q' hq'
  |wr f b off cs=>show bx f b (i.ap p.t s)=bx f b s;rw[hbx];exact Ba.bx_ap fun hw e=>Ba.co_ne hco (.inl hw) (by rw[hja];cases hia:i.a<;>first|rfl|(rw[hia]at hw;cases hw)) e (by rw[hja];rfl) rfl
  |al t ds=>
   have:=instS_al hj hja
   rw[(i.ap_l p.t s).1]at this
   exact Ba.lk_up this
 have h2:instS c p (j.ap q.t s)=some i:=by
  refine instS_loc hi (fun n hn=>(instS_get h1 (fun hw=>(apart_r ha hw).1 hn) s).symm) (j.ap_ol q.t s).symm ?_
  cases hia:i.a with
  |no=>trivial
  |rd f b o n=>intro q' hq';rw[hbx];exact(rd_apart (fun f b o cs e=>instS_wr h1 e) (by rw[<-hia];exact Ba.co_symm hco) q' hq').symm
  |wr f b off cs=>show bx f b s=bx f b (j.ap q.t s);rw[hbx];exact(Ba.bx_ap fun hw e=>Ba.co_ne hco (.inr hw) (by rw[hia];cases hja:j.a<;>first|rfl|(rw[hja]at hw;cases hw)) (by rw[hia];rfl) e rfl).symm
  |al t ds=>
   show lk t (j.ap q.t s).l=none
   rw[(j.ap_l q.t s).1]
   exact Ba.lk_ap (instS_al hi hia) fun hw e=>Ba.co_ne hco (.inr hw) (by rw[hia];cases j.a<;>rfl) (by rw[hia];rfl) e rfl
 refine⟨h1,h2,?_,?_,fun n=>?_⟩
 ·rw[(j.ap_l q.t _).1,(i.ap_l p.t _).1,(Ba.ap_lo j.a (i.ap_l p.t s).1 (i.ap_l p.t s).2).1,(Ba.ap_lo i.a (j.ap_l q.t s).1 (j.ap_l q.t s).2).1,Ba.comm hco]
 ·rw[(j.ap_l q.t _).2,(i.ap_l p.t _).2,(Ba.ap_lo j.a (i.ap_l p.t s).1 (i.ap_l p.t s).2).2,(Ba.ap_lo i.a (j.ap_l q.t s).1 (j.ap_l q.t s).2).2,Ba.comm hco]
 ·by_cases hp:n∈p.ws
  ·have hq:=(apart_l ha hp).2
   rw[instS_get h1 hq]
   exact(Ins.ap_get_same i p.t (instS_get h1 hq s)).symm
  ·rw[instS_get hi hp]
   exact Ins.ap_get_same j q.t (instS_get hi hp s)
theorem instS_seq {p:Stp} {i:Ins} (h:instS c p s=some i) (e:SEq s s'):instS c p s'=some i∧SEq (i.ap p.t s) (i.ap p.t s'):=by
 obtain⟨e1,e2,e3⟩:=e
 have hbx:∀f b,bx f b s=bx f b s':=fun f b=>by unfold bx;rw[e1,e2]
 refine⟨instS_loc h (fun n _=>e3 n) (by rw[e2]) ?_,?_,?_,fun n=>Ins.ap_get_same i p.t (e3 n)⟩
 ·cases hia:i.a with
  |no=>trivial
  |rd f b o n=>intro q hq;rw[hbx f b]
  |wr f b off cs=>exact hbx f b
  |al t ds=>show lk t s'.l=none;rw[<-e1];exact instS_al h hia
 ·rw[(i.ap_l p.t s).1,(i.ap_l p.t s').1];exact(Ba.ap_lo i.a e1 e2).1
 ·rw[(i.ap_l p.t s).2,(i.ap_l p.t s').2];exact(Ba.ap_lo i.a e1 e2).2
abbrev X3:=Nat×Stp×Ins
def Run (c:Caller):List X3->S->S->Prop
 |[],s,s'=>SEq s s'
 |x::L,s,s'=>instS c x.2.1 s=some x.2.2∧Run c L (x.2.2.ap x.2.1.t s) s'
theorem Run.seq {L:List X3}:∀{s t s':S},Run c L s s'->SEq s t->Run c L t s':=by
 induction L with
 |nil=>intro s t s' h e;exact e.symm.trans h
 |cons x L ih=>
  intro s t s' h e
  obtain⟨h1,h2⟩:=h
  obtain⟨q1,q2⟩:=instS_seq h1 e
  exact⟨q1,ih h2 q2⟩
theorem Run.front {L1 L2:List X3} {x:X3}:∀{s s':S},Run c (L1++x::L2) s s'->(∀y∈L1,apart y.2.1 x.2.1=true∧y.2.2.a.co s.o.length x.2.2.a=true)->Run c (x::(L1++L2)) s s':=by
 induction L1 with
 |nil=>intro s s' h _;exact h
 |cons y L1 ih=>
  intro s s' h hy
  obtain⟨h1,h2⟩:=h
  obtain⟨h3,h4⟩:=ih h2 fun z hz=>by rw[Ins.ap_ol];exact hy z (by simp[hz])
  obtain⟨q1,q2⟩:=hy y (by simp)
  obtain⟨r1,r2,r3⟩:=swap h1 h3 q1 q2
  exact⟨r1,r2,h4.seq r3⟩
end
end Go.Proofs.Ytfopbiiffiickaa.Ev
namespace Go.Proofs.Ytfopbiiffiickaa.Ev
open Go
variable {P:Program}
def Op.bk:Op->Nat
 | .ld _ _=>1
 | .ldm _ _=>2
 | .st _ _ _=>2
 | .cpy _ _=>2
 | .al _=>2
 | .bx _=>2
 |_=>0
theorem inst_bk {c:Caller} {t:Option Nat} {p:Op} {s:S} {i:Ins} (h:inst c t p s=some i):(p.bk=0->i.a= .no)∧(p.bk=1->i.a.w=false):=by
 unfold inst at h
 split at h
 ·split at h
  ·split at h
   ·obtain⟨d,q1,q2⟩:=Option.map_eq_some_iff.1 h;subst q2;exact⟨fun e=>(by cases e),fun _=>rfl⟩
   ·cases h
  ·obtain⟨d,q1,q2⟩:=Option.map_eq_some_iff.1 h;subst q2;exact⟨fun _=>rfl,fun _=>rfl⟩
  ·cases h
 ·exact⟨fun e=>(by cases e),fun e=>(by cases e)⟩
 ·exact⟨fun e=>(by cases e),fun e=>(by cases e)⟩
 ·exact⟨fun e=>(by cases e),fun e=>(by cases e)⟩
 ·exact⟨fun e=>(by cases e),fun e=>(by cases e)⟩
 ·split at h
  ·obtain⟨d,q1,q2⟩:=Option.map_eq_some_iff.1 h;subst q2;exact⟨fun _=>rfl,fun _=>rfl⟩
  ·cases h
 ·split at h
  ·obtain⟨d,q1,q2⟩:=Option.map_eq_some_iff.1 h;subst q2;exact⟨fun _=>rfl,fun _=>rfl⟩
  ·cases h
 ·split at h
  ·split at h
   ·obtain⟨d,q1,q2⟩:=Option.map_eq_some_iff.1 h;subst q2;exact⟨fun _=>rfl,fun _=>rfl⟩
   ·cases h
  ·cases h
 ·split at h
  ·obtain⟨d,q1,q2⟩:=Option.map_eq_some_iff.1 h;subst q2;exact⟨fun _=>rfl,fun _=>rfl⟩
  ·cases h
theorem instS_bk {c:Caller} {p:Stp} {s:S} {i:Ins} (h:instS c p s=some i):(p.op.bk=0->i.a= .no)∧(p.op.bk=1->i.a.w=false):=by
 rcases instS_cases h with h|h
 ·exact inst_bk h
 ·rw[h];exact⟨fun _=>rfl,fun _=>rfl⟩
def still (p q:Op):Bool:=p.bk==0||q.bk==0||(p.bk==1&&q.bk==1)
theorem still_co {c:Caller} {p q:Stp} {s t:S} {i j:Ins} {k:Nat} (h:still p.op q.op=true) (hi:instS c p s=some i) (hj:instS c q t=some j):i.a.co k j.a=true:=by
 obtain⟨a1,a2⟩:=instS_bk hi
 obtain⟨b1,b2⟩:=instS_bk hj
 simp only[still,Bool.or_eq_true,beq_iff_eq,Bool.and_eq_true]at h
 rcases h with(h|h)|h
 ·rw[a1 h];rfl
 ·rw[b1 h];unfold Ba.co;cases i.a.loc k<;>rfl
 ·unfold Ba.co
  split
  ·rw[a2 h.1,b2 h.2];rfl
  ·rfl
structure Deps (ops:Array Oper) (l:List (Stp×List Nat)) (cl:Nat->Nat->Prop):Prop where
 lt:∀j o e,ops[j]? =some o->e∈o.after->Region.binds .any e=true->e.on<j
 up:∀i j,cl j i->∃o e,ops[j]? =some o∧e∈o.after∧Region.binds .any e=true∧(e.on=i∨cl e.on i)
 ap:∀i j x y,i<j->l[i]? =some x->l[j]? =some y->cl j i∨(apart x.1 y.1=true∧(i∈y.2∨still x.1.op y.1.op=true))
def mkL:Nat->List (Stp×List Nat)->List Ins->List X3
 |k,x::l,i::is=>(k,x.1,i)::mkL (k+1) l is
 |_,_,_=>[]
theorem mkL_mem {l:List (Stp×List Nat)}:∀{k:Nat} {is:List Ins} {x:X3},x∈mkL k l is->k<=x.1∧∃un,l[x.1-k]? =some (x.2.1,un)∧is[x.1-k]? =some x.2.2:=by
 induction l with
 |nil=>intro k is x h;simp[mkL]at h
 |cons p l ih=>
  intro k is x h
  cases is with
  |nil=>simp[mkL]at h
  |cons i is=>
   simp only[mkL,List.mem_cons]at h
   rcases h with rfl|h
   ·exact⟨Nat.le_refl _,p.2,by simp,by simp⟩
   ·obtain⟨h1,un,h2,h3⟩:=ih h
    have e:x.1-k=(x.1-(k+1))+1:=by omega
    exact⟨by omega,un,by rw[e];simpa using h2,by rw[e];simpa using h3⟩
theorem mkL_get {l:List (Stp×List Nat)}:∀{k:Nat} {is:List Ins},is.length=l.length->∀j,j<l.length->∃x∈mkL k l is,x.1=k+j:=by
 induction l with
 |nil=>intro k is h j hj;simp at hj
 |cons p l ih=>
  intro k is h j hj
  cases is with
  |nil=>simp at h
  |cons i is=>
   cases j with
   |zero=>exact⟨(k,p.1,i),by simp[mkL],rfl⟩
   |succ j=>
    obtain⟨x,h1,h2⟩:=ih (k:=k+1) (is:=is) (by simpa using h) j (by simpa using hj)
    exact⟨x,by simp[mkL,h1],by omega⟩
theorem mkL_pw {l:List (Stp×List Nat)}:∀{k:Nat} {is:List Ins},(mkL k l is).Pairwise (fun x y=>x.1<y.1):=by
 induction l with
 |nil=>intro k is;simp[mkL]
 |cons p l ih=>
  intro k is
  cases is with
  |nil=>simp[mkL]
  |cons i is=>
   simp only[mkL,List.pairwise_cons]
   exact⟨fun x hx=>by have:=(mkL_mem hx).1;omega,ih⟩
theorem mkL_length {l:List (Stp×List Nat)}:∀{k:Nat} {is:List Ins},(mkL k l is).length<=l.length:=by
 induction l with
 |nil=>intro k is;simp[mkL]
 |cons p l ih=>
  intro k is
  cases is with
  |nil=>simp[mkL]
  |cons i is=>simp only[mkL,List.length_cons];have:=ih (k:=k+1) (is:=is);omega
theorem evDr_run {c:Caller} {l:List (Stp×List Nat)}:∀{acts:List Ba} {s s':S},evDr c l acts s=some s'->∃is:List Ins,is.length=l.length∧Run c (mkL acts.length l is) s s'∧
  (∀(j:Nat) y i,l[j]? =some y->is[j]? =some i->(∃t,instS c y.1 t=some i)∧∀m∈y.2,((acts++is.map (·.a)).getD m .no).co s.o.length i.a=true∨acts.length+j<=m):=by
 induction l with
 |nil=>intro acts s s' h;simp only[evDr]at h;injection h with h;subst h;exact⟨[],rfl,SEq.refl _,fun j y i hy=>by simp at hy⟩
 |cons p l ih=>
  intro acts s s' h
  obtain⟨p,un⟩:=p
  simp only[evDr]at h
  split at h
  ·rename_i i hi
   split at h
   ·rename_i hu
    obtain⟨is,h1,h2,h3⟩:=ih h
    refine⟨i::is,by simp[h1],⟨hi,by simpa using h2⟩,fun j y i' hy hi'=>?_⟩
    cases j with
    |zero=>
     simp at hy hi'
     subst hy hi'
     refine⟨⟨s,hi⟩,fun m hm=>?_⟩
     have:=List.all_eq_true.1 hu m hm
     rcases Nat.lt_or_ge m acts.length with hlt|hge
     ·left
      simp only[List.getD,List.getElem?_append_left hlt]at this ⊢
      exact this
     ·exact .inr (by omega)
    |succ j=>
     obtain⟨q1,q2⟩:=h3 j y i' (by simpa using hy) (by simpa using hi')
     refine⟨q1,fun m hm=>?_⟩
     rcases q2 m hm with q|q
     ·left
      rw[Ins.ap_ol]at q
      simpa using q
     ·right
      simp at q
      omega
   ·cases h
  ·cases h
section
variable {g:G} {w:World} {n:Nat} {a:Act} {s s':S} {call:Caller}
theorem SN.seq {tmps:Array Value} (h:SN g w n tmps s) (e:SEq s s'):SN g w n tmps s':=by
 have hB:s'.B=s.B:=by unfold S.B;rw[e.1,e.2.1]
 have hk:s'.k=s.k:=by unfold S.k;rw[e.2.1]
 exact⟨⟨h.st.inv,by rw[hB];exact h.st.sb,fun t=>by rw[hk,<-e.2.2 t];exact h.st.e t⟩,h.size⟩
theorem getD_setB {l:Array Bool} {i j:Nat} {d:Bool} (hi:i<l.size):(l.setIfInBounds i true).getD j d=if j=i then true else l.getD j d:=by
 simp only[Array.getD_eq_getD_getElem?,Array.getElem?_setIfInBounds]
 by_cases h:j=i
 ·subst h;simp[hi]
 ·have:i≠j:=fun e=>h e.symm
  simp[h,this]
theorem any_ok {ro:Option Nat} (hg:Good P call) {ops:Array Oper} {l:List (Stp×List Nat)} {cl:Nat->Nat->Prop} (hD:Deps ops l cl) {Q:Exit->Act->World->Prop} {g0:G} {w0:World} {df:List Deferred} {K:Nat} (m:Nat) (hT:∀i j,m<=j->j<ops.size->i<j->cl j i)
  (hfin:∀(fuel:Nat) (listed:Array Bool) (a:Act) (w:World) (g:G) (s:S),SN g w n a.tmps s->Ext K g0 w0 g w->s.k=K->a.defers=df->SEq s s'->listed.size=ops.size->(∀i,i<ops.size->(listed.getD i true=false↔m<=i))->(∀j i,listed.getD j false=true->cl j i->listed.getD i false=true)->ops.size-m<=fuel->wpAnyIn (W ro) 0 P .any ops Q fuel listed a w):
  ∀(fuel:Nat) (listed:Array Bool) (a:Act) (w:World) (g:G) (s:S) (L:List X3),SN g w n a.tmps s->Ext K g0 w0 g w->s.k=K->a.defers=df->Run call L s s'->L.Pairwise (fun x y=>x.1<y.1)->listed.size=ops.size->
   (∀i,(i<ops.size∧listed.getD i true=false)↔((∃x∈L,x.1=i)∨(m<=i∧i<ops.size)))->(∀x∈L,x.1<m)->(∀x∈L,∃o,ops[x.1]? =some o∧MStp P n ops o x.2.1)->
   (∀x∈L,∀y∈L,x.1<y.1->cl y.1 x.1∨(apart x.2.1 y.2.1=true∧x.2.2.a.co K y.2.2.a=true))->(∀j i,listed.getD j false=true->cl j i->listed.getD i false=true)->L.length+(ops.size-m)<=fuel->
   wpAnyIn (W ro) 0 P .any ops Q fuel listed a w:=by
 have head:∀(listed:Array Bool) (L:List X3) (x:X3),listed.size=ops.size->(x::L).Pairwise (fun x y=>x.1<y.1)->
   (∀i,(i<ops.size∧listed.getD i true=false)↔((∃y∈x::L,y.1=i)∨(m<=i∧i<ops.size)))->x.1<m->(∃o,ops[x.1]? =some o)->x.1∈Region.ready .any ops listed:=by
  intro listed L x hsz hpw hL hxm ho
  obtain⟨o,ho⟩:=ho
  obtain⟨h1,h2⟩:=(hL x.1).2 (.inl ⟨x,by simp,rfl⟩)
  unfold Region.ready
  rw[List.mem_filter]
  refine⟨List.mem_range.2 h1,?_⟩
  rw[h2,ho]
  simp only[Bool.not_false,Bool.true_and,Option.map_some,Option.getD_some]
  rw[Array.all_eq_true']
  intro e he
  cases hb:Region.binds .any e with
  |false=>rfl
  |true=>
   have hlt:=hD.lt x.1 o e ho he hb
   cases hq:listed.getD e.on false with
   |true=>rfl
   |false=>
    exfalso
    have hq':listed.getD e.on true=false:=by
     have:e.on<listed.size:=by omega
     simp only[Array.getD,this,dif_pos]at hq ⊢
     exact hq
    rcases(hL e.on).1 ⟨by omega,hq'⟩with⟨y,hy,hy1⟩|⟨hm1,_⟩
    rotate_left
    ·omega
    rcases List.mem_cons.1 hy with rfl|hy
    ·omega
    ·have:=(List.pairwise_cons.1 hpw).1 y hy
     omega
 intro fuel
 induction fuel with
 |zero=>
  intro listed a w g s L hs hE hk hd hR hpw hsz hL hlm hM hC hcl hlen
  obtain rfl:L=[]:=List.eq_nil_of_length_eq_zero (by omega)
  have hU:∀i,i<ops.size->(listed.getD i true=false↔m<=i):=by
   intro i hi
   constructor
   ·intro q
    rcases(hL i).1 ⟨hi,q⟩with⟨x,hx,_⟩|h
    ·simp at hx
    ·exact h.1
   ·intro q
    exact((hL i).2 (.inr ⟨q,hi⟩)).2
  exact hfin 0 listed a w g s hs hE hk hd hR hsz hU hcl (by simpa using hlen)
 |succ fuel ih=>
  intro listed a w g s L hs hE hk hd hR hpw hsz hL hlm hM hC hcl hlen
  cases hL0:L with
  |nil=>
   subst hL0
   have hU:∀i,i<ops.size->(listed.getD i true=false↔m<=i):=by
    intro i hi
    constructor
    ·intro q
     rcases(hL i).1 ⟨hi,q⟩with⟨x,hx,_⟩|h
     ·simp at hx
     ·exact h.1
    ·intro q
     exact((hL i).2 (.inr ⟨q,hi⟩)).2
   exact hfin _ listed a w g s hs hE hk hd hR hsz hU hcl (by simpa using hlen)
  |cons x0 L0=>
  refine⟨fun hnil=>?_,fun i hi=>?_⟩
  ·exfalso
   subst hL0
   obtain⟨o,ho,_⟩:=hM x0 (by simp)
   have:=head listed L0 x0 hsz hpw hL (hlm x0 (by simp)) ⟨o,ho⟩
   rw[hnil]at this
   simp at this
  ·unfold Region.ready at hi
   rw[List.mem_filter]at hi
   obtain⟨hi1,hi2⟩:=hi
   have hi1:=List.mem_range.1 hi1
   rw[Bool.and_eq_true]at hi2
   obtain⟨hi2,hi3⟩:=hi2
   have hi2:listed.getD i true=false:=by simpa using hi2
   obtain⟨o,ho⟩:∃o,ops[i]? =some o:=⟨_,Array.getElem?_eq_getElem hi1⟩
   rw[ho]at hi3
   simp only[Option.map_some,Option.getD_some]at hi3
   rw[Array.all_eq_true']at hi3
   have hdep:∀m,cl i m->listed.getD m false=true:=by
    intro m hm
    obtain⟨o',e,q1,q2,q3,q4⟩:=hD.up m i hm
    rw[ho]at q1
    injection q1 with q1
    subst q1
    have:=hi3 e q2
    rw[q3]at this
    simp only[Bool.not_true,Bool.false_or]at this
    rcases q4 with q4|q4
    ·rw[<-q4];exact this
    ·exact hcl _ _ this q4
   have hun:∀y∈L,listed.getD y.1 true=false∧y.1<ops.size:=fun y hy=>by
    obtain⟨q1,q2⟩:=(hL y.1).2 (.inl ⟨y,hy,rfl⟩)
    exact⟨q2,q1⟩
   have hff:∀m,listed.getD m true=false->m<ops.size->¬ listed.getD m false=true:=fun m h1 h2 h3=>by
    have:m<listed.size:=by omega
    simp only[Array.getD,this,dif_pos]at h1 h3
    rw[h1]at h3
    cases h3
   have him:i<m:=by
    rcases Nat.lt_or_ge i m with h|h
    ·exact h
    ·exfalso
     have hx0:x0∈L:=by rw[hL0];simp
     have:=hlm x0 hx0
     obtain⟨q1,q2⟩:=hun x0 hx0
     exact hff _ q1 q2 (hdep _ (hT x0.1 i h hi1 (by omega)))
   obtain⟨x,hx,hx1⟩:∃x∈L,x.1=i:=by
    rcases(hL i).1 ⟨hi1,hi2⟩with h|h
    ·exact h
    ·omega
   obtain⟨o',ho',hst⟩:=hM x hx
   rw[hx1,ho]at ho'
   injection ho' with ho'
   subst ho'
   clear hL0
   obtain⟨L1,L2,rfl⟩:=List.append_of_mem hx
   have hpw1:=List.pairwise_append.1 hpw
   have hsw:∀y∈L1,apart y.2.1 x.2.1=true∧y.2.2.a.co s.o.length x.2.2.a=true:=by
    intro y hy
    have hy1:y.1<x.1:=hpw1.2.2 y hy x (by simp)
    rcases hC y (by simp[hy]) x (by simp) hy1 with h|h
    ·exfalso
     rw[hx1]at h
     obtain⟨q1,q2⟩:=hun y (by simp[hy])
     exact hff _ q1 q2 (hdep _ h)
    ·have hk':s.o.length=K:=hk
     rw[hk'];exact h
   obtain⟨r1,r2⟩:=Run.front hR hsw
   have hev:=instS_ok r1
   unfold wpOpIn
   simp only[ho]
   have hneq:∀y∈L1++L2,y.1≠i:=fun y hy e=>by
    rcases List.mem_append.1 hy with hy|hy
    ·have:=hpw1.2.2 y hy x (by simp);omega
    ·have:=(List.pairwise_cons.1 hpw1.2.1).1 y hy;omega
   have hsub:∀y,y∈L1++L2->y∈L1++x::L2:=fun y hy=>by
    rcases List.mem_append.1 hy with hy|hy<;>simp[hy]
   refine stp_ok hg hst hs hev fun a' w' g' t1 t2 t3 t4=>?_
   refine ih _ a' w' g' _ (L1++L2) t1 (hE.trans (by rw[hk]at t2;exact t2)) (t3.trans hk) (t4.trans hd) r2 ?_ (by simp[hsz]) (fun j=>?_) (fun y hy=>hlm y (hsub y hy)) (fun y hy=>hM y (hsub y hy)) (fun y hy z hz=>hC y (hsub y hy) z (hsub z hz)) (fun j m hj hm=>?_) (by simp at hlen ⊢;omega)
   ·exact hpw.sublist (by simp)
   ·rw[getD_setB (by omega)]
    constructor
    ·rintro⟨q1,q2⟩
     split at q2
     ·cases q2
     ·rename_i hne
      rcases(hL j).1 ⟨q1,q2⟩with⟨y,hy,hy1⟩|h
      rotate_left
      ·exact .inr h
      refine .inl ⟨y,?_,hy1⟩
      rcases List.mem_append.1 hy with hy|hy
      ·simp[hy]
      ·rcases List.mem_cons.1 hy with rfl|hy
       ·exact absurd (hy1.symm.trans hx1) hne
       ·simp[hy]
    ·rintro(⟨y,hy,hy1⟩|h)
     ·have:=hneq y hy
      rw[if_neg (by rw[<-hy1];exact this),<-hy1]
      exact(hL y.1).2 (.inl ⟨y,hsub y hy,rfl⟩)
     ·rw[if_neg (by omega)]
      exact(hL j).2 (.inr h)
   ·rw[getD_setB (by omega)]at hj ⊢
    split
    ·rfl
    ·split at hj
     ·rename_i e;subst e;exact hdep m hm
     ·exact hcl j m hj hm
theorem tail_ok {ro:Option Nat} (hg:Good P call) {ops:Array Oper} {l:List (Stp×List Nat)} {cl:Nat->Nat->Prop} (hD:Deps ops l cl) {Q:Exit->Act->World->Prop} {g0:G} {w0:World} {df:List Deferred} {K:Nat} (m:Nat) (hT:∀i j,m<=j->j<ops.size->i<j->cl j i) {tl:List Stp} {s1:S}
  (hM:∀(j:Nat) p,tl[j]? =some p->∃o,ops[m+j]? =some o∧MStp P n ops o p) (hsz0:m+tl.length=ops.size) (he:evOps call tl s1=some s') (hq:∀a' w' g',SN g' w' n a'.tmps s'->Ext K g0 w0 g' w'->s'.k=K->a'.defers=df->Q .normal a' w'):
  ∀(fuel:Nat) (listed:Array Bool) (a:Act) (w:World) (g:G) (s:S),SN g w n a.tmps s->Ext K g0 w0 g w->s.k=K->a.defers=df->SEq s s1->listed.size=ops.size->(∀i,i<ops.size->(listed.getD i true=false↔m<=i))->(∀j i,listed.getD j false=true->cl j i->listed.getD i false=true)->ops.size-m<=fuel->wpAnyIn (W ro) 0 P .any ops Q fuel listed a w:=by
 intro fuel
 induction tl generalizing m s1 fuel with
 |nil=>
  intro listed a w g s hs hE hk hd hR hsz hL hcl hlen
  injection he with he
  subst he
  have hk1:s1.k=K:=by rw[<-hk];unfold S.k;rw[hR.2.1]
  have hnil:Region.ready .any ops listed=[]:=by
   unfold Region.ready
   rw[List.filter_eq_nil_iff]
   intro i hi
   have hi':=List.mem_range.1 hi
   cases hb:listed.getD i true with
   |true=>simp
   |false=>have:=(hL i hi').1 hb;simp at hsz0;omega
  cases fuel with
  |zero=>exact⟨hnil,hq a w g (hs.seq hR) hE hk1 hd⟩
  |succ fuel=>exact⟨fun _=>hq a w g (hs.seq hR) hE hk1 hd,fun i hi=>by rw[hnil]at hi;simp at hi⟩
 |cons p tl ih=>
  intro listed a w g s hs hE hk hd hR hsz hL hcl hlen
  rw[List.length_cons]at hsz0
  have hm:m<ops.size:=by omega
  obtain⟨o,ho,hst⟩:=hM 0 p rfl
  rw[Nat.add_zero]at ho
  have hlm:listed.getD m true=false:=(hL m hm).2 (Nat.le_refl m)
  have hlow:∀i,i<m->listed.getD i false=true:=fun i hi=>by
   have h1:¬ listed.getD i true=false:=fun q=>by have:=(hL i (by omega)).1 q;omega
   have:i<listed.size:=by omega
   simp only[Array.getD,this,dif_pos]at h1 ⊢
   simpa using h1
  have hready:m∈Region.ready .any ops listed:=by
   unfold Region.ready
   rw[List.mem_filter]
   refine⟨List.mem_range.2 hm,?_⟩
   rw[hlm,ho]
   simp only[Bool.not_false,Bool.true_and,Option.map_some,Option.getD_some]
   rw[Array.all_eq_true']
   intro e he'
   cases hb:Region.binds .any e with
   |false=>rfl
   |true=>rw[hlow _ (hD.lt m o e ho he' hb)];rfl
  cases fuel with
  |zero=>omega
  |succ fuel=>
  refine⟨fun hnil=>by rw[hnil]at hready;simp at hready,fun i hi=>?_⟩
  have him:i=m:=by
   unfold Region.ready at hi
   rw[List.mem_filter]at hi
   obtain⟨hi1,hi2⟩:=hi
   have hi1:=List.mem_range.1 hi1
   rw[Bool.and_eq_true]at hi2
   obtain⟨hi2,hi3⟩:=hi2
   have hi2:listed.getD i true=false:=by simpa using hi2
   have hge:=(hL i hi1).1 hi2
   rcases Nat.lt_or_ge m i with h|h
   ·exfalso
    obtain⟨o',e,q1,q2,q3,q4⟩:=hD.up m i (hT m i hge hi1 h)
    rw[q1]at hi3
    simp only[Option.map_some,Option.getD_some]at hi3
    rw[Array.all_eq_true']at hi3
    have:=hi3 e q2
    rw[q3]at this
    simp only[Bool.not_true,Bool.false_or]at this
    have hmt:listed.getD m false=true:=by
     rcases q4 with q4|q4
     ·rw[<-q4];exact this
     ·exact hcl _ _ this q4
    have:m<listed.size:=by omega
    simp only[Array.getD,this,dif_pos]at hmt hlm
    rw[hlm]at hmt
    cases hmt
   ·omega
  subst him
  unfold wpOpIn
  simp only[ho]
  simp only[evOps]at he
  obtain⟨s2,he1,he2⟩:=Option.bind_eq_some_iff.1 he
  have hk1:s1.k=K:=by rw[<-hk];unfold S.k;rw[hR.2.1]
  refine stp_ok hg hst (hs.seq hR) he1 fun a' w' g' t1 t2 t3 t4=>?_
  refine ih (i+1) (fun x j h1 h2 h3=>hT x j (by omega) h2 h3) (fun j p hp=>?_) (by omega) he2 fuel _ a' w' g' s2 t1 (hE.trans (by rw[hk1]at t2;exact t2)) (t3.trans hk1) (t4.trans hd) (SEq.refl _) (by simp[hsz]) (fun j hj=>?_) (fun j x hj hx=>?_) (by omega)
  ·have:=hM (j+1) p (by simpa using hp)
   rwa[show i+(j+1)=i+1+j by omega]at this
  ·rw[getD_setB (by omega)]
   split
   ·rename_i e;subst e;constructor
    ·intro q;cases q
    ·intro q;omega
   ·rename_i e
    rw[hL j hj]
    constructor<;>intro q<;>omega
  ·rw[getD_setB (by omega)]at hj ⊢
   split
   ·rfl
   ·rename_i e
    split at hj
    ·rename_i e';subst e'
     obtain⟨o',e1,q1,q2,q3,q4⟩:=hD.up x j hx
     rw[ho]at q1
     injection q1 with q1
     subst q1
     have hlt:=hD.lt j o e1 ho q2 q3
     rcases q4 with q4|q4
     ·rw[<-q4];exact hlow _ hlt
     ·exact hcl _ _ (hlow _ hlt) q4
    ·exact hcl j x hj hx
theorem drawn_ok {tmps:Array Value} (h:SN g w n tmps s):SN g {w with drawn:=w.drawn+1} n tmps s∧Ext s.k g w g {w with drawn:=w.drawn+1}:=by
 have hK:∀ℓ,Keep g w ℓ g {w with drawn:=w.drawn+1} ℓ:=fun ℓ=>⟨fun _ _ _=>rfl,fun _=>Nat.le_refl _,fun _ _ _ h=>h,fun _ h=>⟨h,rfl,rfl⟩,fun _ _ h=>h⟩
 have hi:=h.st.inv
 exact⟨⟨⟨⟨hi.base,hi.fresh,hi.box,hi.inj,hi.tk,hi.cells,hi.dm,hi.dt⟩,⟨fun f b ds hds=>(h.st.sb.rel f b ds hds).keep (fun c=>hK _) fun _ _=>rfl,h.st.sb.dom,h.st.sb.bnd⟩,fun t=>(h.st.e t).keep fun i c=>hK _⟩,h.size⟩,
  ⟨rfl,rfl,rfl,rfl,Nat.le_refl _,fun _ _=>rfl,fun _=>Nat.le_refl _,fun _ _ _=>rfl,fun _ _ _ _ h=>h,fun b ℓ hb _ _=>⟨hb,rfl,rfl⟩,fun _ h=>h,fun _ _ h=>h⟩⟩
theorem mops_get {ops:Array Oper}:∀{is:List Nat} {ps:List Stp},MOps P n ops is ps->is.length=ps.length∧∀(j i:Nat) p,is[j]? =some i->ps[j]? =some p->∃o,ops[i]? =some o∧MStp P n ops o p:=by
 intro is ps h
 induction h with
 |nil=>exact⟨rfl,fun j i p hi=>by simp at hi⟩
 |cons hi hst hr ih=>
  refine⟨by simp[ih.1],fun j i p hj hp=>?_⟩
  cases j with
  |zero=>simp at hj hp;subst hj hp;exact⟨_,hi,hst⟩
  |succ j=>exact ih.2 j i p (by simpa using hj) (by simpa using hp)
theorem drt_ok {ro:Option Nat} (hg:Good P call) {id:Nat} {ops:Array Oper} {l:List (Stp×List Nat)} {tl:List Stp} {s1:S} {cl:Nat->Nat->Prop} (hmx:P.follows .mixedOrders=true) (hops:MOps P n ops (List.range ops.size) (l.map (·.1)++tl)) (hD:Deps ops l cl) (hT:∀i j,l.length<=j->j<ops.size->i<j->cl j i) {Q:Exit->Act->World->Prop}
  (h:SN g w n a.tmps s) (he:evDr call l [] s=some s1) (he1:evOps call tl s1=some s') (hq:∀a' w' g',SN g' w' n a'.tmps s'->Ext s.k g w g' w'->s'.k=s.k->a'.defers=a.defers->Q .normal a' w'):(Code.region id ops true).wpIn (W ro) 0 P Q a w:=by
 obtain⟨is,h1,h2,h3⟩:=evDr_run he
 obtain⟨d1,d2⟩:=drawn_ok h
 obtain⟨m1,m2⟩:=mops_get hops
 have hsz:l.length+tl.length=ops.size:=by simpa using m1.symm
 have hrep:∀i d,(Array.replicate ops.size false).getD i d=if i<ops.size then false else d:=fun i d=>by
  by_cases hlt:i<ops.size
  ·simp[Array.getD_eq_getD_getElem?,Array.getElem?_replicate,hlt]
  ·simp[Array.getD_eq_getD_getElem?,Array.getElem?_replicate,hlt]
 refine wpIn_region_any hmx (any_ok hg hD (df:=a.defers) (K:=s.k) (s':=s1) l.length hT (tail_ok hg hD l.length hT (fun j p hp=>?_) (by omega) he1 hq) ops.size _ a _ g s (mkL 0 l is) d1 d2 rfl rfl h2 mkL_pw (by simp) (fun i=>?_) (fun x hx=>?_) (fun x hx=>?_) (fun x hx y hy hlt=>?_) (fun j i hj _=>?_) (by have:=mkL_length (l:=l) (k:=0) (is:=is);omega))
 ·have:=getq_lt hp
  exact m2 (l.length+j) (l.length+j) p (by rw[List.getElem?_range (by omega)]) (by rw[List.getElem?_append_right (by simp)];simpa using hp)
 ·rw[hrep]
  constructor
  ·rintro⟨q1,_⟩
   rcases Nat.lt_or_ge i l.length with hlt|hge
   ·obtain⟨x,hx,hx1⟩:=mkL_get (k:=0) h1 i hlt
    exact .inl ⟨x,hx,by omega⟩
   ·exact .inr ⟨hge,q1⟩
  ·rintro(⟨x,hx,rfl⟩|⟨q1,q2⟩)
   ·obtain⟨_,un,q1,_⟩:=mkL_mem hx
    have:=getq_lt q1
    have hlt:x.1<ops.size:=by omega
    exact⟨hlt,by rw[if_pos hlt]⟩
   ·exact⟨q2,by rw[if_pos q2]⟩
 ·obtain⟨_,un,q1,_⟩:=mkL_mem hx
  have:=getq_lt q1
  omega
 ·obtain⟨_,un,q1,q2⟩:=mkL_mem hx
  simp only[Nat.sub_zero]at q1
  have:=getq_lt q1
  exact m2 x.1 x.1 x.2.1 (by rw[List.getElem?_range (by omega)]) (by rw[List.getElem?_append_left (by simpa using this)];simp[q1])
 ·obtain⟨_,un,q1,q2⟩:=mkL_mem hx
  obtain⟨_,un',q3,q4⟩:=mkL_mem hy
  simp only[Nat.sub_zero]at q1 q2 q3 q4
  obtain⟨u1,u2⟩:=h3 _ _ _ q1 q2
  obtain⟨u3,u4⟩:=h3 _ _ _ q3 q4
  rcases hD.ap x.1 y.1 _ _ hlt q1 q3 with hh|⟨hh,hh'⟩
  ·exact .inl hh
  ·refine .inr ⟨hh,?_⟩
   rcases hh' with hh'|hh'
   ·rcases u4 _ hh' with q|q
    ·have hm:(([]:List Ba)++is.map (·.a)).getD x.1 .no=x.2.2.a:=by simp[List.getD,q2]
     rw[hm]at q
     exact q
    ·simp at q;omega
   ·obtain⟨t,ht⟩:=u1
    obtain⟨t',ht'⟩:=u3
    exact still_co hh' ht ht'
 ·rw[hrep]at hj
  split at hj<;>cases hj
theorem dr_ok {ro:Option Nat} (hg:Good P call) {id:Nat} {ops:Array Oper} {l:List (Stp×List Nat)} {cl:Nat->Nat->Prop} (hmx:P.follows .mixedOrders=true) (hops:MOps P n ops (List.range ops.size) (l.map (·.1))) (hD:Deps ops l cl) {Q:Exit->Act->World->Prop}
  (h:SN g w n a.tmps s) (he:evDr call l [] s=some s') (hq:∀a' w' g',SN g' w' n a'.tmps s'->Ext s.k g w g' w'->s'.k=s.k->a'.defers=a.defers->Q .normal a' w'):(Code.region id ops true).wpIn (W ro) 0 P Q a w:=by
 have hsz:l.length=ops.size:=by have:=(mops_get hops).1;simpa using this.symm
 exact drt_ok (tl:=[]) hg hmx (by rw[List.append_nil];exact hops) hD (fun i j h1 h2 h3=>by omega) h he rfl hq
theorem all_ok {ro:Option Nat} (hg:Good P call) {ops:Array Oper} {l:List (Stp×List Nat)} (hlt:∀(j:Nat) o e,ops[j]? =some o->e∈o.after->Region.binds .any e=true->e.on<j)
  (hdp:∀(i:Nat) p ds d,l[i]? =some (p,ds)->d∈ds->∃o e,ops[i]? =some o∧e∈o.after∧Region.binds .any e=true∧e.on=d) (hM:∀(i:Nat) p ds,l[i]? =some (p,ds)->∃o,ops[i]? =some o∧MStp P n ops o p) (hsz:l.length=ops.size)
  {Q:Exit->Act->World->Prop} {g0:G} {w0:World} {df:List Deferred} {K:Nat} (hq:∀a' w' g',SN g' w' n a'.tmps s'->Ext K g0 w0 g' w'->s'.k=K->a'.defers=df->Q .normal a' w'):
  ∀(fuel:Nat) (listed:Array Bool) (done rest:List Nat) (a:Act) (w:World) (g:G) (s:S),SN g w n a.tmps s->Ext K g0 w0 g w->s.k=K->a.defers=df->AllR call l fuel done s s'->listed.size=ops.size->
   (∀i,i<ops.size->(listed.getD i true=true↔i∈done))->(∀i,i<ops.size->i∈done∨i∈rest)->(∀i∈rest,i<ops.size∧¬ i∈done)->rest.Nodup->rest.length=fuel->
   wpAnyIn (W ro) 0 P .any ops Q fuel listed a w:=by
 have rdyM:∀(listed:Array Bool) (done:List Nat) (i:Nat),listed.size=ops.size->(∀i,i<ops.size->(listed.getD i true=true↔i∈done))->i∈Region.ready .any ops listed->i<ops.size∧¬ i∈done∧∀o e,ops[i]? =some o->e∈o.after->Region.binds .any e=true->e.on∈done:=by
  intro listed done i hs hL hi
  unfold Region.ready at hi
  rw[List.mem_filter]at hi
  obtain⟨hi1,hi2⟩:=hi
  have hi1:=List.mem_range.1 hi1
  rw[Bool.and_eq_true]at hi2
  obtain⟨hi2,hi3⟩:=hi2
  have hi2:listed.getD i true=false:=by simpa using hi2
  refine⟨hi1,fun hd=>?_,fun o e ho he hb=>?_⟩
  ·rw[(hL i hi1).2 hd]at hi2;cases hi2
  ·rw[ho]at hi3
   simp only[Option.map_some,Option.getD_some]at hi3
   rw[Array.all_eq_true']at hi3
   have:=hi3 e he
   rw[hb]at this
   simp only[Bool.not_true,Bool.false_or]at this
   have hlt':=hlt i o e ho he hb
   have h2:e.on<ops.size:=by omega
   refine(hL _ h2).1 ?_
   have h3:e.on<listed.size:=by omega
   simp only[Array.getD,h3,dif_pos]at this ⊢
   exact this
 intro fuel
 induction fuel with
 |zero=>
  intro listed done rest a w g s hs hE hk hd hR hls hL hcov hrest hnd hlen
  have hr:rest=[]:=List.length_eq_zero_iff.1 hlen
  refine⟨?_,hq a w g (hs.seq hR) hE (by rw[<-hk];exact(congrArg List.length hR.2.1).symm) hd⟩
  refine List.eq_nil_iff_forall_not_mem.2 fun i hi=>?_
  obtain⟨h1,h2,_⟩:=rdyM listed done i hls hL hi
  rcases hcov i h1 with h|h
  ·exact h2 h
  ·rw[hr]at h;cases h
 |succ fuel ih=>
  intro listed done rest a w g s hs hE hk hd hR hls hL hcov hrest hnd hlen
  refine⟨fun hnil=>?_,fun i hi=>?_⟩
  ·exfalso
   -- the least that is left is ready
   have hex:∃m,m∈rest∧∀j∈rest,m<=j:=by
    have:∀(r:List Nat),r≠[]->∃m,m∈r∧∀j∈r,m<=j:=by
     intro r
     induction r with
     |nil=>intro h;exact absurd rfl h
     |cons x r ihr=>
      intro _
      by_cases hr:r=[]
      ·subst hr;exact⟨x,by simp,fun j hj=>by simp at hj;omega⟩
      ·obtain⟨m,h1,h2⟩:=ihr hr
       rcases Nat.le_total x m with h|h
       ·exact⟨x,by simp,fun j hj=>by rcases List.mem_cons.1 hj with rfl|hj;exact Nat.le_refl _;exact Nat.le_trans h (h2 j hj)⟩
       ·exact⟨m,by simp[h1],fun j hj=>by rcases List.mem_cons.1 hj with rfl|hj;exact h;exact h2 j hj⟩
    exact this rest (fun e=>by rw[e]at hlen;cases hlen)
   obtain⟨m,hm,hmin⟩:=hex
   obtain⟨hm1,hm2⟩:=hrest m hm
   have hmem:m∈Region.ready .any ops listed:=by
    obtain⟨o,ho⟩:∃o,ops[m]? =some o:=⟨_,Array.getElem?_eq_getElem hm1⟩
    unfold Region.ready
    rw[List.mem_filter]
    refine⟨List.mem_range.2 hm1,?_⟩
    have hf:listed.getD m true=false:=by
     cases hq':listed.getD m true with
     |true=>exact absurd ((hL m hm1).1 hq') hm2
     |false=>rfl
    rw[hf,ho]
    simp only[Bool.not_false,Bool.true_and,Option.map_some,Option.getD_some]
    rw[Array.all_eq_true']
    intro e he
    cases hb:Region.binds .any e with
    |false=>rfl
    |true=>
     have hlt':=hlt m o e ho he hb
     have h2:e.on<ops.size:=by omega
     have hdn:e.on∈done:=by
      rcases hcov e.on h2 with h|h
      ·exact h
      ·have:=hmin _ h;omega
     have h3:=(hL _ h2).2 hdn
     have h4:e.on<listed.size:=by omega
     simp only[Array.getD,h4,dif_pos]at h3 ⊢
     simpa using h3
   rw[hnil]at hmem
   cases hmem
  ·obtain⟨hi1,hi2,hi3⟩:=rdyM listed done i hls hL hi
   obtain⟨p,ds,hp⟩:∃p ds,l[i]? =some (p,ds):=⟨_,_,List.getElem?_eq_getElem (by omega)⟩
   obtain⟨o,ho,hst⟩:=hM i p ds hp
   have hrd:rdy l done i=true:=by
    unfold rdy
    rw[hp]
    simp only[Bool.and_eq_true,Bool.not_eq_true']
    refine⟨by simpa using hi2,List.all_eq_true.2 fun d hd'=>?_⟩
    obtain⟨o',e,q1,q2,q3,q4⟩:=hdp i p ds d hp hd'
    have:=hi3 o' e q1 q2 q3
    rw[q4]at this
    simpa using this
   obtain⟨s1,hev,hR1⟩:=hR i p ds hp hrd
   unfold wpOpIn
   simp only[ho]
   have hir:i∈rest:=by
    rcases hcov i hi1 with h|h
    ·exact absurd h hi2
    ·exact h
   refine stp_ok hg hst hs hev fun a' w' g' t1 t2 t3 t4=>?_
   refine ih _ (i::done) (rest.erase i) a' w' g' s1 t1 (hE.trans (by rw[hk]at t2;exact t2)) (t3.trans hk) (t4.trans hd) hR1 (by simp[hls]) (fun j hj=>?_) (fun j hj=>?_) (fun j hj=>?_) (hnd.erase i) (by rw[List.length_erase_of_mem hir,hlen];rfl)
   ·rw[getD_setB (by omega)]
    by_cases e:j=i
    ·simp[e]
    ·rw[if_neg e,hL j hj];simp[e]
   ·by_cases e:j=i
    ·exact .inl (by simp[e])
    ·rcases hcov j hj with h|h
     ·exact .inl (by simp[h])
     ·exact .inr ((List.mem_erase_of_ne e).2 h)
   ·have hj':=List.mem_of_mem_erase hj
    refine⟨(hrest j hj').1,fun h=>?_⟩
    rcases List.mem_cons.1 h with rfl|h
    ·exact(List.Nodup.not_mem_erase hnd) hj
    ·exact(hrest j hj').2 h
theorem dra_ok {ro:Option Nat} (hg:Good P call) {id:Nat} {ops:Array Oper} {l:List (Stp×List Nat)} (hmx:P.follows .mixedOrders=true) (hops:MOps P n ops (List.range ops.size) (l.map (·.1))) (hlt:∀(j:Nat) o e,ops[j]? =some o->e∈o.after->Region.binds .any e=true->e.on<j)
  (hdp:∀(i:Nat) p ds d,l[i]? =some (p,ds)->d∈ds->∃o e,ops[i]? =some o∧e∈o.after∧Region.binds .any e=true∧e.on=d) {Q:Exit->Act->World->Prop}
  (h:SN g w n a.tmps s) (he:AllR call l l.length [] s s') (hq:∀a' w' g',SN g' w' n a'.tmps s'->Ext s.k g w g' w'->s'.k=s.k->a'.defers=a.defers->Q .normal a' w'):(Code.region id ops true).wpIn (W ro) 0 P Q a w:=by
 obtain⟨d1,d2⟩:=drawn_ok h
 obtain⟨m1,m2⟩:=mops_get hops
 have hsz:l.length=ops.size:=by simpa using m1.symm
 have hrep:∀i d,(Array.replicate ops.size false).getD i d=if i<ops.size then false else d:=fun i d=>by
  by_cases hlt:i<ops.size
  ·simp[Array.getD_eq_getD_getElem?,Array.getElem?_replicate,hlt]
  ·simp[Array.getD_eq_getD_getElem?,Array.getElem?_replicate,hlt]
 rw[hsz]at he
 refine wpIn_region_any hmx (all_ok hg hlt hdp (fun i p ds hp=>?_) hsz hq ops.size _ [] (List.range ops.size) a _ g s d1 d2 rfl rfl he (by simp) (fun i hi=>?_) (fun i hi=>?_) (fun i hi=>?_) List.nodup_range (by simp))
 ·have:=getq_lt hp
  exact m2 i i p (by rw[List.getElem?_range (by omega)]) (by rw[List.getElem?_map,hp];rfl)
 ·rw[hrep,if_pos hi];simp
 ·exact .inr (List.mem_range.2 hi)
 ·exact⟨List.mem_range.1 hi,by simp⟩
end
end Go.Proofs.Ytfopbiiffiickaa.Ev
namespace Go.Proofs.Ytfopbiiffiickaa.Ev
open Go
variable {P:Program}
def Gc.ok:Gc->Bool
 | .th b _ id=>b<RL&&id<RL
 | .dg b _=>b<RL
 | .ufc b _ id=>b<RL&&id<RL
section
variable {g:G} {w:World} {n:Nat} {tmps:Array Value} {s s':S}
theorem own_ok (h:SN g w n tmps s) {b c z:Nat} {m m':Mode} {xs:List D} {ds:List D} (hb:lk b s.l=some ds) (hRL:b<RL) (hc:ds[c]? =some (.sl .mu z xs)):∃B cap cur e,∃val:Nat->Nat->Value,
  w.heap[B]? =some (.cells cur e (0,0))∧xs.length<=cap∧cap<=maxLen∧cap*z<=cur.size∧g.tk B=some (boxL s.k b c)∧g.fr B=0∧(∀(i:Nat) d,xs[i]? =some d->d.cells.length=z)∧
  (∀(i:Nat) d (j:Nat) c,xs[i]? =some d->d.cells[j]? =some c->w.cell? ⟨B,0+i*z+j,none⟩=some (val i j))∧(∀(i:Nat) d (j:Nat) c,xs[i]? =some d->d.cells[j]? =some c->RF w g.fr (val i j) c)∧
  ∃blk cs et,g.bx s.k b=some blk∧w.heap[blk]? =some (.cells cs et (0,0))∧ds.length<=cs.size∧cs[c]? =some (.slice (some ⟨B,0,none⟩) xs.length cap)∧∀(c:Nat) d,ds[c]? =some d->∃y,cs[c]? =some y∧RC g w (boxL s.k b c) y d:=by
 have hB:bxl s.B s.k b=some ds:=by simp only[bxl,S.B,S.k];simpa using hb
 obtain⟨blk,cs,et,h1,h2,h3,h4⟩:=(h.st.sb.rel _ _ _ hB).c hRL
 obtain⟨y,h5,h6⟩:=h4 c _ hc
 obtain⟨B,off,cap,cur,e,val,rfl,q2,q3,q4,q5,q6,q7,q7',q8,q9,q10⟩:=(show Own g w (boxL s.k b c) y .mu z xs from h6)
 obtain rfl:=q7' rfl
 exact⟨B,cap,cur,e,val,q2,q3,q4,by omega,q6,q7,q8,q9,q10,blk,cs,et,h1,h2,h3,h5,h4⟩
theorem bx_local {b:Nat}:Ev.bx s.o.length b s=lk b s.l:=if_pos rfl
theorem B_sbl {b:Nat} {ds ds0:List D} (h:lk b s.l=some ds0) (f' b':Nat):bxl (s.wl (sb b ds s.l)).B f' b'=if f'=s.k∧b'=b then some ds else bxl s.B f' b':=by
 have:=B_sbx (f:=s.o.length) (b:=b) (ds:=ds) (ds0:=ds0) (s:=s) (by rw[bx_local];exact h) f' b'
 rw[show sbx s.o.length b ds s=s.wl (sb b ds s.l)from if_pos rfl]at this
 exact this
theorem all_bnd {ds:List D} {c k:Nat} {e:D} (h:∀d∈ds,d.bnd1 k=true) (he:e.bnd1 k=true):∀d∈ds.set c e,d.bnd1 k=true:=fun d hd=>by
 rcases List.mem_or_eq_of_mem_set hd with h1|h1
 ·exact h d h1
 ·rw[h1];exact he
theorem dg_ok (h:SN g w n tmps s) {b c:Nat} (hRL:b<RL) (he:evG1 (.dg b c) s=some s'):∃g',SN g' w n tmps s'∧Ext s.k g w g' w∧s'.k=s.k:=by
 simp only[evG1]at he
 split at he
 ·rename_i ds hb
  split at he
  ·rename_i z xs hc
   injection he with he
   subst he
   obtain⟨B,cap,cur,e,val,q2,q3,q4,q5,q6,q7,q8,q9,q10,blk,cs,et,h1,h2,h3,h5,h4⟩:=own_ok (m:=.mu) (m':=.mu) h hb hRL hc
   have hi:=h.st.inv
   have hfr:∀b',g.fr b'<=(g.own B (0+xs.length*z) (boxL s.k b c)).fr b':=fun b'=>by
    show _<=(if _ then _ else _)
    split
    ·rename_i e;rw[e,q7];omega
    ·exact Nat.le_refl _
   have htk:∀b',(g.own B (0+xs.length*z) (boxL s.k b c)).tk b'=g.tk b':=fun b'=>by
    show(if _ then _ else _)=_
    split
    ·rename_i e;rw[e,q6]
    ·rfl
   have hK:∀ℓ,ℓ≠boxL s.k b c->Keep g w ℓ (g.own B (0+xs.length*z) (boxL s.k b c)) w ℓ:=fun ℓ hℓ=>⟨fun _ _ _=>rfl,hfr,fun _ _ _ h=>h,fun b' hb'=>by
    have e:b'≠B:=fun e=>by rw[e,q6]at hb';injection hb' with hb';exact hℓ hb'.symm
    exact⟨by rw[htk];exact hb',by show(if _ then _ else _)=_;rw[if_neg e],rfl⟩,Gr.refl _⟩
   have hsz:xs.length*z<=cur.size:=Nat.le_trans (Nat.mul_le_mul_right z q3) q5
   refine⟨g.own B (0+xs.length*z) (boxL s.k b c),⟨⟨⟨hi.base,fun b' hb'=>?_,fun f s1 b' hb'=>?_,hi.inj,fun b' ℓ hb'=>hi.tk b' ℓ (by rw[<-htk];exact hb'),fun b' o ho=>?_,hi.dm,fun b' hb'=>by rw[htk];exact hi.dt b' hb'⟩,⟨fun f b' ds' hds=>?_,fun f b' hd=>?_,fun f b' ds' d hds hd=>?_⟩,fun t=>?_⟩,h.size⟩,⟨rfl,rfl,rfl,rfl,Nat.le_refl _,fun _ _=>rfl,hfr,fun _ _ _=>rfl,fun _ _ _ _ h=>h,fun b' ℓ hb' h0 hk=>(hK ℓ fun e=>by rw[e]at h0;cases h0).tk b' hb',fun _ h=>h,Gr.refl _⟩,rfl⟩
   ·have:=hi.fresh b' hb'
    refine⟨?_,by rw[htk];exact this.2⟩
    show(if _ then _ else _)=_
    rw[if_neg fun e=>by have:=getq_lt' q2;omega];exact this.1
   ·obtain⟨a1,a2,a3,a4⟩:=hi.box f s1 b' hb'
    refine⟨a1,a2,?_,by rw[htk];exact a4⟩
    show(if _ then _ else _)=_
    rw[if_neg fun e=>by rw[e,q6]at a4;cases a4];exact a3
   ·have ho':o<(if b'=B then 0+xs.length*z else g.fr b'):=ho
    split at ho'
    ·rename_i e
     subst e
     have:o<cur.size:=by omega
     simp[World.cell?,q2,this]
    ·exact hi.cells b' o ho'
   ·rw[B_sbl hb]at hds
    split at hds
    ·rename_i e
     obtain⟨rfl,rfl⟩:=e
     injection hds with hds
     subst hds
     refine .inl ⟨hRL,blk,cs,et,h1,h2,by simpa using h3,fun c' d hc'=>?_⟩
     rw[List.getElem?_set]at hc'
     split at hc'
     ·rename_i e
      subst e
      have hlt:=getq_lt hc
      simp only[hlt,if_true]at hc'
      injection hc' with hc'
      subst hc'
      exact⟨_,h5,(show Own _ w _ _ .app z xs from⟨B,0,cap,cur,e,val,rfl,q2,q3,q4,by omega,if_pos rfl,if_pos rfl,(fun h=>by cases h),q8,q9,fun i d j c hi hj=>(q10 i d j c hi hj).mono (fun _ _ _=>rfl) hfr⟩)⟩
     ·rename_i e
      obtain⟨y,r1,r2⟩:=h4 c' d hc'
      exact⟨y,r1,r2.keep (hK _ fun e'=>by simp[boxL]at e';exact e e'.symm)⟩
    ·rename_i hne
     exact(h.st.sb.rel f b' ds' hds).keep (fun c'=>hK _ fun e=>by simp[boxL]at e;exact hne ⟨e.1,e.2.1⟩) fun _ _=>rfl
   ·rw[B_sbl hb]
    split
    ·rfl
    ·exact h.st.sb.dom f b' hd
   ·rw[B_sbl hb]at hds
    split at hds
    ·rename_i e
     obtain⟨rfl,rfl⟩:=e
     injection hds with hds
     subst hds
     exact all_bnd (fun d hd=>h.st.sb.bnd _ _ ds d (by simp only[bxl,S.B,S.k];simpa using hb) hd) rfl d hd
    ·exact h.st.sb.bnd _ _ _ _ hds hd
   ·exact(h.st.e t).keep fun i c'=>hK _ fun e=>by simp[boxL,slotL,S.k,S.wl]at e
  ·injection he with he;subst he;exact⟨g,h,Ext.refl _ _ _,rfl⟩
  ·cases he
 ·cases he
def G.shr (g:G) (B f b:Nat):G:={g with tk:=fun b'=>if b'=B then none else g.tk b',bx:=fun f' b'=>if f'=f∧b'=b then some B else g.bx f' b'}
theorem th_ok (h:SN g w n tmps s) {b c id:Nat} (hRL:b<RL) (hRL':id<RL) (he:evG1 (.th b c id) s=some s'):∃g',SN g' w n tmps s'∧Ext s.k g w g' w∧s'.k=s.k:=by
 simp only[evG1]at he
 split at he
 ·rename_i ds hb
  split at he
  ·rename_i z xs hc
   split at he
   ·rename_i hcond
    obtain⟨hid0,hall⟩:=hcond
    have hid:lk id s.l=none:=by simpa using hid0
    injection he with he
    subst he
    obtain⟨B,cap,cur,e,val,q2,q3,q4,q5,q6,q7,q8,q9,q10,blk,cs,et,h1,h2,h3,h5,h4⟩:=own_ok (m:=.mu) (m':=.mu) h hb hRL hc
    have hi:=h.st.inv
    have hne:b≠id:=fun e=>by rw[e,hid]at hb;cases hb
    have hnone:g.bx s.k id=none:=by
     cases hq:g.bx s.k id with
     |none=>rfl
     |some B'=>
      have:=h.st.sb.dom s.k id (by rw[hq];rfl)
      simp only[bxl,S.B,S.k]at this
      simp[hid]at this
    have hK:∀ℓ,ℓ≠boxL s.k b c->Keep g w ℓ (g.shr B s.k id) w ℓ:=fun ℓ hℓ=>⟨fun _ _ _=>rfl,fun _=>Nat.le_refl _,fun f s1 b' h=>by
     show(if _ then _ else _)=_
     rw[if_neg fun e=>by rw[e.1,e.2,hnone]at h;cases h];exact h,fun b' hb'=>by
     have e:b'≠B:=fun e=>by rw[e,q6]at hb';injection hb' with hb';exact hℓ hb'.symm
     exact⟨by show(if _ then _ else _)=_;rw[if_neg e];exact hb',rfl,rfl⟩,Gr.refl _⟩
    let s1:S:=s.wl (sb b (ds.set c (.ref s.o.length id 0 xs.length z)) s.l)
    have hid1:lk id s1.l=none:=by
     show lk id (sb b _ s.l)=none
     rw[lk_sb,if_neg fun e=>hne e.symm];exact hid
    have hBx:∀f' b',bxl (s.wl (ins id (xs.flatMap D.cells) (sb b (ds.set c (.ref s.o.length id 0 xs.length z)) s.l))).B f' b'=if f'=s.k∧b'=id then some (xs.flatMap D.cells)else if f'=s.k∧b'=b then some (ds.set c (.ref s.o.length id 0 xs.length z))else bxl s.B f' b':=fun f' b'=>by
     have a1:=B_new (t:=id) (ds:=xs.flatMap D.cells) s1 hid1 f' b'
     have a2:=B_sbl (ds:=ds.set c (.ref s.o.length id 0 xs.length z)) hb f' b'
     rw[<-a2]
     exact a1
    obtain⟨vs,hel,hcells⟩:=row_of q8 q9 q10
    have hfl:(xs.flatMap D.cells).length=xs.length*z:=flat_len q8
    refine⟨g.shr B s.k id,⟨⟨⟨hi.base,fun b' hb'=>?_,fun f s1 b' hb'=>?_,fun f1 s1 f2 s2 b' e1 e2=>?_,fun b' ℓ hb'=>?_,hi.cells,hi.dm,fun b' hb'=>?_⟩,⟨fun f b' ds' hds=>?_,fun f b' hd=>?_,fun f b' ds' d hds hd=>?_⟩,fun t=>?_⟩,h.size⟩,⟨rfl,rfl,rfl,rfl,Nat.le_refl _,fun _ _=>rfl,fun _=>Nat.le_refl _,fun _ _ _=>rfl,eqb (fun f s' hf=>?_),fun b' ℓ hb' h0 hk=>(hK ℓ fun e=>by rw[e]at h0;cases h0).tk b' hb',fun _ h=>h,Gr.refl _⟩,rfl⟩
    ·have:=hi.fresh b' hb'
     refine⟨this.1,?_⟩
     show(if _ then _ else _)=_
     split
     ·rfl
     ·exact this.2
    ·have hb2:(if f=s.k∧s1=id then some B else g.bx f s1)=some b':=hb'
     split at hb2
     ·injection hb2 with hb2
      subst hb2
      exact⟨hi.tk _ _ q6,getq_lt' q2,q7,if_pos rfl⟩
     ·obtain⟨a1,a2,a3,a4⟩:=hi.box f s1 b' hb2
      refine⟨a1,a2,a3,?_⟩
      show(if _ then _ else _)=_
      split
      ·rfl
      ·exact a4
    ·have e1':(if f1=s.k∧s1=id then some B else g.bx f1 s1)=some b':=e1
     have e2':(if f2=s.k∧s2=id then some B else g.bx f2 s2)=some b':=e2
     split at e1'<;>split at e2'
     ·rename_i r1 r2;exact⟨r1.1.trans r2.1.symm,r1.2.trans r2.2.symm⟩
     ·injection e1' with e1';subst e1';have:=(hi.box _ _ _ e2').2.2.2;rw[q6]at this;cases this
     ·injection e2' with e2';subst e2';have:=(hi.box _ _ _ e1').2.2.2;rw[q6]at this;cases this
     ·exact hi.inj _ _ _ _ _ e1' e2'
    ·have hb2:(if b'=B then none else g.tk b')=some ℓ:=hb'
     split at hb2
     ·cases hb2
     ·exact hi.tk _ _ hb2
    ·show(if _ then _ else _)=_
     split
     ·rfl
     ·exact hi.dt b' hb'
    ·rw[hBx]at hds
     split at hds
     ·rename_i e
      obtain⟨rfl,rfl⟩:=e
      injection hds with hds
      subst hds
      refine .inl ⟨hRL',B,cur,e,if_pos ⟨rfl,rfl⟩,q2,by rw[hfl];exact Nat.le_trans (Nat.mul_le_mul_right z q3) q5,fun c' d hc'=>?_⟩
      obtain⟨v,r1,r2⟩:=hel.flat c' d hc'
      refine⟨v,?_,(RF.toRC _ (show RF w g.fr v d from r2)).keep (hK _ fun e=>by simp[boxL]at e;exact hne e.1.symm)⟩
      have:=hcells c' v r1
      simpa[World.cell?,q2]using this
     ·split at hds
      ·rename_i e
       obtain⟨rfl,rfl⟩:=e
       injection hds with hds
       subst hds
       refine .inl ⟨hRL,blk,cs,et,(hK (slotL 0 0 0 0) fun e=>by simp[boxL,slotL]at e).bx _ _ _ h1,h2,by simpa using h3,fun c' d hc'=>?_⟩
       rw[List.getElem?_set]at hc'
       split at hc'
       ·rename_i e
        subst e
        have hlt:=getq_lt hc
        simp only[hlt,if_true]at hc'
        injection hc' with hc'
        subst hc'
        exact⟨_,h5,(show RC _ w _ _ (.ref s.k id 0 xs.length z)from⟨hRL',B,cap,0,if_pos ⟨rfl,rfl⟩,rfl,q3,q4,.inr rfl,(fun o ho=>by
         have h1:o<cur.size:=Nat.lt_of_lt_of_le ho q5
         simp[World.cell?,q2,h1])⟩)⟩
       ·rename_i e
        obtain⟨y,r1,r2⟩:=h4 c' d hc'
        exact⟨y,r1,r2.keep (hK _ fun e'=>by simp[boxL]at e';exact e e'.symm)⟩
      ·rename_i hne2
       exact(h.st.sb.rel f b' ds' hds).keep (fun c'=>hK _ fun e=>by simp[boxL]at e;exact hne2 ⟨e.1,e.2.1⟩) fun _ _=>rfl
    ·rw[hBx]
     split
     ·rfl
     ·split
      ·rfl
      ·rename_i r1 r2
       have hd':(if f=s.k∧b'=id then some B else g.bx f b').isSome=true:=hd
       rw[if_neg r1]at hd'
       exact h.st.sb.dom f b' hd'
    ·rw[hBx]at hds
     split at hds
     ·rename_i e
      injection hds with hds
      subst hds
      obtain⟨x,hx,hd⟩:=List.mem_flatMap.1 hd
      exact rf1_bnd (List.all_eq_true.1 (List.all_eq_true.1 hall x hx) d hd)
     ·split at hds
      ·rename_i e
       obtain⟨rfl,rfl⟩:=e
       injection hds with hds
       subst hds
       exact all_bnd (fun d hd=>h.st.sb.bnd _ _ ds d (by simp only[bxl,S.B,S.k];simpa using hb) hd) (by simp[D.bnd1,S.k]) d hd
      ·exact h.st.sb.bnd _ _ _ _ hds hd
    ·exact(h.st.e t).keep fun i c'=>hK _ fun e=>by simp[boxL,slotL]at e
    ·show(if _ then _ else _)=_
     rw[if_neg fun e=>by omega]
   ·cases he
  ·injection he with he;subst he;exact⟨g,h,Ext.refl _ _ _,rfl⟩
  ·cases he
 ·cases he
def G.fz (g:G) (k id blk m:Nat):G:={g with bx:=fun f b=>if f=k∧b=id then none else g.bx f b,fr:=fun b=>if b=blk then m else g.fr b}
structure FzH (g:G) (w:World) (k id blk:Nat) (cs:List D):Prop where
 inv:Inv g w
 bx:g.bx k id=some blk
 RLid:id<RL
 all:cs.all D.rf1=true
 vs:∃vs et,w.heap[blk]? =some (.cells vs et (0,0))∧cs.length<=vs.size∧∀(c:Nat) d,cs[c]? =some d->∃y,vs[c]? =some y∧RF w g.fr y d
variable {k id blk:Nat} {cs:List D}
theorem FzH.fr (h:FzH g w k id blk cs) (b:Nat):g.fr b<=(g.fz k id blk cs.length).fr b:=by
 show _<=(if _ then _ else _)
 split
 ·rename_i e;rw[e,(h.inv.box _ _ _ h.bx).2.2.1];omega
 ·exact Nat.le_refl _
theorem FzH.keep (h:FzH g w k id blk cs) {f b B:Nat} (hb:g.bx f b=some B) (hne:¬(f=k∧b=id)):(g.fz k id blk cs.length).bx f b=some B:=by
 show(if _ then _ else _)=_
 rw[if_neg hne];exact hb
theorem FzH.tk (h:FzH g w k id blk cs) {b:Nat} {ℓ:Loc} (hb:g.tk b=some ℓ):(g.fz k id blk cs.length).tk b=some ℓ∧(g.fz k id blk cs.length).fr b=g.fr b∧w.heap[b]? =w.heap[b]? :=by
 refine⟨hb,?_,rfl⟩
 show(if _ then _ else _)=_
 rw[if_neg fun e=>by rw[e,(h.inv.box _ _ _ h.bx).2.2.2]at hb;cases hb]
theorem FzH.frblk:(g.fz k id blk cs.length).fr blk=cs.length:=if_pos rfl
theorem FzH.cell (h:FzH g w k id blk cs):∃val:Nat->Value,∀(j:Nat) c,cs[j]? =some c->w.cell? ⟨blk,0+j,none⟩=some (val j)∧RF w (g.fz k id blk cs.length).fr (val j) c:=by
 obtain⟨vs,et,h1,h2,h3⟩:=h.vs
 refine⟨fun j=>vs.getD j undef,fun j c hj=>?_⟩
 obtain⟨y,r5,r6⟩:=h3 j c hj
 have hy:vs.getD j undef=y:=by rw[Array.getD_eq_getD_getElem?,r5];rfl
 show w.cell? ⟨blk,0+j,none⟩=some (vs.getD j undef)∧RF w _ (vs.getD j undef) c
 rw[hy]
 exact⟨by simp[World.cell?,h1,r5],r6.mono (fun _ _ _=>rfl) h.fr⟩
theorem lk_one {b:Nat}:lk b [(id,cs)]=if b=id then some cs else none:=by simp[lk]
theorem RP.fz (h:FzH g w k id blk cs) {x:Value} {d:D} (hr:RP g w x d):RP (g.fz k id blk cs.length) w x (d.frzP k [(id,cs)]):=by
 cases d with
 |v y=>exact hr
 |fptr cs' off=>
  obtain⟨b,o,val,h1,h2,h3⟩:=hr
  exact⟨b,o,val,h1,Nat.le_trans h2 (h.fr b),fun j c hj=>⟨(h3 j c hj).1,(h3 j c hj).2.mono (fun _ _ _=>rfl) h.fr⟩⟩
 |ptr f b off=>
  obtain⟨h0,B,h1,h2⟩:=hr
  simp only[D.frzP,lk_one]
  by_cases e:f=k
  ·rw[if_pos e]
   by_cases e':b=id
   ·rw[if_pos e']
    simp only[h.all,if_true]
    subst e e'
    rw[h.bx]at h1
    injection h1 with h1
    subst h1
    obtain⟨val,hv⟩:=h.cell
    exact⟨blk,0,val,by rw[Nat.zero_add];exact h2,by rw[FzH.frblk];omega,hv⟩
   ·rw[if_neg e']
    exact⟨h0,B,h.keep h1 fun q=>e' q.2,h2⟩
  ·rw[if_neg e]
   exact⟨h0,B,h.keep h1 fun q=>e q.1,h2⟩
 |_=>exact hr.elim
theorem RC.fz (h:FzH g w k id blk cs) {ℓ:Loc} {x:Value} {d:D} (hr:RC g w ℓ x d):RC (g.fz k id blk cs.length) w ℓ x (d.frz1 k [(id,cs)]):=by
 cases d with
 |u=>trivial
 |v y=>exact hr
 |sl m z xs=>cases m with
  |nl=>exact RF.mono hr (fun _ _ _=>rfl) h.fr
  |ro=>exact RF.mono hr (fun _ _ _=>rfl) h.fr
  |app=>exact Own.ext (show Own g w ℓ x .app z xs from hr) (fun _ _ _=>rfl) h.fr fun b hb=>h.tk hb
  |mu=>exact Own.ext (show Own g w ℓ x .mu z xs from hr) (fun _ _ _=>rfl) h.fr fun b hb=>h.tk hb
 |ptr f b off=>
  have:=RP.fz h (show RP g w x (.ptr f b off)from hr)
  show RC _ _ _ _ ((D.ptr f b off).frzP k [(id,cs)])
  simp only[D.frzP,lk_one]at this ⊢
  by_cases e:f=k
  ·rw[if_pos e]at this ⊢
   by_cases e':b=id
   ·rw[if_pos e']at this ⊢
    simp only[h.all,if_true]at this ⊢
    exact this
   ·rw[if_neg e']at this ⊢;exact this
  ·rw[if_neg e]at this ⊢;exact this
 |fptr cs' off=>exact RP.fz h (show RP g w x (.fptr cs' off)from hr)
 |clo fn caps=>
  obtain⟨h0,vs,h1,h2,h3⟩:=hr
  refine⟨h0,vs,h1,by simpa using h2,fun j c hj=>?_⟩
  simp only[List.getElem?_map]at hj
  obtain⟨c0,q1,q2⟩:=Option.map_eq_some_iff.1 hj
  subst q2
  obtain⟨y,q3,q4⟩:=h3 j c0 q1
  exact⟨y,q3,RP.fz h q4⟩
 |yld f b=>
  obtain⟨h0,l,h1,h2⟩:=hr
  exact⟨h0,l,h.keep h1 fun q=>by have:=h.RLid;omega,h2⟩
 |ref f b off m z=>
  obtain⟨h0,B,cap,off',h1,h2,h3,h4,h5,h6⟩:=hr
  show RC _ _ _ _ ((D.ref f b off m z).frzP k [(id,cs)])
  simp only[D.frzP,lk_one]
  by_cases e:f=k
  ·rw[if_pos e]
   by_cases e':b=id
   ·rw[if_pos e']
    simp only[h.all,if_true]
    subst e e'
    rw[h.bx]at h1
    injection h1 with h1
    subst h1
    by_cases hle:off+m*z<=cs.length
    ·rw[if_pos hle]
     obtain⟨vs,et,v1,v2,v3⟩:=h.vs
     rw[h2]
     exact(show RF w _ _ (.sl .ro z (chunks z m (cs.drop off)))from ref_ro h3 h4 (h5.imp (fun q=>by omega) id) v1 h.all (fun c d hc=>by obtain⟨y,r1,r2⟩:=v3 c d hc;exact⟨y,r1,r2.mono (fun _ _ _=>rfl) h.fr⟩) (Nat.le_of_eq FzH.frblk.symm) hle)
    ·rw[if_neg hle];trivial
   ·rw[if_neg e']
    exact⟨h0,B,cap,off',h.keep h1 fun q=>e' q.2,h2,h3,h4,h5,h6⟩
  ·rw[if_neg e]
   exact⟨h0,B,cap,off',h.keep h1 fun q=>e q.1,h2,h3,h4,h5,h6⟩
 |_=>exact hr.elim
theorem frz1_ne {l:Bx} {d:D} (h:d.aggB=false):(d.frz1 k l).aggB=false:=by
 cases d with
 |ptr f b off=>simp only[D.frz1,D.frzP];(repeat' split)<;>first|rfl|exact h
 |ref f b off n z=>simp only[D.frz1,D.frzP];(repeat' split)<;>first|rfl|exact h
 |agg cs=>cases h
 |_=>rfl
theorem frz1_tup {l:Bx} {d:D} (h:d.tupB=false):(d.frz1 k l).tupB=false:=by
 cases d with
 |ptr f b off=>simp only[D.frz1,D.frzP];(repeat' split)<;>first|rfl|exact h
 |ref f b off n z=>simp only[D.frz1,D.frzP];(repeat' split)<;>first|rfl|exact h
 |tup cs=>cases h
 |_=>rfl
theorem frz2_ne {l:Bx} {d:D} (h:d.aggB=false):d.frz2 k l=d.frz1 k l:=by cases d<;>first|rfl|cases h
theorem frz3_ne {l:Bx} {d:D} (h:d.tupB=false):d.frz3 k l=d.frz2 k l:=by cases d<;>first|rfl|cases h
theorem RV.fz (h:FzH g w k id blk cs) {L:Nat->Loc} {x:Value} {d:D} (hr:RV g w L x d):RV (g.fz k id blk cs.length) w L x (d.frz2 k [(id,cs)]):=by
 rcases agg_or d with⟨ds,rfl⟩|hd
 ·obtain⟨vs,h1,h2,h3⟩:=hr
  refine⟨vs,h1,by simpa using h2,fun c e hc=>?_⟩
  rw[List.getElem?_map]at hc
  obtain⟨e0,q1,q2⟩:=Option.map_eq_some_iff.1 hc
  subst q2
  obtain⟨y,q3,q4⟩:=h3 c e0 q1
  exact⟨y,q3,q4.fz h⟩
 ·rw[RV_ne hd]at hr
  rw[frz2_ne hd,RV_ne (frz1_ne hd)]
  exact hr.fz h
theorem frz2_tup {l:Bx} {d:D} (h:d.tupB=false):(d.frz2 k l).tupB=false:=by
 rcases agg_or d with⟨ds,rfl⟩|hd
 ·rfl
 ·rw[frz2_ne hd];exact frz1_tup h
theorem RT.fz (h:FzH g w k id blk cs) {L:Nat->Nat->Loc} {x:Value} {d:D} (hr:RT g w L x d):RT (g.fz k id blk cs.length) w L x (d.frz3 k [(id,cs)]):=by
 rcases tup_or d with⟨ds,rfl⟩|hd
 ·obtain⟨vs,h1,h2,h3⟩:=hr
  refine⟨vs,h1,by simpa using h2,fun c e hc=>?_⟩
  rw[List.getElem?_map]at hc
  obtain⟨e0,q1,q2⟩:=Option.map_eq_some_iff.1 hc
  subst q2
  obtain⟨y,q3,q4⟩:=h3 c e0 q1
  exact⟨y,q3,q4.fz h⟩
 ·rw[RT_ne hd]at hr
  rw[frz3_ne hd,RT_ne (frz2_tup hd)]
  exact hr.fz h
theorem bnd1_le {d:D} {k':Nat} (h:d.bnd1 k'=true) (hk:k'<=k):d.bnd1 k=true:=by
 cases d with
 |ptr f b off=>
  have:f<k':=by simpa[D.bnd1]using h
  simp[D.bnd1];omega
 |ref f b off n z=>
  have:f<k':=by simpa[D.bnd1]using h
  simp[D.bnd1];omega
 |yld f b=>
  have:f<k':=by simpa[D.bnd1]using h
  simp[D.bnd1];omega
 |clo fn caps=>
  refine List.all_eq_true.2 fun c hc=>?_
  have:=List.all_eq_true.1 (show caps.all _=true from h) c hc
  cases c with
  |ptr f s off=>simp at this ⊢;omega
  |v y=>rfl
  |fptr cs off=>rfl
  |_=>cases this
 |_=>exact h
theorem lk_rm {b b':Nat} {l:Bx}:lk b' (rmL b l)=if b'=b then none else lk b' l:=by
 induction l with
 |nil=>simp[rmL,lk]
 |cons p r ih=>
  obtain⟨c,ds⟩:=p
  simp only[rmL]
  by_cases e:b=c
  ·subst e
   rw[if_pos rfl,ih]
   by_cases e':b'=b
   ·rw[if_pos e',if_pos e']
   ·rw[if_neg e',if_neg e',lk,if_neg e']
  ·rw[if_neg e]
   simp only[lk]
   by_cases e':b'=c
   ·subst e';rw[if_pos rfl,if_neg fun q=>e q.symm]
    simp
   ·rw[if_neg e',ih,if_neg e']
end
end Go.Proofs.Ytfopbiiffiickaa.Ev
