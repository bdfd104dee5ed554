/- Typed values, and an evaluator over them that leaves Lean's own terms. Conditions: none. -/
import Derived.Test.YtfopbiiffiickaaEvS
import Derived.Test.YtfopbiiffiickaaEvC
set_option linter.all false
namespace Go.Proofs.Ytfopbiiffiickaa.Ev
open Go
variable (P:Program)
theorem zip_self {α β:Type} (l:List (α×β)):(l.map (·.1)).zip (l.map (·.2))=l:=by
 induction l with
 |nil=>rfl
 |cons x l ih=>simp[ih]
theorem arr1 {α:Type} {a:Array α} {l:List α} (h:a.toList=l):a=l.toArray:=by rw[<-h]
theorem call_eta (c:Call):c=⟨c.callee,c.args,c.argTypes⟩:=rfl
set_option maxHeartbeats 1000000 in
theorem okOp_ok {o:Go.Op} {p:Op} (h:okOp P o p=true):MOp P o p:=by
 unfold okOp at h
 split at h
 ·exact .mv (okD_ok h)
 ·exact .asg (okD_ok h)
 ·simp only[Bool.and_eq_true]at h;exact .pk (okD_ok h.1.1) (okD_ok h.1.2) (okD_ok h.2)
 ·obtain rfl:=Option.isNone_iff_eq_none.1 h
  exact .mkm
 ·simp only[Bool.and_eq_true]at h
  obtain rfl:=Option.isNone_iff_eq_none.1 h.1
  exact .mkn (by simpa using h.2)
 ·simp only[Bool.and_eq_true]at h
  obtain⟨k,e,i,h1,h2,h3,h4⟩:=okMap_ok P h.2
  exact .mlk (okD_ok h.1.1) (okD_ok h.1.2) h1 h2 h3 h4
 ·simp only[Bool.and_eq_true]at h
  obtain⟨⟨⟨h0,h0'⟩,h5⟩,h6⟩:=h
  obtain⟨k,e,i,h1,h2,h3,h4⟩:=okMap_ok P h5
  split at h6
  ·rw[vEq_ok h6];exact .mup (okD_ok h0) (okD_ok h0') h1 h2
  ·cases h6
 ·split at h
  ·rename_i i hi
   split at h
   ·rename_i v hv
    simp only[Bool.and_eq_true]at h
    exact .al hi hv (okCells_ok h.1) h.2
   ·cases h
  ·cases h
 ·exact .bx (okD_ok h)
 ·simp only[Bool.and_eq_true]at h;exact .bxo (okD_ok h.1) (by simpa using h.2)
 ·simp only[Bool.and_eq_true]at h;exact .ld (okD_ok h.1) (okSz_ok P h.2)
 ·simp only[Bool.and_eq_true]at h;exact .ldm (okD_ok h.1) (okSz_ok P h.2)
 ·simp only[Bool.and_eq_true]at h
  obtain⟨⟨h1,h2⟩,h3⟩:=h
  split at h3
  ·rename_i i hi;exact .st (okD_ok h1) (okD_ok h2) hi (beq_iff_eq.1 h3)
  ·cases h3
 ·simp only[Bool.and_eq_true]at h;exact .bin (okB_ok h.1.1) (okD_ok h.1.2) (okD_ok h.2)
 ·exact .no (okD_ok h)
 ·rename_i op t x xr x'
  simp only[Bool.and_eq_true]at h
  obtain⟨h1,h2⟩:=h
  split at h2
  ·subst h2;exact .xr (okD_ok h1)
  ·obtain rfl:xr=false:=by simpa using h2
   exact .ng (okD_ok h1)
  ·cases h2
 ·simp only[Bool.and_eq_true]at h
  obtain⟨h1,h2⟩:=h
  split at h2
  ·rename_i fs hfs
   split at h2
   ·rename_i fd hfd
    simp only[Bool.and_eq_true,beq_iff_eq]at h2
    obtain⟨h3,h4⟩:=h2
    split at h4
    ·rename_i i hi;exact .fa (okD_ok h1) hfs hfd h3 hi (by simpa using h4)
    ·cases h4
   ·cases h2
  ·cases h2
 ·simp only[Bool.and_eq_true]at h
  obtain⟨h1,h2⟩:=h
  split at h2
  ·rename_i n e hu
   simp only[Bool.and_eq_true,decide_eq_true_eq]at h2
   obtain⟨⟨h3,h4⟩,h5⟩:=h2
   split at h5
   ·rename_i i hi;exact .fai (okD_ok h1) hu hi h3 h4 (beq_iff_eq.1 h5)
   ·cases h5
  ·cases h2
 ·simp only[Bool.and_eq_true]at h
  obtain⟨e,i,q1,q2,q3⟩:=okE_ok P h.2
  exact .ia (okD_ok h.1.1) (okD_ok h.1.2) q1 q2 (beq_iff_eq.1 q3)
 ·simp only[Bool.and_eq_true]at h
  obtain⟨⟨h1,h2⟩,h3⟩:=h
  split at h3
  ·rename_i hu;exact .six (okD_ok h1) (okD_ok h2) hu
  ·cases h3
 ·simp only[Bool.and_eq_true,beq_iff_eq]at h;rw[h.2];exact .ext (okD_ok h.1)
 ·rename_i c f args
  split at h
  ·rename_i f' hc
   simp only[Bool.and_eq_true,beq_iff_eq,Nat.blt_eq]at h
   rw[call_eta c,hc,<-h.1.1];exact .call h.1.2 (okA_ok h.2)
  ·cases h
 ·rename_i c f args
  split at h
  ·rename_i f' hc
   simp only[Bool.and_eq_true,beq_iff_eq,Nat.blt_eq]at h
   rw[call_eta c,hc,<-h.1.1];exact .calf h.1.2 (okA_ok h.2)
  ·cases h
 ·rename_i c f args
  split at h
  ·rename_i f' hc
   simp only[Bool.and_eq_true]at h
   rw[call_eta c,hc];exact .cv (okD_ok h.1) (okA_ok h.2)
  ·cases h
 ·rename_i c x
  split at h
  ·rename_i y t hc ha ht
   simp only[Bool.and_eq_true]at h
   obtain⟨e,i,q1,q2,q3⟩:=okE_ok P h.2
   rw[call_eta c,hc,arr1 ha,arr1 ht];exact .lenS (okD_ok h.1) q1
  ·cases h
 ·rename_i c x
  split at h
  ·rename_i y t hc ha ht
   simp only[Bool.and_eq_true]at h
   obtain⟨h1,h2⟩:=h
   split at h2
   ·rename_i hu
    rw[call_eta c,hc,arr1 ha,arr1 ht];exact .lenT (okD_ok h1) hu
   ·cases h2
  ·cases h
 ·rename_i c wm z by_ x y
  split at h
  ·rename_i x' y' t tx hc ha ht
   simp only[Bool.and_eq_true]at h
   obtain⟨⟨⟨h1,h2⟩,h3⟩,h4⟩:=h
   obtain⟨e,i,q1,q2,q3⟩:=okE_ok P h3
   obtain⟨r1,⟨zv,r2,r3⟩,r4,r5⟩:=okZ_ok q3
   obtain⟨r6,r7⟩:=r5 by_ rfl
   split at h4
   ·rename_i e' he'
    rw[call_eta c,hc,arr1 ha,arr1 ht]
    exact .ap (okD_ok h1) (okD_ok h2) q1 he' q2 r2 r1 r6 r3 r4 r7
   ·cases h4
  ·cases h
 ·rename_i c mx x r
  split at h
  ·rename_i b x' r' hc ha
   simp only[Bool.and_eq_true]at h
   obtain⟨⟨h1,h2⟩,h3⟩:=h
   obtain⟨k1,k2⟩:=okDs_ok h3
   split at h1
   ·subst h1;rw[call_eta c,hc,arr1 ha];exact .mx (okD_ok h2) k1 k2
   ·obtain rfl:mx=false:=by simpa using h1
    rw[call_eta c,hc,arr1 ha];exact .mn (okD_ok h2) k1 k2
   ·cases h1
  ·cases h
 ·rename_i t len ps w z ps'
  simp only[Bool.and_eq_true,beq_iff_eq,decide_eq_true_eq]at h
  obtain⟨⟨⟨h1,h2⟩,h3⟩,h4⟩:=h
  obtain⟨e,i,q1,q2,q3⟩:=okE_ok P h3
  obtain⟨r1,⟨zv,r2,r3⟩,r4,_⟩:=okZ_ok q3
  obtain⟨k1,k2⟩:=okDs_ok h1
  have hlen:len=(ps.toList.map (·.2)).length:=by
   have:=congrArg List.length h2
   simp at this ⊢
   exact this.symm
  have hps:ps=((List.range (ps.toList.map (·.2)).length).zip (ps.toList.map (·.2))).toArray:=by
   rw[<-hlen,<-h2,zip_self]
  rw[hlen,hps]
  have e2:((List.range (ps.toList.map (·.2)).length).zip (ps.toList.map (·.2))).toArray.toList.map (·.2)=ps.toList.map (·.2):=by rw[<-hps]
  rw[e2]
  exact .bs k1 k2 q1 q2 r2 r1 r3 r4 (by rw[<-hlen];exact h4)
 ·rename_i t x y z by_ ze x' y'
  simp only[Bool.and_eq_true]at h
  obtain⟨e,i,q1,q2,q3⟩:=okE_ok P h.2
  simp only[Bool.and_eq_true]at q3
  obtain⟨r1,⟨zv,r2,r3⟩,r4,r5⟩:=okZ_ok q3.1
  obtain⟨r6,r7⟩:=r5 by_ rfl
  have h5:=q3.2
  rw[r2]at h5
  simp only[Bool.and_eq_true]at h5
  exact .mk (okD_ok h.1.1) (okD_ok h.1.2) q1 q2 r2 r1 r6 r3 r4 r7 (zcsEq_ok h5.1) h5.2
 ·rename_i t ps z ps'
  simp only[Bool.and_eq_true]at h
  obtain⟨h1,h2⟩:=h
  split at h1
  ·rename_i fs hfs
   simp only[Bool.and_eq_true]at h1
   obtain⟨k1,k2⟩:=okParts_ok P h1.1
   split at h2
   ·rename_i i hi
    split at h2
    ·rename_i v hv
     have:=MOp.bd (ps:=ps.toList) hfs hi hv (okCells_ok h2) k1 k2 (fun fd hfd=>by
      have:=Array.all_eq_true_iff_forall_mem.1 h1.2 fd hfd
      exact this)
     rwa[Array.toArray_toList]at this
    ·cases h2
   ·cases h2
  ·cases h1
 ·simp only[Bool.and_eq_true]at h
  obtain⟨⟨⟨h1,h2⟩,h3⟩,h4⟩:=h
  obtain⟨e,i,q1,q2,q3⟩:=okE_ok P h4
  exact .slc (okD_ok h1) q1 q2 (beq_iff_eq.1 q3) (okO_ok h2) (okO_ok h3)
 ·rename_i op t x y t' ne x'
  simp only[Bool.and_eq_true]at h
  obtain⟨⟨⟨h1,h2⟩,h3⟩,h4⟩:=h
  obtain⟨e,i,q1,q2,q3⟩:=okE_ok P h4
  split at h2
  ·rw[vEq_ok h2]
   split at h3
   ·obtain rfl:ne=false:=by simpa using h3
    exact .eqn (okD_ok h1) q1
   ·subst h3;exact .nen (okD_ok h1) q1
   ·cases h3
  ·cases h2
 ·rename_i op t x y t' ne x' y'
  simp only[Bool.and_eq_true]at h
  obtain⟨⟨h1,h2⟩,h3⟩:=h
  split at h3
  ·obtain rfl:ne=false:=by simpa using h3
   exact .eqs (okD_ok h1) (okD_ok h2)
  ·subst h3;exact .nes (okD_ok h1) (okD_ok h2)
  ·cases h3
 ·rename_i op t x y t' ne x' y'
  simp only[Bool.and_eq_true]at h
  obtain⟨⟨⟨h1,h2⟩,h3⟩,h4⟩:=h
  split at h4
  ·rename_i hu
   split at h3
   ·obtain rfl:ne=false:=by simpa using h3
    exact .eqb (okD_ok h1) (okD_ok h2) hu
   ·subst h3;exact .neb (okD_ok h1) (okD_ok h2) hu
   ·cases h3
  ·cases h4
 ·rename_i op t x y t' ne z x' y'
  simp only[Bool.and_eq_true]at h
  obtain⟨⟨⟨h1,h2⟩,h3⟩,h4⟩:=h
  split at h4
  ·rename_i fs hu
   simp only[Bool.and_eq_true,Bool.not_eq_true']at h4
   obtain⟨⟨h5,h6⟩,h7⟩:=h4
   split at h3
   ·obtain rfl:ne=false:=by simpa using h3
    exact .eqa (okD_ok h1) (okD_ok h2) hu h5 h6 (okPl_ok P h7)
   ·subst h3;exact .nea (okD_ok h1) (okD_ok h2) hu h5 h6 (okPl_ok P h7)
   ·cases h3
  ·cases h4
 ·simp only[Bool.and_eq_true]at h;exact .sh (okB_ok h.1.1) (okD_ok h.1.2) (okD_ok h.2)
 ·simp only[Bool.and_eq_true]at h
  obtain⟨⟨h1,h2⟩,h3⟩:=h
  obtain⟨d,hd⟩:=Option.isSome_iff_exists.1 h2
  split at h3
  ·rename_i k' hk
   rw[beq_iff_eq.1 h3];exact .ci (okD_ok h1) hd hk
  ·cases h3
 ·rename_i f first caps f' caps'
  simp only[Bool.and_eq_true,beq_iff_eq,Nat.blt_eq]at h
  obtain⟨⟨⟨h1,h0⟩,h2⟩,h3⟩:=h
  have:first= #[]:=by simpa using h2
  subst this
  rw[<-h1];exact .mf h0 (okA_ok h3)
 ·exact .nck (okD_ok h)
 ·simp only[Bool.and_eq_true]at h
  obtain⟨⟨h1,h2⟩,h3⟩:=h
  split at h2
  ·rename_i e hs
   split at h2
   ·rename_i he
    split at h3
    ·rename_i ht
     exact .bst (okD_ok h1) hs he ht
    ·cases h3
   ·cases h2
  ·cases h2
 ·rename_i c x y
  split at h
  ·rename_i x' y' t tx hc ha ht
   simp only[Bool.and_eq_true]at h
   obtain⟨⟨h1,h2⟩,h3⟩:=h
   obtain⟨e,i,q1,q2,q3⟩:=okE_ok P h3
   rw[call_eta c,hc,arr1 ha,arr1 ht]
   exact .cpy (okD_ok h1) (okD_ok h2) q1 q2 (beq_iff_eq.1 q3)
  ·cases h
 ·rename_i c f args
  split at h
  ·rename_i f' hc
   simp only[Bool.and_eq_true,beq_iff_eq,Nat.blt_eq]at h
   obtain⟨⟨h1,h0⟩,h3⟩:=h
   rw[call_eta c,hc,<-h1];exact .pcal h0 (okA_ok h3)
  ·cases h
 ·cases h
def okStp (n:Nat) (ops:Array Oper) (o:Oper) (p:Stp):Bool:=
 okOp P o.op p.op&&p.t==o.dst&&(match p.t with|some t=>Nat.blt t n&&Nat.blt t RL|none=>true)&&
  (match o.guard,p.g with
   |none,none=>true
   |some (j,want),some (q,want')=>want==want'&&(ops[j]?).bind (·.dst)==some q
   |_,_=>false)
theorem okStp_ok {n:Nat} {ops:Array Oper} {o:Oper} {p:Stp} (h:okStp P n ops o p=true):MStp P n ops o p:=by
 simp only[okStp,Bool.and_eq_true,beq_iff_eq]at h
 obtain⟨⟨⟨h1,h2⟩,h3⟩,h4⟩:=h
 refine⟨okOp_ok P h1,h2,fun t ht=>by rw[ht]at h3;simp only[Bool.and_eq_true,Nat.blt_eq]at h3;exact h3.1,fun t ht=>by rw[ht]at h3;simp only[Bool.and_eq_true,Nat.blt_eq]at h3;exact h3.2,?_⟩
 cases ho:o.guard with
 |none=>rw[ho]at h4;cases hp:p.g with
  |none=>trivial
  |some q=>rw[hp]at h4;cases h4
 |some jw=>
  rw[ho]at h4
  obtain⟨j,w⟩:=jw
  cases hp:p.g with
  |none=>rw[hp]at h4;cases h4
  |some q=>
   rw[hp]at h4
   obtain⟨q,w'⟩:=q
   simpa[Bool.and_eq_true]using h4
def okOps (n:Nat) (ops:Array Oper):List Oper->List Stp->Bool
 |[],[]=>true
 |o::r,p::r'=>okStp P n ops o p&&okOps n ops r r'
 |_,_=>false
theorem okOps_ok {n:Nat} {ops:Array Oper}:∀{l:List Oper} {ps:List Stp} {k:Nat},okOps P n ops l ps=true->(∀j o,l[j]? =some o->ops[k+j]? =some o)->MOps P n ops (List.range' k l.length) ps
 |[],[],k,_,_=>.nil
 |o::r,p::r',k,h,hl=>by
  simp only[okOps,Bool.and_eq_true]at h
  rw[List.length_cons,List.range'_succ]
  refine .cons (hl 0 o rfl) (okStp_ok P h.1) (okOps_ok h.2 fun j o' hj=>?_)
  have:=hl (j+1) o' (by simpa using hj)
  rw[<-this];congr 1;omega
 |[],_::_,_,h,_=>by cases h
 |_::_,[],_,h,_=>by cases h
theorem rounds_sub:∀(c:Code) (j:Nat) (p:Array Tmp×Code×Code),(rounds c)[j]? =some p->∀i x,(rounds p.2.1++rounds p.2.2)[i]? =some x->(rounds c)[j+1+i]? =some x
 | .seq a b,j,p,hj,i,x,hx=>by
  simp only[rounds]at hj ⊢
  rcases Nat.lt_or_ge j (rounds a).length with h|h
  ·rw[List.getElem?_append_left h]at hj
   have:=rounds_sub a j p hj i x hx
   rw[List.getElem?_append_left (getq_lt this)];exact this
  ·rw[List.getElem?_append_right h]at hj
   have:=rounds_sub b _ p hj i x hx
   rw[List.getElem?_append_right (by omega),<-this];congr 1;omega
 | .cond _ a b,j,p,hj,i,x,hx=>by
  simp only[rounds]at hj ⊢
  rcases Nat.lt_or_ge j (rounds a).length with h|h
  ·rw[List.getElem?_append_left h]at hj
   have:=rounds_sub a j p hj i x hx
   rw[List.getElem?_append_left (getq_lt this)];exact this
  ·rw[List.getElem?_append_right h]at hj
   have:=rounds_sub b _ p hj i x hx
   rw[List.getElem?_append_right (by omega),<-this];congr 1;omega
 | .block _ c,j,p,hj,i,x,hx=>rounds_sub c j p hj i x hx
 | .loop c,j,p,hj,i,x,hx=>rounds_sub c j p hj i x hx
 | .scope c,j,p,hj,i,x,hx=>rounds_sub c j p hj i x hx
 | .rangeFunc _ ps a c,j,p,hj,i,x,hx=>by
  simp only[rounds]at hj ⊢
  cases j with
  |zero=>simp at hj;subst hj;rw[show 0+1+i=i+1 by omega,List.getElem?_cons_succ];exact hx
  |succ j=>
   rw[List.getElem?_cons_succ]at hj
   rw[show j+1+1+i=(j+1+i)+1 by omega,List.getElem?_cons_succ]
   rcases Nat.lt_or_ge j (rounds a).length with h|h
   ·rw[List.getElem?_append_left h]at hj
    have:=rounds_sub a j p hj i x hx
    rw[List.getElem?_append_left (getq_lt this)];exact this
   ·rw[List.getElem?_append_right h]at hj
    have:=rounds_sub c _ p hj i x hx
    rw[List.getElem?_append_right (by omega),<-this];congr 1;omega
 | .skip,_,_,hj,_,_,_=>by simp[rounds]at hj
 | .region _ _ _,_,_,hj,_,_,_=>by simp[rounds]at hj
 | .exit _,_,_,hj,_,_,_=>by simp[rounds]at hj
 | .label _,_,_,hj,_,_,_=>by simp[rounds]at hj
 | .goto _,_,_,hj,_,_,_=>by simp[rounds]at hj
 | .ret,_,_,hj,_,_,_=>by simp[rounds]at hj
 | .refuse _,_,_,hj,_,_,_=>by simp[rounds]at hj
def mask1 (acc:List Nat) (m:Nat) (e:Edge):Nat:=if Region.binds .any e then m|||2^e.on|||acc.getD e.on 0 else m
def masks:List Oper->List Nat->List Nat
 |[],acc=>acc
 |o::r,acc=>masks r (acc++[o.after.toList.foldl (mask1 acc) 0])
theorem mask1_bit {acc:List Nat} {i:Nat}:∀{es:List Edge} {m:Nat},(es.foldl (mask1 acc) m).testBit i=true->m.testBit i=true∨∃e∈es,Region.binds .any e=true∧(e.on=i∨(acc.getD e.on 0).testBit i=true)
 |[],m,h=>.inl h
 |e::es,m,h=>by
  rw[List.foldl_cons]at h
  rcases mask1_bit h with h|⟨e',h1,h2⟩
  ·unfold mask1 at h
   split at h
   ·rename_i hb
    simp only[Nat.testBit_or,Bool.or_eq_true,Nat.testBit_two_pow,decide_eq_true_eq]at h
    rcases h with(h|h)|h
    ·exact .inl h
    ·exact .inr ⟨e,by simp,hb,.inl h⟩
    ·exact .inr ⟨e,by simp,hb,.inr h⟩
   ·exact .inl h
  ·exact .inr ⟨e',by simp[h1],h2⟩
theorem masks_acc:∀{l:List Oper} {acc:List Nat} {i:Nat},i<acc.length->(masks l acc).getD i 0=acc.getD i 0
 |[],acc,i,_=>rfl
 |o::r,acc,i,h=>by
  rw[masks,masks_acc (by simp;omega)]
  simp only[List.getD,List.getElem?_append_left h]
theorem masks_at:∀{l:List Oper} {acc:List Nat} {j i:Nat},((masks l acc).getD (acc.length+j) 0).testBit i=true->∃o,l[j]? =some o∧∃e∈o.after.toList,Region.binds .any e=true∧(e.on=i∨((masks l acc).getD e.on 0).testBit i=true)
 |[],acc,j,i,h=>by simp[masks,List.getD]at h
 |o::r,acc,0,i,h=>by
  rw[masks,masks_acc (by simp)]at h
  simp only[Nat.add_zero,List.getD,List.getElem?_append_right (Nat.le_refl _),Nat.sub_self,List.getElem?_cons_zero,Option.getD_some]at h
  rcases mask1_bit h with h|⟨e,h1,h2,h3⟩
  ·simp at h
  ·refine⟨o,rfl,e,h1,h2,?_⟩
   rcases h3 with h3|h3
   ·exact .inl h3
   ·right
    rcases Nat.lt_or_ge e.on acc.length with hl|hl
    ·rw[masks_acc hl];exact h3
    ·simp[List.getD,List.getElem?_eq_none hl]at h3
 |o::r,acc,j+1,i,h=>by
  rw[masks]at h ⊢
  have e:acc.length+(j+1)=(acc++[o.after.toList.foldl (mask1 acc) 0]).length+j:=by simp;omega
  rw[e]at h
  obtain⟨o',h1,h2⟩:=masks_at h
  exact⟨o',by simpa using h1,h2⟩
def okPairs (l:List (Stp×List Nat)) (ms:List Nat):Bool:=(List.range l.length).all fun j=>(List.range j).all fun i=>(ms.getD j 0).testBit i||(match l[i]?,l[j]? with
 |some x,some y=>apart x.1 y.1&&(y.2.contains i||still x.1.op y.1.op)
 |_,_=>true)
def okLt:Nat->List Oper->Bool
 |_,[]=>true
 |j,o::r=>o.after.toList.all (fun e=> !Region.binds .any e||Nat.blt e.on j)&&okLt (j+1) r
theorem okLt_ok:∀{l:List Oper} {k:Nat},okLt k l=true->∀j o e,l[j]? =some o->e∈o.after.toList->Region.binds .any e=true->e.on<k+j
 |[],k,h,j,o,e,hj,_,_=>by simp at hj
 |o'::r,k,h,j,o,e,hj,he,hb=>by
  simp only[okLt,Bool.and_eq_true]at h
  cases j with
  |zero=>
   simp at hj
   subst hj
   have:=List.all_eq_true.1 h.1 e he
   rw[hb]at this
   simpa using this
  |succ j=>have:=okLt_ok h.2 j o e (by simpa using hj) he hb;omega
def okDr (n:Nat) (ops:Array Oper) (l:List (Stp×List Nat)):Bool:=P.follows .mixedOrders&&okOps P n ops ops.toList (l.map (·.1))&&okLt 0 ops.toList&&okPairs l (masks ops.toList [])
theorem okDr_ok {n:Nat} {ops:Array Oper} {l:List (Stp×List Nat)} (h:okDr P n ops l=true):P.follows .mixedOrders=true∧MOps P n ops (List.range ops.size) (l.map (·.1))∧Deps ops l (fun j i=>((masks ops.toList []).getD j 0).testBit i=true):=by
 simp only[okDr,Bool.and_eq_true]at h
 obtain⟨⟨⟨h1,h2⟩,h3⟩,h4⟩:=h
 have h5:=okOps_ok P (k:=0) h2 fun j o hj=>by simpa using hj
 rw[Array.length_toList,<-List.range_eq_range']at h5
 refine⟨h1,h5,fun j o e hj he hb=>?_,fun i j hc=>?_,fun i j x y hlt hi hj=>?_⟩
 ·have:=okLt_ok h3 j o e (by simpa using hj) (by simpa using he) hb
  omega
 ·obtain⟨o,q1,e,q2,q3,q4⟩:=masks_at (acc:=[]) (by simpa using hc)
  exact⟨o,e,by simpa using q1,by simpa using q2,q3,q4⟩
 ·have hjl:=getq_lt hj
  have:=List.all_eq_true.1 (List.all_eq_true.1 h4 j (List.mem_range.2 hjl)) i (List.mem_range.2 hlt)
  rw[hi,hj]at this
  simp only[Bool.or_eq_true,Bool.and_eq_true]at this
  rcases this with h|⟨h,h'⟩
  ·exact .inl h
  ·refine .inr ⟨h,?_⟩
   rcases h' with h'|h'
   ·exact .inl (by simpa using h')
   ·exact .inr h'
def lab:Code->Option Nat
 | .seq (.label l) _=>some l
 | .seq _ b=>lab b
 |_=>none
def unG:Code->Code
 | .seq a b=>.seq a (unG b)
 | .goto _=>.skip
 |c=>c
def unJ:Code->Code
 | .seq (.label _) r=>.loop (unG r)
 | .seq a b=>.seq a (unJ b)
 |c=>c
def shG (l:Nat):Code->Cd->Bool
 | .goto l',.sk=>l==l'
 | .seq _ b,.sq _ b'=>shG l b b'
 |_,_=>false
def shJ (l:Nat):Code->Cd->Bool
 | .seq (.label l') r,.lp _ _ b'=>l==l'&&shG l r b'
 | .seq (.label _) _,_=>false
 | .seq a b,.sq _ b'=>(findLabel a l).isNone&&shJ l b b'
 |_,_=>false
theorem shG_rounds {l:Nat} {b':Cd}:∀{r:Code},shG l r b'=true->rounds (unG r)=rounds r:=by
 induction b' with
 |sk=>
  intro r h
  cases r<;>first|(simp[shG]at h;done)|rfl
 |sq a' b' iha ihb=>
  intro r h
  cases r<;>first|(simp[shG]at h;done)|skip
  rename_i a b
  show rounds a++rounds (unG b)=rounds a++rounds b
  rw[ihb h]
 |_=>intro r h;cases r<;>simp[shG]at h
theorem shG_ok {n l:Nat} {b':Cd}:∀{r:Code},shG l r b'=true->MCd P n (unG r) b'->MCx P n (.G l) r b':=by
 induction b' with
 |sk=>
  intro r h hm
  cases r<;>first|(simp[shG]at h;done)|skip
  simp only[shG,beq_iff_eq]at h
  subst h
  exact .gh
 |sq a' b' iha ihb=>
  intro r h hm
  cases r<;>first|(simp[shG]at h;done)|skip
  rename_i a b
  have h:shG l b b'=true:=h
  have hm:MCd P n (.seq a (unG b)) (.sq a' b'):=hm
  cases hm with
  |sq ha hb=>exact .gq ha (ihb h hb)
  |tg hl hc=>cases b<;>simp[shG]at h
 |_=>intro r h hm;cases r<;>simp[shG]at h
theorem unJ_seq {a b:Code} (h:∀l,a≠ .label l):unJ (.seq a b)= .seq a (unJ b):=by
 cases a<;>first|rfl|exact absurd rfl (h _)
theorem shJ_seq {l:Nat} {a b:Code} {a' b':Cd} (h:∀l,a≠ .label l):shJ l (.seq a b) (.sq a' b')=((findLabel a l).isNone&&shJ l b b'):=by
 cases a<;>first|rfl|exact absurd rfl (h _)
theorem notLab (a:Code):(∃l,a= .label l)∨∀l,a≠ .label l:=by
 cases a<;>first|exact .inl ⟨_,rfl⟩|exact .inr (fun l h=>by cases h)
theorem shJ_rounds {l:Nat} {b':Cd}:∀{r:Code},shJ l r b'=true->rounds (unJ r)=rounds r:=by
 induction b' with
 |lp ks bs b' ihb=>
  intro r h
  cases r with
  |seq a b=>
   cases a with
   |label l'=>
    simp only[shJ,Bool.and_eq_true,beq_iff_eq]at h
    show rounds (unG b)=[]++rounds b
    rw[shG_rounds h.2];rfl
   |_=>simp[shJ]at h
  |_=>simp[shJ]at h
 |sq a' b' iha ihb=>
  intro r h
  cases r with
  |seq a b=>
   rcases notLab a with⟨l',rfl⟩|ha
   ·simp[shJ]at h
   ·rw[shJ_seq ha,Bool.and_eq_true]at h
    rw[unJ_seq ha]
    show rounds a++rounds (unJ b)=rounds a++rounds b
    rw[ihb h.2]
  |_=>simp[shJ]at h
 |_=>
  intro r h
  cases r<;>first|(simp[shJ]at h;done)|skip
  rename_i x y
  cases x<;>simp[shJ]at h
theorem shJ_ok {n l:Nat} {b':Cd}:∀{r:Code},shJ l r b'=true->MCd P n (unJ r) b'->∃q,MCx P n (.J l q) r b':=by
 induction b' with
 |lp ks bs b' ihb=>
  intro r h hm
  cases r with
  |seq a b=>
   cases a with
   |label l'=>
    simp only[shJ,Bool.and_eq_true,beq_iff_eq]at h
    obtain⟨h1,h2⟩:=h
    subst h1
    have hm:MCd P n (.loop (unG b)) (.lp ks bs b'):=hm
    cases hm with
    |lp ha=>exact⟨_,.jh (shG_ok P h2 ha)⟩
   |_=>simp[shJ]at h
  |_=>simp[shJ]at h
 |sq a' b' iha ihb=>
  intro r h hm
  cases r with
  |seq a b=>
   rcases notLab a with⟨l',rfl⟩|ha
   ·simp[shJ]at h
   ·rw[shJ_seq ha,Bool.and_eq_true]at h
    rw[unJ_seq ha]at hm
    cases hm with
    |sq ha hb=>
     obtain⟨q,q1⟩:=ihb h.2 hb
     exact⟨q,.js (Option.isNone_iff_eq_none.1 h.1) ha q1⟩
    |tg hl hc=>
     have h2:=h.2
     cases b<;>first|(simp[shJ]at h2;done)|skip
     rename_i x y
     cases x<;>simp[shJ]at h2
  |_=>simp[shJ]at h
 |_=>
  intro r h hm
  cases r<;>first|(simp[shJ]at h;done)|skip
  rename_i x y
  cases x<;>simp[shJ]at h
theorem lab_seq {c:Code} {l:Nat} (h:lab c=some l):∃a b,c= .seq a b:=by
 cases c<;>first|exact⟨_,_,rfl⟩|cases h
theorem unJ_nos {a b c:Code}:unJ (.seq a b)≠ .scope c:=by
 rcases notLab a with⟨l',rfl⟩|ha
 ·intro h;cases h
 ·rw[unJ_seq ha];intro h;cases h
def okDp:List Oper->List (Stp×List Nat)->Bool
 |[],[]=>true
 |o::r,x::l=>x.2.all (fun d=>o.after.toList.any fun e=>Region.binds .any e&&e.on==d)&&okDp r l
 |_,_=>false
theorem okDp_ok:∀{os:List Oper} {l:List (Stp×List Nat)},okDp os l=true->∀(i:Nat) p ds d,l[i]? =some (p,ds)->d∈ds->∃o e,os[i]? =some o∧e∈o.after.toList∧Region.binds .any e=true∧e.on=d
 |[],[],_,i,p,ds,d,hp,_=>by simp at hp
 |o::r,x::l,h,i,p,ds,d,hp,hd=>by
  simp only[okDp,Bool.and_eq_true]at h
  cases i with
  |zero=>
   simp at hp
   subst hp
   obtain⟨e,h1,h2⟩:=List.any_eq_true.1 (List.all_eq_true.1 h.1 d hd)
   simp only[Bool.and_eq_true,beq_iff_eq]at h2
   exact⟨o,e,rfl,h1,h2.1,h2.2⟩
  |succ i=>exact okDp_ok h.2 i p ds d (by simpa using hp) hd
 |[],_::_,h,_,_,_,_,_,_=>by cases h
 |_::_,[],h,_,_,_,_,_,_=>by cases h
def okDra (n:Nat) (ops:Array Oper) (l:List (Stp×List Nat)):Bool:=P.follows .mixedOrders&&okOps P n ops ops.toList (l.map (·.1))&&okLt 0 ops.toList&&okDp ops.toList l
theorem okDra_ok {n id:Nat} {ops:Array Oper} {l:List (Stp×List Nat)} (h:okDra P n ops l=true):MCd P n (.region id ops true) (.dra l):=by
 simp only[okDra,Bool.and_eq_true]at h
 obtain⟨⟨⟨h1,h2⟩,h3⟩,h4⟩:=h
 have h5:=okOps_ok P (k:=0) h2 fun j o hj=>by simpa using hj
 rw[Array.length_toList,<-List.range_eq_range']at h5
 refine .dra h1 h5 (fun j o e hj he hb=>?_) (fun i p ds d hp hd=>?_)
 ·have:=okLt_ok h3 j o e (by simpa using hj) (by simpa using he) hb
  omega
 ·obtain⟨o,e,q1,q2,q3,q4⟩:=okDp_ok h4 i p ds d hp hd
  exact⟨o,e,by simpa using q1,by simpa using q2,q3,q4⟩
def okC (f n:Nat):Nat->Code->Cd->Bool
 |j,.scope c,.gs [] (.gs [] c')=>match lab c with
  |some l=>shJ l c c'&&okC f n j (unJ c) c'
  |none=>okC f n j c (.gs [] c')
 |j,.scope c,.gs [] c'=>okC f n j c c'
 |j,c,.gs l c'=>l.all Gc.ok&&okC f n j c c'
 |_,.label _,.sk=>true
 |_,.skip,.sk=>true
 |_,.region _ ops false,.rg ps=>okOps P n ops ops.toList ps
 |_,.region _ ops true,.dr l=>okDr P n ops l
 |_,.region _ ops true,.dra l=>okDra P n ops l
 |j,.seq a b,.sq a' b'=>okC f n j a a'&&okC f n (j+(rounds a).length) b b'
 |j,c,.sq a' (.gs l .sk)=>l.all Gc.ok&&okC f n j c a'
 |j,.cond c a b,.ff c' a' b'=>okD c c'&&okC f n j a a'&&okC f n (j+(rounds a).length) b b'
 |j,.block id a,.bl id' a'=>id==id'&&okC f n j a a'
 |j,.loop a,.lp _ _ a'=>okC f n j a a'
 |j,.rangeFunc x ps asg body,.rf x' b rid _=>okD x x'&&Nat.ble RL b&&Nat.blt b ML&&rid==RL+(1000*f+j)&&Nat.blt j 1000
 |_,.exit id,.ex id'=>id==id'
 |_,.ret,.rt=>true
 |_,_,.dead=>true
 |_,_,_=>false
def InF (f n:Nat) (l:List (Array Tmp×Code×Code)) (j:Nat):Prop:=∃fn c,PP.funcs[f]? =some fn∧fn.ntmps=n∧fn.body=some c∧∀i x,l[i]? =some x->(rounds c)[j+i]? =some x
theorem InF.left {f n j:Nat} {l l':List (Array Tmp×Code×Code)} (h:InF f n (l++l') j):InF f n l j:=by
 obtain⟨fn,c,h1,h2,h3,h4⟩:=h
 exact⟨fn,c,h1,h2,h3,fun i x hi=>h4 i x (by rw[List.getElem?_append_left (getq_lt hi)];exact hi)⟩
theorem InF.right {f n j:Nat} {l l':List (Array Tmp×Code×Code)} (h:InF f n (l++l') j):InF f n l' (j+l.length):=by
 obtain⟨fn,c,h1,h2,h3,h4⟩:=h
 exact⟨fn,c,h1,h2,h3,fun i x hi=>by rw[Nat.add_assoc];exact h4 _ x (by rw[List.getElem?_append_right (by omega),Nat.add_sub_cancel_left];exact hi)⟩
theorem rid_f (f j:Nat) (h:j<1000):(RL+(1000*f+j)-RL)/1000=f∧(RL+(1000*f+j)-RL)%1000=j:=by
 rw[Nat.add_sub_cancel_left]
 constructor<;>omega
theorem okC_ok {f n j:Nat} {c:Code} {c':Cd} (h:okC P f n j c c'=true) (hi:InF f n (rounds c) j):MCd P n c c':=by
 induction c' generalizing c j with
 |sk=>cases c<;>first|exact .sk|exact .lb|(simp[okC]at h)
 |rg ps=>
  cases c with
  |region id ops dr=>cases dr with
   |false=>
    simp only[okC]at h
    have:=okOps_ok P (k:=0) h fun j o hj=>by simpa using hj
    rw[Array.length_toList,<-List.range_eq_range']at this
    exact .rg this
   |true=>simp[okC]at h
  |_=>simp[okC]at h
 |dr l=>
  cases c with
  |region id ops dr=>cases dr with
   |true=>
    simp only[okC]at h
    obtain⟨q1,q2,q3⟩:=okDr_ok P h
    exact .dr q1 q2 q3
   |false=>simp[okC]at h
  |_=>simp[okC]at h
 |dra l=>
  cases c with
  |region id ops dr=>cases dr with
   |true=>exact okDra_ok P (by simpa only[okC]using h)
   |false=>simp[okC]at h
  |_=>simp[okC]at h
 |gs l a iha=>
  by_cases hs:∃c0,c= .scope c0∧l=[]
  ·obtain⟨c0,rfl,rfl⟩:=hs
   by_cases hj:∃a0,a= .gs [] a0
   ·obtain⟨a0,rfl⟩:=hj
    have h':(match lab c0 with
     |some l=>shJ l c0 a0&&okC P f n j (unJ c0) a0
     |none=>okC P f n j c0 (.gs [] a0))=true:=h
    split at h'
    ·rename_i l hl
     rw[Bool.and_eq_true]at h'
     obtain⟨h1,h2⟩:=h'
     obtain⟨x,y,rfl⟩:=lab_seq hl
     have hn:∀c,unJ (.seq x y)≠ .scope c:=fun c=>unJ_nos
     have hr:rounds (unJ (.seq x y))=rounds (.seq x y):=shJ_rounds h1
     generalize hu:unJ (.seq x y)=u at hn hr h2
     have h3:okC P f n j u (.gs [] a0)=true:=by
      cases u<;>first|exact(Bool.and_eq_true _ _).mpr ⟨rfl,h2⟩|exact absurd rfl (hn _)
     have h4:=iha h3 (by rw[hr];exact hi)
     have h5:MCd P n u a0:=by
      cases h4 with
      |gs _ hc=>exact hc
      |sc hc=>exact absurd rfl (hn _)
      |sj hc=>exact absurd rfl (hn _)
     rw[<-hu]at h5
     obtain⟨q,h6⟩:=shJ_ok P h1 h5
     exact .gs rfl (.gs rfl (.sj h6))
    ·exact .sc (iha h' hi)
   ·exact .sc (iha (by cases a<;>first|exact h|(rename_i q _;cases q<;>first|exact h|exact absurd ⟨_,rfl⟩ hj)) hi)
  have h':(l.all Gc.ok&&okC P f n j c a)=true:=by
   cases c with
   |scope c0=>cases l with
    |nil=>exact absurd ⟨c0,rfl,rfl⟩ hs
    |cons p r=>exact h
   |_=>exact h
  rw[Bool.and_eq_true]at h'
  exact .gs h'.1 (iha h'.2 hi)
 |sq a b iha ihb=>
  cases c with
  |seq x y=>simp only[okC,Bool.and_eq_true]at h;exact .sq (iha h.1 hi.left) (ihb h.2 hi.right)
  |_=>
   cases b with
   |gs l b=>cases b with
    |sk=>
     simp only[okC,Bool.and_eq_true]at h
     exact .tg h.1 (iha h.2 hi)
    |_=>simp[okC]at h
   |_=>simp[okC]at h
 |ff q a b iha ihb=>
  cases c with
  |cond c x y=>simp only[okC,Bool.and_eq_true]at h;exact .ff (okD_ok h.1.1) (iha h.1.2 hi.left) (ihb h.2 hi.right)
  |_=>simp[okC]at h
 |bl id a iha=>
  cases c with
  |block i x=>simp only[okC,Bool.and_eq_true,beq_iff_eq]at h;rw[h.1];exact .bl (iha h.2 hi)
  |_=>simp[okC]at h
 |lp ks bs a iha=>
  cases c with
  |loop x=>exact .lp (iha h hi)
  |_=>simp[okC]at h
 |rf x b rid ks=>
  cases c with
  |rangeFunc x ps asg body=>
   simp only[okC,Bool.and_eq_true,beq_iff_eq,Nat.ble_eq,Nat.blt_eq]at h
   obtain⟨⟨⟨⟨h1,h2⟩,hm⟩,h3⟩,h4⟩:=h
   obtain⟨fn,c0,q1,q2,q3,q4⟩:=hi
   refine .rf (okD_ok h1) h2 hm (by rw[h3];omega) ?_
   obtain⟨e1,e2⟩:=rid_f f j h4
   have:=q4 0 (ps,asg,body) rfl
   rw[Nat.add_zero]at this
   simp only[roundOf,h3,e1,e2,q1,q3,Option.bind_some,this,Option.map_some,q2]
  |_=>simp[okC]at h
 |ex id=>
  cases c with
  |exit i=>simp only[okC,beq_iff_eq]at h;rw[h];exact .ex
  |_=>simp[okC]at h
 |rt=>
  cases c with
  |ret=>exact .rt
  |_=>simp[okC]at h
 |dead=>exact .dd
 |del z=>simp[okC]at h
def okR:List ResultVar->List Res->Bool
 |[],[]=>true
 | .tmp n::r,.t m::r'=>n==m&&okR r r'
 | .cell n t::r,.c m q::r'=>n==m&&okSz P t q&&okR r r'
 |_,_=>false
theorem okR_ok:∀{l:List ResultVar} {l':List Res},okR P l l'=true->MResL P l l'
 |[],[],_=>.nil
 | .tmp n::r,.t m::r',h=>by
  simp only[okR,Bool.and_eq_true,beq_iff_eq]at h
  rw[h.1];exact .cons (.t m) (okR_ok h.2)
 | .cell n t::r,.c m q::r',h=>by
  simp only[okR,Bool.and_eq_true,beq_iff_eq]at h
  rw[h.1.1];exact .cons (.c (okSz_ok P h.1.2)) (okR_ok h.2)
 |[],_::_,h=>by cases h
 | .tmp _::_,[],h=>by cases h
 | .cell _ _::_,[],h=>by cases h
 | .tmp _::_,.c _ _::_,h=>by cases h
 | .cell _ _::_,.t _::_,h=>by cases h
def okF (f : Nat) (fn : Func) (F : Fn) : Bool := fn.ntmps == F.nt && !(fn.name == "runtime.NumGoroutine") && okR P fn.results.toList F.res && (match fn.body with | some c => okC P f F.nt 0 c F.body | none => false)
theorem okF_ok {f:Nat} {fn:Func} {F:Fn} (hf:PP.funcs[f]? =some fn) (h:okF P f fn F=true):MFn P fn F:=by
 simp only[okF,Bool.and_eq_true]at h
 obtain⟨⟨⟨h1,h2⟩,h3⟩,h4⟩:=h
 have h1':=beq_iff_eq.1 h1
 refine⟨h1',by simpa using h2,okR_ok P h3,?_⟩
 cases hb:fn.body with
 |none=>rw[hb]at h4;cases h4
 |some c=>rw[hb]at h4;exact⟨c,rfl,okC_ok P h4 ⟨fn,c,hf,h1',hb,fun i x hi=>by rw[Nat.zero_add];exact hi⟩⟩
def okRd1 (F:Fn) (ps:List Nat) (asg:Cd) (f0 j0:Nat) (x:Nat×Array Tmp×Code×Code):Bool:=
 x.1==F.nt&&x.2.1.toList==ps&&ps.all (fun p=>Nat.blt p F.nt)&&okC P f0 F.nt (j0+1) x.2.2.1 asg&&okC P f0 F.nt (j0+1+(rounds x.2.2.1).length) x.2.2.2 F.body
noncomputable def okRd (rid:Nat) (F:Fn) (ps:List Nat) (asg:Cd):Bool:=(roundOf PP rid).elim false (okRd1 P F ps asg ((rid-RL)/1000) ((rid-RL)%1000))
theorem okRd_ok {rid:Nat} {F:Fn} {ps:List Nat} {asg:Cd} (h:okRd P rid F ps asg=true):MRd P rid F ps asg:=by
 unfold okRd at h
 generalize hR:roundOf PP rid=R at h
 have hr:=hR
 unfold roundOf at hr
 generalize(rid-RL)/1000=f0 at h hr
 generalize(rid-RL)%1000=j0 at h hr
 cases R with
 |none=>cases h
 |some x=>
  simp only[Option.elim_some,okRd1,Bool.and_eq_true,beq_iff_eq]at h
  obtain⟨⟨⟨⟨h1,h2⟩,h3⟩,h4⟩,h5⟩:=h
  have hI:InF f0 F.nt (rounds x.2.2.1++rounds x.2.2.2) (j0+1):=by
   obtain⟨fn,q1,q2⟩:=Option.bind_eq_some_iff.1 hr
   obtain⟨c,q3,q4⟩:=Option.bind_eq_some_iff.1 q2
   obtain⟨p,q5,q6⟩:=Option.map_eq_some_iff.1 q4
   subst q6
   exact⟨fn,c,q1,h1,q3,fun i y hi=>rounds_sub c _ _ q5 i y hi⟩
  exact⟨x.2.1,x.2.2.1,x.2.2.2,by rw[hR,<-h1],h2,fun p hp=>Nat.le_of_ble_eq_true (List.all_eq_true.1 h3 p hp),okC_ok P h4 hI.left,okC_ok P h5 hI.right⟩
noncomputable def okT (P:Program) (k:Nat) (F:Fn):Bool:=match F.rnd with
 |none=>Nat.blt k RL&&(match P.funcs[k]? with|some fn=>okF P k fn F|none=>false)
 |some (ps,asg)=>Nat.ble RL k&&okRd P k F ps asg
def tab:List (Nat×Fn)->Nat->Option Fn
 |[],_=>none
 |(k,F)::r,f=>if f=k then some F else tab r f
theorem tab_ok {l:List (Nat×Fn)} (h:∀p∈l,okT PP p.1 p.2=true∨(p.2.rnd=none∧p.1<RL∧∃fn,PP.funcs[p.1]? =some fn∧PrimF PP p.1 fn p.2)):MProg PP (tab l):=by
 intro f F hf
 induction l with
 |nil=>cases hf
 |cons p r ih=>
  obtain⟨k,F'⟩:=p
  simp only[tab]at hf
  split at hf
  ·rename_i e
   injection hf with hf
   subst hf e
   rcases h _ (List.mem_cons_self ..)with h1|⟨h1,h2,fn,h3,h4⟩
   rotate_left
   ·rw[h1];exact⟨h2,fn,h3,.inr h4⟩
   unfold okT at h1
   split at h1
   ·rename_i hrn
    rw[hrn]
    simp only[Bool.and_eq_true,Nat.blt_eq]at h1
    obtain⟨h2,h3⟩:=h1
    split at h3
    ·rename_i fn hfn
     exact⟨h2,fn,hfn,.inl (okF_ok PP hfn h3)⟩
    ·cases h3
   ·rename_i ps asg hrn
    rw[hrn]
    simp only[Bool.and_eq_true,Nat.ble_eq]at h1
    exact⟨h1.1,okRd_ok PP h1.2⟩
  ·exact ih (fun p hp=>h p (List.mem_cons_of_mem _ hp)) hf
end Go.Proofs.Ytfopbiiffiickaa.Ev
namespace Go.Proofs.Ytfopbiiffiickaa.Ev.U
open Go
inductive Ty where
 |i (k:IntKind)
 |b
 |s
 |l (m:Mode) (t:Ty)
 |p (a r:Ty)
 |g (r:Ty)
 |t (a r:Ty)
 |n
 |o (a b:Ty)
 |fn (a r:Ty)
 |cl (f:Nat) (r:Ty)
 deriving DecidableEq
@[reducible] def Ty.T : Ty -> Type
 | .i _=>Int
 | .b=>Bool
 | .s=>List Int
 | .l _ e=>List e.T
 | .p a r=>a.T×r.T
 | .g r=>r.T
 | .t a r=>a.T×r.T
 | .n=>Unit
 | .o a c=>a.T⊕c.T
 | .fn a r=>a.T->Option r.T
 | .cl _ r=>r.T
def dflt:(τ:Ty)->Option τ.T
 | .i _=>some (0:Int)
 | .b=>some false
 | .s=>some ([]:List Int)
 | .l _ t=>some ([]:List t.T)
 | .p a r=>(dflt a).bind fun x=>(dflt r).map fun y=>(x,y)
 | .g r=>dflt r
 | .t a r=>(dflt a).bind fun x=>(dflt r).map fun y=>(x,y)
 | .n=>some ()
 | .o a b=>none
 | .fn a r=>some fun _=>none
 | .cl _ _=>none
def castT (a b:Ty) (x:a.T):Option b.T:=if h:a=b then some (h▸x)else none
inductive PB where
 |own (b:Nat)
 |ext (i:Nat)
 deriving DecidableEq
inductive W where
 |u (τ:Ty) (x:τ.T)
 |nil
 |np
 |un
 |pt (b:PB) (off:Nat)
 |fp (ws:List W) (off:Nat)
 |clo (fn:Nat) (caps:List W)
 |ag (ws:List W)
 |tp (ws:List W)
 |gd (p:List (Nat×Bool)) (c:Bool) (w:W)
 |lb (τ:Ty) (m:Int) (xs:List τ.T)
 |rs (b:Nat) (τ:Ty) (lo:Option Int) (n:Int)
 |ep (b:Nat) (τ:Ty) (i:Int) (off:Nat)
def uStrip:(τ:Ty)->τ.T->W
 | .l .app t,x=>.u (.l .ro t) x
 | .l .mu t,x=>.un
 |τ,x=>.u τ x
def W.strip1:W->W
 | .u τ x=>uStrip τ x
 | .ag _=>.un
 | .tp _=>.un
 | .gd _ _ _=>.un
 |w=>w
def W.strip2:W->W
 | .ag ws=>.ag (ws.map W.strip1)
 |w=>w.strip1
def W.strip:W->W
 | .tp ws=>.tp (ws.map W.strip2)
 |w=>w.strip2
def uDwn:(τ:Ty)->τ.T->W
 | .l .mu t,x=>.u (.l .app t) x
 |τ,x=>.u τ x
def W.dwn1:W->W
 | .u τ x=>uDwn τ x
 |w=>w
def dwnW:W->W
 | .ag ws=>.ag (ws.map W.dwn1)
 |w=>w.dwn1
def W.cells:W->List W
 | .ag ws=>ws
 |w=>[w]
def Ty.one:Ty->Bool
 | .i _=>true
 | .b=>true
 | .s=>true
 | .l _ _=>true
 | .fn _ _=>true
 | .cl _ _=>true
 |_=>false
def Ty.rowk:Ty->Bool
 | .p _ _=>true
 |τ=>τ.one
def Ty.val:Ty->Bool
 | .g _=>true
 |τ=>τ.one
def Ty.tupk:Ty->Bool
 | .t _ _=>true
 | .n=>true
 |τ=>τ.val
def cellsW:(r:Ty)->r.T->List W
 | .p a r,x=>.u a x.1::cellsW r x.2
 |τ,x=>[.u τ x]
def valW:(τ:Ty)->τ.T->W
 | .g r,x=>.ag (cellsW r x)
 |τ,x=>.u τ x
def tupW:(τ:Ty)->τ.T->List W
 | .t a r,x=>valW a x.1::tupW r x.2
 | .n,_=>[]
 |τ,x=>[valW τ x]
def resW:(τ:Ty)->τ.T->W
 | .t a r,x=>.tp (tupW (.t a r) x)
 | .n,_=>.tp []
 |τ,x=>valW τ x
def nilT:(τ:Ty)->Option τ.T
 | .l _ t=>some ([]:List t.T)
 |_=>none
def oneT (τ:Ty):W->Option τ.T
 | .u τ' x=>castT τ' τ x
 | .nil=>nilT τ
 |_=>none
def rowT:(r:Ty)->List W->Option r.T
 | .p a r,w::ws=>(oneT a w).bind fun x=>(rowT r ws).map fun y=>(x,y)
 |τ,[w]=>oneT τ w
 |_,_=>none
def valT:(τ:Ty)->W->Option τ.T
 | .g r,.ag ws=>rowT r ws
 |τ,w=>oneT τ w
def elT:(t:Ty)->List W->Option t.T
 | .g r,ws=>rowT r ws
 |τ,[w]=>oneT τ w
 |_,_=>none
def tupT:(τ:Ty)->List W->Option τ.T
 | .t a r,w::ws=>(valT a w).bind fun x=>(tupT r ws).map fun y=>(x,y)
 | .n,[]=>some ()
 | .n,_::_=>none
 |τ,[w]=>valT τ w
 |_,_=>none
def resT:(τ:Ty)->W->Option τ.T
 | .t a r,.tp ws=>tupT (.t a r) ws
 | .n,.tp []=>some ()
 |τ,w=>valT τ w
def tyOf:List Ty->Ty
 |[]=>.n
 |[a]=>a
 |a::b::r=>.t a (tyOf (b::r))
def rowLen:Ty->Nat
 | .p _ r=>rowLen r+1
 |_=>1
def csz:Ty->Nat
 | .g r=>rowLen r
 |_=>1
def elW:(t:Ty)->t.T->List W
 | .g r,x=>cellsW r x
 |τ,x=>[.u τ x]
def XTy:List Ty->Ty
 |[]=>.n
 |[a]=>a
 |a::b::r=>.o a (XTy (b::r))
def injX:(l:List Ty)->Nat->(τ:Ty)->τ.T->Option (XTy l).T
 |[]=>fun _ _ _=>none
 |[a]=>fun i τ x=>match i with
  |0=>castT τ a x
  |_+1=>none
 |a::b::r=>fun i τ x=>match i with
  |0=>(castT τ a x).map Sum.inl
  |i+1=>(injX (b::r) i τ x).map Sum.inr
def dspX {ρ:Type}:(l:List Ty)->(XTy l).T->(Nat->(τ:Ty)->τ.T->Option ρ)->Option ρ
 |[],_,_=>none
 |[a],x,h=>h 0 a x
 |a::b::r,x,h=>match x with
  |Sum.inl y=>h 0 a y
  |Sum.inr z=>dspX (b::r) z fun i=>h (i+1)
inductive AK where
 |v (τ:Ty)
 |x (r:Ty)
 |o (r:Ty)
def AK.ty:AK->Ty
 | .v τ=>τ
 | .x r=>.g r
 | .o r=>.g r
def xsOf:List AK->List Ty
 |[]=>[]
 | .x r::l=>.g r::xsOf l
 |_::l=>xsOf l
structure Sg where
 ak:List AK
 res:Ty
def Sg.aT (s:Sg):Ty:=tyOf (s.ak.map AK.ty)
def oTy:Ty->List Ty->Ty
 |r,[]=>r
 | .n,l=>tyOf l
 |r,l=>.t r (tyOf l)
def Sg.oT (s:Sg):Ty:=oTy s.res (xsOf s.ak)
def outW:(r:Ty)->(l:List Ty)->(oTy r l).T->W×List W
 |r,[],y=>(resW r y,[])
 | .n,a::l,y=>(.tp [],tupW (tyOf (a::l)) y)
 | .t p q,a::l,y=>(resW (.t p q) y.1,tupW (tyOf (a::l)) y.2)
 | .i k,a::l,y=>(resW (.i k) y.1,tupW (tyOf (a::l)) y.2)
 | .b,a::l,y=>(resW .b y.1,tupW (tyOf (a::l)) y.2)
 | .s,a::l,y=>(resW .s y.1,tupW (tyOf (a::l)) y.2)
 | .l m t,a::l,y=>(resW (.l m t) y.1,tupW (tyOf (a::l)) y.2)
 | .p c d,a::l,y=>(resW (.p c d) y.1,tupW (tyOf (a::l)) y.2)
 | .g c,a::l,y=>(resW (.g c) y.1,tupW (tyOf (a::l)) y.2)
 | .o c d,a::l,y=>(resW (.o c d) y.1,tupW (tyOf (a::l)) y.2)
 | .fn c d,a::l,y=>(resW (.fn c d) y.1,tupW (tyOf (a::l)) y.2)
 | .cl c d,a::l,y=>(resW (.cl c d) y.1,tupW (tyOf (a::l)) y.2)
def outT:(r:Ty)->(l:List Ty)->W->List W->Option (oTy r l).T
 |r,[],w,_=>resT r w
 | .n,a::l,w,ws=>(resT .n w).bind fun _=>tupT (tyOf (a::l)) ws
 | .t p q,a::l,w,ws=>(resT (.t p q) w).bind fun x=>(tupT (tyOf (a::l)) ws).map fun y=>(x,y)
 | .i k,a::l,w,ws=>(resT (.i k) w).bind fun x=>(tupT (tyOf (a::l)) ws).map fun y=>(x,y)
 | .b,a::l,w,ws=>(resT .b w).bind fun x=>(tupT (tyOf (a::l)) ws).map fun y=>(x,y)
 | .s,a::l,w,ws=>(resT .s w).bind fun x=>(tupT (tyOf (a::l)) ws).map fun y=>(x,y)
 | .l m t,a::l,w,ws=>(resT (.l m t) w).bind fun x=>(tupT (tyOf (a::l)) ws).map fun y=>(x,y)
 | .p c d,a::l,w,ws=>(resT (.p c d) w).bind fun x=>(tupT (tyOf (a::l)) ws).map fun y=>(x,y)
 | .g c,a::l,w,ws=>(resT (.g c) w).bind fun x=>(tupT (tyOf (a::l)) ws).map fun y=>(x,y)
 | .o c d,a::l,w,ws=>(resT (.o c d) w).bind fun x=>(tupT (tyOf (a::l)) ws).map fun y=>(x,y)
 | .fn c d,a::l,w,ws=>(resT (.fn c d) w).bind fun x=>(tupT (tyOf (a::l)) ws).map fun y=>(x,y)
 | .cl c d,a::l,w,ws=>(resT (.cl c d) w).bind fun x=>(tupT (tyOf (a::l)) ws).map fun y=>(x,y)
inductive TF where
 |par (sg:Sg) (f:sg.aT.T->Option sg.oT.T)
 |tot (sg:Sg) (f:sg.aT.T->sg.oT.T)
 |gen (a r:Ty) (h:r.T->Option (List a.T))
def TF.sg:TF->Sg
 | .par s _=>s
 | .tot s _=>s
 | .gen _ _ _=>⟨[],.n⟩
def TF.f:(t:TF)->t.sg.aT.T->Option t.sg.oT.T
 | .par _ f=>f
 | .tot _ f=>fun x=>some (f x)
 | .gen _ _ _=>fun _=>none
abbrev Tab:=Nat->Option TF
structure SU where
 e:List (Nat×W)
 l:List (Nat×List W)
 m:List Nat
 x:List (List W)
 w:List Bool
def getW (t:Nat):List (Nat×W)->W
 |[]=>.un
 |(t',w)::r=>bif Nat.beq t t' then w else getW t r
def lkW (b:Nat):List (Nat×List W)->Option (List W)
 |[]=>none
 |(b',ws)::r=>bif Nat.beq b b' then some ws else lkW b r
def sbW (b:Nat) (ws:List W):List (Nat×List W)->List (Nat×List W)
 |[]=>[]
 |(b',ws')::r=>bif Nat.beq b b' then(b',ws)::r else(b',ws')::sbW b ws r
def hasN (n:Nat):List Nat->Bool
 |[]=>false
 |m::r=>bif Nat.beq n m then true else hasN n r
abbrev Path:=List (Nat×Bool)
def hasP (x:Nat×Bool):Path->Bool
 |[]=>false
 |y::r=>bif Nat.beq x.1 y.1&&(x.2==y.2)then true else hasP x r
def subP (q p:Path):Bool:=q.all fun x=>hasP x p
def namesP (t:Nat) (q:Path):Bool:=q.any fun x=>Nat.beq t x.1
def opn (p:Path):W->W
 | .gd q _ w=>bif subP q p then w else .un
 |w=>w
def clr (t:Nat) (e:List (Nat×W)):List (Nat×W):=e.map fun x=>match x.2 with
 | .gd q c w=>bif namesP t q then(x.1,.un)else x
 |_=>x
def putW (t:Nat) (w:W) (s:SU):SU:={s with e:=(t,w)::clr t s.e}
def putWO:Option Nat->W->SU->SU
 |some t,w,s=>putW t w s
 |none,_,s=>s
def notLb:List W->Option (List W)
 |[.lb _ _ _]=>none
 |ws=>some ws
def getBx (b:PB) (s:SU):Option (List W):=match b with
 | .own b=>(lkW b s.l).bind notLb
 | .ext i=>s.x[i]?
def setBx (b:PB) (ws:List W) (s:SU):Option SU:=match b with
 | .own b=>some {s with l:=sbW b ws s.l}
 | .ext i=>match s.w[i]? with
  |some true=>some {s with x:=s.x.set i ws}
  |_=>none
def overW (ws:List W) (off:Nat) (cs:List W):List W:=ws.take off++cs++ws.drop (off+cs.length)
def inK (k:IntKind) (n:Int):Bool:=match k with
 | .i8=>decide (-128<=n∧n<=127)
 | .i16=>decide (-32768<=n∧n<=32767)
 | .i32=>decide (-2147483648<=n∧n<=2147483647)
 | .i64=>decide (-9223372036854775808<=n∧n<=9223372036854775807)
 | .u8=>decide (0<=n∧n<=255)
 | .u16=>decide (0<=n∧n<=65535)
 | .u32=>decide (0<=n∧n<=4294967295)
 | .u64=>decide (0<=n∧n<=18446744073709551615)
def strI (s:ByteArray):List Int:=s.data.toList.map fun c=>(c.toNat:Int)
def cW:Value->W
 | .int k n=>bif inK k n then .u (.i k) n else .un
 | .bool b=>.u .b b
 | .string s=>bif Nat.ble s.size 1000000 then .u .s (strI s)else .un
 | .slice none 0 0=>.nil
 | .pointer none=>.np
 |_=>.un
def cV:Value->W
 | .slice _ _ _=>.un
 |v=>cW v
def rdW (p:Path) (x:Opd) (s:SU):W×SU:=match x with
 | .t n=>((opn p (getW n s.e)).strip,s)
 | .m n=>match p with
  |[]=>(opn [] (getW n s.e),putW n (opn [] (getW n s.e)).strip s)
  |_=>(.un,s)
 | .c v=>(cV v,s)
 | .cn=>(.nil,s)
 | .f n=>(.clo n [],s)
def rdLW (p:Path):List Opd->SU->List W×SU
 |[],s=>([],s)
 |x::r,s=>((rdW p x s).1::(rdLW p r (rdW p x s).2).1,(rdLW p r (rdW p x s).2).2)
def rdsW (p:Path) (s:SU):List Opd->List W
 |[]=>[]
 |x::r=>(rdW p x s).1::rdsW p s r
def noUn:Option W->Option W
 |some .un=>none
 |x=>x
def pickW (q:Option Nat) (ws:List W) (off:Nat):Option W:=match q with
 |none=>noUn ws[off]?
 |some n=>if off+n<=ws.length then some (.ag ((ws.drop off).take n))else none
def uSto:Ty->Bool
 | .i _=>true
 | .b=>true
 | .s=>true
 | .l _ _=>true
 |_=>false
def W.sto:W->Bool
 | .u τ _=>uSto τ
 | .nil=>true
 | .np=>true
 | .pt _ _=>true
 | .fp _ _=>true
 | .clo _ _=>true
 | .rs _ _ _ _=>true
 | .ep _ _ _ _=>true
 |_=>false
def W.stoX:W->Bool
 | .u τ _=>uSto τ
 | .nil=>true
 | .np=>true
 | .fp _ _=>true
 |_=>false
def stoB (b:PB) (w:W):Bool:=match b with
 | .own _=>true
 | .ext _=>w.cells.all W.stoX
def idx {α:Type} (xs:List α) (i:Int):Option α:=if 0<=i then xs[i.toNat]? else none
def cut {α:Type} (xs:List α) (lo hi:Int):Option (List α):=if 0<=lo∧lo<=hi∧hi<=(xs.length:Int)then some ((xs.take hi.toNat).drop lo.toNat)else none
def apd {α:Type} (by_:Nat) (xs ys:List α):Option (List α):=if(xs.length+ys.length)*by_<=140737488355328 then some (xs++ys)else none
def mkl {α:Type} (by_:Nat) (n c:Int) (x:α):Option (List α):=if 0<=n∧n<=c∧(by_:Int)*c<=140737488355328 then some (List.replicate n.toNat x)else none
def quo (k:IntKind) (a b:Int):Option Int:=if b=0 then none else some (k.wrap (a.tdiv b))
def rem (a b:Int):Option Int:=if b=0 then none else some (a.tmod b)
def andI (k:IntKind) (a b:Int):Int:=k.wrap (BitVec.ofInt k.bits a&&&BitVec.ofInt k.bits b).toNat
def orI (k:IntKind) (a b:Int):Int:=k.wrap (BitVec.ofInt k.bits a|||BitVec.ofInt k.bits b).toNat
def xorI (k:IntKind) (a b:Int):Int:=k.wrap (BitVec.ofInt k.bits a^^^BitVec.ofInt k.bits b).toNat
def andN (k:IntKind) (a b:Int):Int:=k.wrap (BitVec.ofInt k.bits a&&& ~~~(BitVec.ofInt k.bits b)).toNat
def shlI (k:IntKind) (a b:Int):Int:=k.wrap (a*2^(min b.toNat k.bits))
def shrI (k:IntKind) (a b:Int):Int:=a.fdiv (2^(min b.toNat k.bits))
def chkI (m n:Int):Option Unit:=if 0<=m∧m<n then some ()else none
def chkS (l h n:Int):Option Unit:=if 0<=l∧l<=h∧h<=n then some ()else none
def eqI (m n:Int):Option Unit:=if m=n then some ()else none
def plusO (l:Option Int) (i:Int):Int:=match l with
 |none=>i
 |some l=>l+i
def nilq {α:Type} (xs:List α) (ne:Bool):Option Bool:=if xs.isEmpty then none else some ne
inductive Cm (α:Type) where
 |f
 |r (a:α)
 |b (τ:Ty) (o:Option τ.T) (d:Option τ.T) (k:τ.T->α)
def Cm.map {α β:Type} (g:α->β):Cm α->Cm β
 | .f=>.f
 | .r a=>.r (g a)
 | .b τ o d k=>.b τ o d fun x=>g (k x)
def merge1 (q:Bool):W->W->Option W
 | .u τ x,.u τ' y=>(castT τ' τ y).map fun y=>.u τ (if q then x else y)
 | .u τ x,.nil=>(nilT τ).map fun y=>.u τ (if q then x else y)
 | .nil,.u τ y=>(nilT τ).map fun x=>.u τ (if q then x else y)
 | .nil,.nil=>some .nil
 | .np,.np=>some .np
 | .pt b o,.pt b' o'=>if b=b'∧o=o' then some (.pt b o)else none
 |_,_=>none
def mergeL (q:Bool):List W->List W->Option (List W)
 |[],[]=>some []
 |x::xs,y::ys=>(merge1 q x y).bind fun z=>(mergeL q xs ys).map fun zs=>z::zs
 |_,_=>none
def mergeW (q:Bool):W->W->Option W
 | .ag xs,.ag ys=>(mergeL q xs ys).map .ag
 |x,y=>merge1 q x y
def binW (op:Bop) (nz:Bool) (k:IntKind) (x y:Int):Cm W:=match op with
 | .add=>.r (.u (.i k) (k.wrap (x+y)))
 | .sub=>.r (.u (.i k) (k.wrap (x-y)))
 | .mul=>.r (.u (.i k) (k.wrap (x*y)))
 | .eql=>.r (.u .b (x==y))
 | .neq=>.r (.u .b (x !=y))
 | .lss=>.r (.u .b (decide (x<y)))
 | .leq=>.r (.u .b (decide (x<=y)))
 | .gtr=>.r (.u .b (decide (x>y)))
 | .geq=>.r (.u .b (decide (x>=y)))
 | .quo=>bif nz then .r (.u (.i k) (k.wrap (x.tdiv y)))else .b (.i k) (quo k x y) (some (0:Int)) fun z=>.u (.i k) z
 | .rem=>bif nz then .r (.u (.i k) (x.tmod y))else .b (.i k) (rem x y) (some (0:Int)) fun z=>.u (.i k) z
 | .and=>.r (.u (.i k) (andI k x y))
 | .or=>.r (.u (.i k) (orI k x y))
 | .xor=>.r (.u (.i k) (xorI k x y))
 | .andNot=>.r (.u (.i k) (andN k x y))
 |_=>.f
def nzO:Opd->Bool
 | .c (.int _ (.ofNat (n+1)))=>true
 | .c (.int _ (.negSucc _))=>true
 |_=>false
def nnO:Opd->Bool
 | .c (.int _ (.ofNat _))=>true
 |_=>false
def shW (op:Bop) (nn:Bool) (k:IntKind) (x y:Int):Cm W:=
 let go:=fun v:Int=>bif nn then Cm.r (W.u (.i k) v)else Cm.b (.i k) (if y<0 then none else some v) (some (0:Int)) fun z=>.u (.i k) z
 match op with
 | .shl=>go (shlI k x y)
 | .shr=>go (shrI k x y)
 |_=>.f
def veqW:List W->List W->Option Bool
 |[],[]=>some true
 | .u (.i k) x::r,.u (.i k') y::r'=>if k=k' then(veqW r r').map fun b=>(x==y)&&b else none
 | .u .b x::r,.u .b y::r'=>(veqW r r').map fun b=>(x==y)&&b
 | .u .s x::r,.u .s y::r'=>(veqW r r').map fun b=>decide (x=y)&&b
 |_,_=>none
def zOk:List Value->List W->Bool
 |[],[]=>true
 | .int k _::z,.u (.i k') _::r=>if k=k' then zOk z r else false
 | .bool _::z,.u .b _::r=>zOk z r
 | .string _::z,.u .s _::r=>zOk z r
 |_,_=>false
def mmW (mx:Bool) (k:IntKind) (a:Int):List W->Option Int
 |[]=>some a
 | .u (.i k') y::r=>if k=k' then mmW mx k (if mx then(if y>a then y else a)else(if y<a then y else a)) r else none
 |_=>none
def zElT (a:Ty):D->Option a.T
 | .agg ds=>valT a (.ag (ds.map fun| .v x=>cV x| .sl .nl _ []=>.nil|_=>.un))
 | .v x=>valT a (cV x)
 | .sl .nl _ []=>valT a .nil
 |_=>none
def layW (p:Path) (s:SU):List W->List (Nat×Nat×Opd)->Option (List W)
 |cs,[]=>some cs
 |cs,(off,sz,x)::r=>
  if(rdW p x s).1.cells.length=sz∧off+sz<=cs.length∧((rdW p x s).1.cells.all fun w=>w.sto&&w.strip1.sto)=true then layW p s (overW cs off ((rdW p x s).1.cells.map W.strip1)) r else none
def allT (t:Ty):List W->Option (List t.T)
 |[]=>some []
 |w::r=>(valT t w).bind fun x=>(allT t r).map fun y=>x::y
def elOk:Ty->Bool
 | .i _=>true
 | .b=>true
 | .s=>true
 | .l .ro t=>true
 |_=>false
def rowOk:Ty->Bool
 | .p a r=>elOk a&&rowOk r
 |τ=>elOk τ
def eleOk:Ty->Bool
 | .g r=>rowOk r
 |τ=>elOk τ
def distP:List (Bool×PB)->Bool
 |[]=>true
 |(x,b)::r=>(r.all fun y=> !(x||y.1)|| !(decide (b=y.2)))&&distP r
def capPts:List W->List PB
 |[]=>[]
 | .pt b _::r=>b::capPts r
 |_::r=>capPts r
def ptsX:List AK->List W->List (Bool×PB)
 | .x _::ak,.pt b _::ws=>(true,b)::ptsX ak ws
 | .o _::ak,.pt b _::ws=>(false,b)::ptsX ak ws
 |_::ak,_::ws=>ptsX ak ws
 |_,_=>[]
def ptsC:List W->List PB
 |[]=>[]
 | .clo _ caps::ws=>capPts caps++ptsC ws
 |_::ws=>ptsC ws
def distOk (ak:List AK) (ws:List W):Bool:=distP (ptsX ak ws)&&(ptsX ak ws).all fun x=> !x.1||(ptsC ws).all fun y=> !(decide (x.2=y))
def W.pf0:W->Bool
 | .u _ _=>true
 | .nil=>true
 |_=>false
def W.pf1:W->Bool
 | .ag ws=>ws.all W.pf0
 |w=>w.pf0
def W.pf2:W->Bool
 | .tp ws=>ws.all W.pf1
 |w=>w.pf1
def wrB (s:SU):PB->Bool
 | .own _=>true
 | .ext i=>match s.w[i]? with
  |some true=>true
  |_=>false
def chk1 (w:W):Option W:=bif w.pf1 then some w else none
def arg0 (s:SU):AK->W->Option W
 | .v τ,w=>chk1 w
 | .x r,.pt b off=>bif wrB s b then(getBx b s).bind fun ws=>(pickW (some (rowLen r)) ws off).bind chk1 else none
 | .o r,.pt b off=>(getBx b s).bind fun ws=>(pickW (some (rowLen r)) ws off).bind chk1
 |_,_=>none
def args0 (s:SU):List AK->List W->Option (List W)
 |[],[]=>some []
 |a::ak,w::ws=>(arg0 s a w).bind fun x=>(args0 s ak ws).map fun y=>x::y
 |_,_=>none
def Ty.fo:Ty->Bool
 | .fn _ _=>false
 | .l _ e=>e.fo
 | .p a r=>a.fo&&r.fo
 | .g r=>r.fo
 | .t a r=>a.fo&&r.fo
 | .o a r=>a.fo&&r.fo
 | .cl _ r=>r.fo
 |_=>true
def Sg.ok (s:Sg):Bool:=s.res.fo&&s.res.tupk&&s.ak.all fun
 | .v τ=>τ.val
 | .x r=>r.rowk&&r.fo
 | .o r=>r.rowk&&r.fo
def tupOk:Ty->Bool
 | .t a r=>a.val&&tupOk r
 | .n=>true
 |τ=>τ.val
def capW:W->Bool
 | .pt _ _=>true
 | .fp _ _=>true
 | .u (.i _) _=>true
 | .u .b _=>true
 | .u .s _=>true
 |_=>false
def capIn (s:SU):W->Bool
 | .pt b _=>(getBx b s).isSome
 |_=>true
def cloF (C:Tab) (s:SU) (fn:Nat) (caps:List W) (a r:Ty):Option (a.T->Option r.T):=match C fn with
 |none=>none
 |some tf=>match xsOf tf.sg.ak,a.fo&&r.fo&&a.tupk&&tupOk r&&tf.sg.ok&&caps.all (capIn s)&&caps.all capW with
  |[],true=>some fun x=>(args0 s tf.sg.ak (tupW a x++caps)).bind fun ws=>(tupT tf.sg.aT ws).bind fun y=>(tf.f y).bind fun z=>castT _ r z
  |_,_=>none
def argF (C:Tab) (s:SU):AK->W->Option W
 | .v (.fn a r),.clo fn caps=>(cloF C s fn caps a r).map fun φ=>.u (.fn a r) φ
 |a,w=>arg0 s a w
def argsF (C:Tab) (s:SU):List AK->List W->Option (List W)
 |[],[]=>some []
 |a::ak,w::ws=>(argF C s a w).bind fun x=>(argsF C s ak ws).map fun y=>x::y
 |_,_=>none
def backW:List AK->List W->List W->SU->Option SU
 |[],_,_,s=>some s
 | .x r::ak,.pt b off::ws,y::ys,s=>(getBx b s).bind fun cs=>if off+y.cells.length<=cs.length then(setBx b (overW cs off y.cells) s).bind fun s'=>backW ak ws ys s' else none
 | .x _::_,_,_,_=>none
 | .v _::ak,_::ws,ys,s=>backW ak ws ys s
 | .o _::ak,_::ws,ys,s=>backW ak ws ys s
 |_,_,_,_=>none
def callW (C:Tab) (f:Nat) (ws:List W) (s:SU):Cm (Option (W×SU)):=match C f with
 |none=>.f
 |some (.par sg g)=>match(argsF C s sg.ak ws).bind (tupT sg.aT),distOk sg.ak ws&&sg.ok with
  |some a,true=>.b sg.oT (g a) (dflt sg.oT) fun y=>(backW sg.ak ws (outW sg.res (xsOf sg.ak) y).2 s).map fun s'=>((outW sg.res (xsOf sg.ak) y).1,s')
  |_,_=>.f
 |some (.tot sg g)=>match(argsF C s sg.ak ws).bind (tupT sg.aT),distOk sg.ak ws&&sg.ok with
  |some a,true=>.r ((backW sg.ak ws (outW sg.res (xsOf sg.ak) (g a)).2 s).map fun s'=>((outW sg.res (xsOf sg.ak) (g a)).1,s'))
  |_,_=>.f
 |some (.gen _ _ _)=>.f
def okQ (T:Tab) (f:Nat):Bool:=match T f with
 |some tf=>tf.sg.ak.all fun
  | .v τ=>τ.fo
  |_=>false
 |none=>false
def apM (w:Bool):Mode:=if w then .mu else .app
def snpW1 (s:SU):W->Option (List (Int×Int)×W)
 | .u (.i k) x=>some ([],.u (.i k) x)
 | .u .b x=>some ([],.u .b x)
 | .u .s x=>some ([],.u .s x)
 | .u (.l m t) x=>if t.fo=true∧m≠ .nl then some ([],.u (.l .ro t) x)else none
 | .nil=>some ([],.nil)
 | .rs b τ none n=>match lkW b s.l with
  |some [.lb τ' m xs]=>match castT (.l .mu τ') (.l .mu τ) xs with
   |some xs=>if τ.fo=true then some ([(n,m)],.u (.l .ro τ) xs)else none
   |none=>none
  |_=>none
 |_=>none
def snpWL (s:SU):List W->Option (List (Int×Int)×List W)
 |[]=>some ([],[])
 |w::ws=>match snpW1 s w,snpWL s ws with
  |some a,some b=>some (a.1++b.1,a.2::b.2)
  |_,_=>none
def snpW (s:SU):W->Option (List (Int×Int)×W)
 | .ag ws=>(snpWL s ws).map fun q=>(q.1,.ag q.2)
 |w=>snpW1 s w
def rdRW (x:Opd) (s:SU):W:=match x with
 | .t n=>getW n s.e
 |x=>(rdW [] x s).1
def snpAW (s:SU):List Opd->Option (List (Int×Int)×List W)
 |[]=>some ([],[])
 |x::r=>match snpW s (rdRW x s),snpAW s r with
  |some a,some b=>some (a.1++b.1,a.2::b.2)
  |_,_=>none
def chkL {α:Type}:List (Int×Int)->Option α->Option α
 |[],o=>o
 |(a,b)::r,o=>(eqI a b).bind fun _=>chkL r o
def scal:Ty->Bool
 | .i _=>true
 | .b=>true
 | .s=>true
 |_=>false
def cpyL {α:Type} (xs:List α) (lo n:Int) (ys:List α):Option (List α):=if lo.toNat+n.toNat<=xs.length then some (xs.take lo.toNat++ys.take n.toNat++xs.drop (lo.toNat+min ys.length n.toNat))else none
def liO (p:Path) (s:SU) (d:Int):Option Opd->Option Int
 |none=>some d
 |some x=>match(rdW p x s).1 with
  | .u (.i _) n=>some n
  |_=>none
def evOpW (C:Tab) (p:Path) (t:Option Nat) (a:Ty) (op:Op) (s:SU):Cm (Option (W×SU)):=match op with
 | .mv x=>.r (some (rdW p x s))
 | .pk c x y=>match(rdW p c s).1 with
  | .u .b q=>
   let n:=match c with| .t n=>some n|_=>none
   let ext:=fun w:Bool=>match n with|some n=>(n,w)::p|none=>p
   match x.ot&&y.ot,mergeW q (rdW (ext true) x s).1 (rdW (ext false) y s).1 with
   |true,some w=>.r (some (w,s))
   |_,_=>.f
  |_=>.f
 | .al z=>match t,p with
  |some t,[]=>bif hasN t s.m then .f else .r (some (.pt (.own t) 0,{s with l:=(t,z.map cW)::s.l,m:=t::s.m}))
  |_,_=>.f
 | .bx x=>match t,p with
  |some t,[]=>bif hasN t s.m|| !((rdW p x s).1.cells.all W.sto)then .f else .r (some (.pt (.own t) 0,{(rdW p x s).2 with l:=(t,(rdW p x s).1.cells)::(rdW p x s).2.l,m:=t::s.m}))
  |_,_=>.f
 | .ld q x=>match(rdW p x s).1 with
  | .pt b off=>match(getBx b s).bind fun ws=>pickW q ws off with
   |some w=>.r (some (w.strip,s))
   |none=>.f
  | .fp ws off=>match pickW q ws off with
   |some w=>.r (some (w,s))
   |none=>.f
  | .ep b τ i off=>match lkW b s.l with
   |some [.lb τ' _ xs]=>match castT (.l .mu τ') (.l .mu τ) xs with
    |some xs=>.b τ (idx (α:=τ.T) xs i) (dflt τ) fun x=>(pickW q (elW τ x) off).map fun w=>(w.strip,s)
    |none=>.f
   |_=>.f
  |_=>.f
 | .ldm q x=>match(rdW p x s).1,p with
  | .pt b off,[]=>match getBx b s with
   |some ws=>match pickW q ws off with
    |some w=>.r ((setBx b (overW ws off w.strip.cells) s).map fun s'=>(w,s'))
    |none=>.f
   |none=>.f
  |_,_=>.f
 | .st n x y=>match(rdW p x s).1,p with
  | .pt b off,[]=>match getBx b s with
   |some ws=>if(rdW p y s).1.cells.length=n∧off+n<=ws.length∧(rdW p y s).1.cells.all W.sto=true∧stoB b (rdW p y s).1=true then .r ((setBx b (overW ws off (rdW p y s).1.cells) (rdW p y s).2).map fun s'=>(.un,s'))else .f
   |none=>.f
  | .ep b τ i off,[]=>match lkW b s.l with
   |some [.lb τ' m xs]=>match castT (.l .mu τ') (.l .mu τ) xs with
    |some xs=>if(rdW p y s).1.cells.length=n∧off+n<=csz τ∧(rdW p y s).1.cells.all W.sto=true then .b τ (idx (α:=τ.T) xs i) none fun x=>(elT τ (overW (elW τ x) off (rdW p y s).1.cells)).map fun x'=>(.un,{(rdW p y s).2 with l:=sbW b [.lb τ m (List.set (α:=τ.T) xs i.toNat x')] (rdW p y s).2.l})else .f
    |none=>.f
   |_=>.f
  |_,_=>.f
 | .bin o x y=>match(rdW p x s).1,(rdW p y s).1 with
  | .u (.i k) m,.u (.i k') n=>if k=k' then(binW o (nzO y) k m n).map fun w=>some (w,s)else .f
  |_,_=>.f
 | .no x=>match(rdW p x s).1 with
  | .u .b q=>.r (some (.u .b (!q),s))
  |_=>.f
 | .un xr x=>match(rdW p x s).1 with
  | .u (.i k) n=>.r (some (.u (.i k) (if xr then xorI k (if k.signed then -1 else k.max) n else k.wrap (0-n)),s))
  |_=>.f
 | .fa x off=>match(rdW p x s).1 with
  | .pt b o=>.r (some (.pt b (o+off),s))
  | .fp ws o=>.r (some (.fp ws (o+off),s))
  | .ep b τ i o=>.r (some (.ep b τ i (o+off),s))
  |_=>.f
 | .ia x j z=>match(rdW p x s).1,(rdW p j s).1 with
  | .u (.l m t) xs,.u (.i _) n=>if csz t=z∧m≠ .mu∧m≠ .app∧t.val=true then .b t (idx xs n) (dflt t) fun x=>some (.fp (elW t x) 0,s)else .f
  | .nil,.u (.i _) n=>.b .n none (some ()) fun _=>some (.un,s)
  | .rs b τ lo m,.u (.i _) n=>if csz τ=z then .b .n (chkI n m) (some ()) fun _=>some (.ep b τ (plusO lo n) 0,s)else .f
  |_,_=>.f
 | .ext x i=>match x,p with
  | .m n,[]=>match getW n s.e with
   | .tp ws=>match ws[i]? with
    |some w=>.r (some (w,putW n (.tp (ws.set i w.strip2)) s))
    |none=>.f
   |_=>.f
  | .m _,_=>.f
  |x,_=>match(rdW p x s).1 with
   | .tp ws=>match ws[i]? with
    |some w=>.r (some (w,s))
    |none=>.f
   |_=>.f
 | .call f xs=>match xs.all Opd.ot||p.isEmpty with
  |true=>callW C f (rdLW p xs s).1 (rdLW p xs s).2
  |false=>.f
 | .calf f xs=>match xs.all Opd.ot||p.isEmpty with
  |true=>(callW C f (rdLW p xs s).1 (rdLW p xs s).2).map fun r=>r.map fun q=>(dwnW q.1,q.2)
  |false=>.f
 | .cv x xs=>match xs.all Opd.ot||p.isEmpty,(rdW p x s).1 with
  |true,.clo f caps=>callW C f ((rdLW p xs s).1++caps) (rdLW p xs s).2
  |true,.u (.fn a r) φ=>match(tupT a (rdLW p xs s).1),a.fo&&r.tupk with
   |some y,true=>.b r (φ y) (dflt r) fun z=>some (resW r z,(rdLW p xs s).2)
   |_,_=>.f
  |_,_=>.f
 | .len x=>match(rdW p x s).1 with
  | .u (.l _ t) xs=>.r (some (.u (.i .i64) ((List.length (α:=t.T) xs:Nat):Int),s))
  | .nil=>.r (some (.u (.i .i64) 0,s))
  | .rs _ _ _ n=>.r (some (.u (.i .i64) n,s))
  |_=>.f
 | .six _ _=>.f
 | .bxo _ _=>.f
 | .mkm| .mkn _| .mlk _ _| .mup _ _=>.f
 | .lns x=>match(rdW p x s).1 with
  | .u .s xs=>.r (some (.u (.i .i64) ((List.length (α:=Int) xs:Nat):Int),s))
  |_=>.f
 | .ap w z by_ x y=>match p,(rdW p x s).1,(rdW p y s).1 with
  |[],.nil,.nil=>.r (some (.nil,(rdW p x s).2))
  |[],.nil,.u (.l .ro t) ys=>if csz t=z∧0<by_ then .b (.l .ro t) (apd by_ [] ys) none fun r=>some (.u (.l (apM w) t) r,(rdW p x s).2)else .f
  |[],.u (.l m t) xs,.u (.l .ro t') ys=>if csz t=z∧0<by_∧m=apM w then(match castT (.l .ro t') (.l .ro t) ys with
   |some ys=>.b (.l m t) (apd by_ xs ys) none fun r=>some (.u (.l m t) r,(rdW p x s).2)
   |none=>.f)else .f
  |_,_,_=>.f
 | .bs w z xs=>match eleOk a,allT a (rdsW p s xs)with
  |true,some l=>if csz a=z∧a.val=true∧xs.length<=1000000 then .r (some (.u (.l (apM w) a) l,s))else .f
  |_,_=>.f
 | .mk w z by_ ze n c=>match eleOk a,zElT a ze,(rdW p n s).1,(rdW p c s).1 with
  |true,some q,.u (.i _) n,.u (.i _) c=>if csz a=z∧0<by_ then .b (.l (apM w) a) (mkl by_ n c q) none fun r=>some (.u (.l (apM w) a) r,s)else .f
  |_,_,_,_=>.f
 | .bd z ps=>match layW p s (z.map cW) ps with
  |some cs=>.r (some (.ag cs,s))
  |none=>.f
 | .slc z x lo hi=>match(rdW p x s).1 with
  | .u (.l .ro t) xs=>match liO p s 0 lo,liO p s ((List.length (α:=t.T) xs:Nat):Int) hi with
   |some l,some h=>if csz t=z then .b (.l .ro t) (cut (α:=t.T) xs l h) (some ([]:List t.T)) fun r=>some (.u (.l .ro t) r,s)else .f
   |_,_=>.f
  | .rs b τ lo' n=>match liO p s 0 lo,liO p s n hi with
   |some l,some h=>if csz τ=z then .b .n (chkS l h n) (some ()) fun _=>some (.rs b τ (some (plusO lo' l)) (h-l),s)else .f
   |_,_=>.f
  |_=>.f
 | .eqn ne x=>match(rdW p x s).1 with
  | .u (.l .ro t) xs=>.b .b (nilq (α:=t.T) xs ne) (some false) fun r=>some (.u .b r,s)
  | .nil=>.r (some (.u .b (!ne),s))
  |_=>.f
 | .eqs ne x y=>match(rdW p x s).1,(rdW p y s).1 with
  | .u .s a,.u .s b=>.r (some (.u .b (if ne then !(decide (a=b))else decide (a=b)),s))
  |_,_=>.f
 | .eqb ne x y=>match(rdW p x s).1,(rdW p y s).1 with
  | .u .b a,.u .b b=>.r (some (.u .b ((a==b)!=ne),s))
  |_,_=>.f
 | .eqa ne z x y=>match(rdW p x s).1,(rdW p y s).1 with
  | .ag xs,.ag ys=>match zOk z xs,veqW xs ys with
   |true,some q=>.r (some (.u .b (if ne then !q else q),s))
   |_,_=>.f
  |_,_=>.f
 | .sh o x y=>match(rdW p x s).1,(rdW p y s).1 with
  | .u (.i k) m,.u (.i _) n=>(shW o (nnO y) k m n).map fun w=>some (w,s)
  |_,_=>.f
 | .ci k x=>match(rdW p x s).1 with
  | .u (.i _) n=>.r (some (.u (.i k) (k.wrap n),s))
  |_=>.f
 | .mm mx x r=>match(rdW p x s).1 with
  | .u (.i k) n=>match mmW mx k n (rdsW p s r)with
   |some v=>.r (some (.u (.i k) v,s))
   |none=>.f
  |_=>.f
 | .mf f caps=>if(rdsW p s caps).all capW=true then .r (some (.clo f (rdsW p s caps),s))else .f
 | .nck x=>match(rdW p x s).1 with
  | .pt b o=>.r (some (.pt b o,s))
  | .fp ws o=>.r (some (.fp ws o,s))
  | .ep b τ i o=>.r (some (.ep b τ i o,s))
  |_=>.f
 | .bst x=>match(rdW p x s).1 with
  | .u (.l .ro (.i .u8)) xs=>.r (some (.u .s xs,s))
  | .nil=>.r (some (.u .s ([]:List Int),s))
  |_=>.f
 | .cpy x y=>match p,(rdW p x s).1 with
  |[],.rs b τ lo n=>match lkW b s.l,oneT (.l .ro τ) (rdW p y s).1 with
   |some [.lb τ' m xs],some ys=>match castT (.l .mu τ') (.l .mu τ) xs with
    |some xs=>if τ.one=true then .b (.l .mu τ) (cpyL (α:=τ.T) xs (lo.getD 0) n ys) none fun r=>some (.u (.i .i64) ((min (List.length (α:=τ.T) ys) n.toNat:Nat):Int),{s with l:=sbW b [.lb τ m r] s.l})else .f
    |none=>.f
   |_,_=>.f
  |_,_=>.f
 | .pcal f xs=>match p,snpAW s xs,C f with
  |[],some (q,ws),some tf=>match okQ C f&&tf.sg.ok&&scal tf.sg.res&&Nat.beq tf.sg.ak.length ws.length,tupT tf.sg.aT ws with
   |true,some a=>.b tf.sg.oT (chkL q (tf.f a)) none fun y=>some ((outW tf.sg.res (xsOf tf.sg.ak) y).1,s)
   |_,_=>.f
  |_,_,_=>.f
structure TStp where
 t:Option Nat
 g:Option (Nat×Bool)
 op:Op
 a:Ty:=.n
def TStp.er (q:TStp):Stp:=⟨q.t,q.g,q.op⟩
def cnd (x want:Bool):Bool:=if want then x else !x
def pathOf (q:Nat) (want:Bool) (s:SU):Option (Path×Bool):=match getW q s.e with
 | .u .b x=>some ([(q,want)],cnd x want)
 | .gd p c (.u .b x)=>some ((q,want)::p,c&&cnd x want)
 |_=>none
def okG:Op->Bool
 | .mv _| .pk _ _ _| .ld _ _| .bin _ _ _| .no _| .un _ _| .fa _ _| .ia _ _ _| .len _| .lns _| .slc _ _ _ _| .eqs _ _ _| .eqb _ _ _| .eqa _ _ _ _| .sh _ _ _| .ci _ _| .mm _ _ _| .nck _| .bs _ _ _| .bd _ _| .mf _ _| .ext _ _| .bst _=>true
 |_=>false
def okC (C:Tab):Op->Bool
 | .call f _=>match C f with
  |some tf=>(xsOf tf.sg.ak).isEmpty
  |none=>false
 | .calf f _=>match C f with
  |some tf=>(xsOf tf.sg.ak).isEmpty
  |none=>false
 | .cv _ _=>false
 |_=>false
def stepW (C:Tab) (q:TStp) (s:SU):Cm (Option SU):=match q.g with
 |none=>(evOpW C [] q.t q.a q.op s).map fun r=>r.map fun r=>putWO q.t r.1 r.2
 |some (g,want)=>match pathOf g want s,(okG q.op||okC C q.op)&&q.op.ms.isNone with
  |some (p,c),true=>bif (match q.t with|some t=>namesP t p|none=>true)then .f else match evOpW C p q.t q.a q.op s with
   | .f=>.f
   | .r r=>.r (r.map fun r=>putWO q.t (.gd p c r.1) s)
   | .b τ o (some d) k=>.b τ (if c then o else some d) none fun x=>(k x).map fun r=>putWO q.t (.gd p c r.1) s
   | .b _ _ none _=>.f
  |_,_=>.f
def evS {ρ:Type} (C:Tab):List TStp->SU->(SU->Option ρ)->Option ρ
 |[],s,K=>K s
 |q::r,s,K=>match stepW C q s with
  | .f=>none
  | .r none=>none
  | .r (some s')=>evS C r s' K
  | .b τ o _ k=>o.bind fun x=>match k x with
   |some s'=>evS C r s' K
   |none=>none
inductive BaW where
 |no
 |rd (b:PB)
 |wr (b:PB)
 deriving DecidableEq
def actW (T:Tab) (s:SU) (q:TStp):Option BaW:=match q.op with
 | .ld _ x=>match x with
  | .t n=>match getW n s.e with
   | .pt b _=>some (.rd b)
   | .gd _ _ (.pt b _)=>some (.rd b)
   | .fp _ _=>some .no
   | .gd _ _ (.fp _ _)=>some .no
   | .ep b _ _ _=>some (.rd (.own b))
   | .gd _ _ (.ep b _ _ _)=>some (.rd (.own b))
   |_=>none
  |_=>none
 | .ldm _ x=>match(rdW [] x s).1 with
  | .pt b _=>some (.wr b)
  |_=>none
 | .st _ x _=>match(rdW [] x s).1 with
  | .pt b _=>some (.wr b)
  | .ep b _ _ _=>some (.wr (.own b))
  |_=>none
 | .al _=>match q.t with
  |some t=>some (.wr (.own t))
  |none=>none
 | .bx _=>none
 | .cv x xs=>match x with
  | .t n=>match getW n s.e with
   | .clo f _=>if xs.all Opd.ot=true∧okQ T f=true then some .no else none
   |_=>none
  |_=>none
 | .pcal _ _=>none
 | .cpy x _=>match(rdW [] x s).1 with
  | .rs b _ _ _=>some (.wr (.own b))
  |_=>none
 | .call f xs=>if xs.all Opd.ot=true∧okQ T f=true then some .no else none
 | .calf f xs=>if xs.all Opd.ot=true∧okQ T f=true then some .no else none
 | .ext x _=>if x.ot=true then some .no else none
 | .bxo _ _=>none
 | .mkm| .mkn _| .mlk _ _| .mup _ _=>none
 |_=>some .no
def BaW.co:BaW->BaW->Bool
 | .rd b,.wr b'=> !decide (b=b')
 | .wr b,.rd b'=> !decide (b=b')
 | .wr b,.wr b'=> !decide (b=b')
 |_,_=>true
def evD {ρ:Type} (C:Tab):List (TStp×List Nat)->List BaW->SU->(SU->Option ρ)->Option ρ
 |[],_,s,K=>K s
 |(q,un)::r,acts,s,K=>match actW C s q with
  |none=>none
  |some i=>if un.all (fun m=>(acts.getD m .no).co i)=true then(match stepW C q s with
   | .f=>none
   | .r none=>none
   | .r (some s')=>evD C r (acts++[i]) s' K
   | .b τ o _ k=>o.bind fun x=>match k x with
    |some s'=>evD C r (acts++[i]) s' K
    |none=>none)else none
inductive Kd where
 |v (τ:Ty)
 |w (w:W)
structure Sh where
 ks:List (Nat×Kd)
 bs:List (Nat×List Kd)
 ms:List Nat
 xs:List (List Kd)
 ws:List Bool:=[]
def Kd.ty:Kd->List Ty
 | .v τ=>[τ]
 | .w _=>[]
def Sh.tys (h:Sh):List Ty:=(h.ks.flatMap fun x=>x.2.ty)++(h.bs.flatMap fun x=>x.2.flatMap Kd.ty)++(h.xs.flatMap fun x=>x.flatMap Kd.ty)
def Sh.ty (h:Sh):Ty:=tyOf h.tys
def sameW0:W->W->Bool
 | .pt b o,.pt b' o'=>decide (b=b'∧o=o')
 | .np,.np=>true
 | .nil,.nil=>true
 | .un,_=>true
 |_,_=>false
def sameL:List W->List W->Bool
 |[],[]=>true
 | .pt b o::xs,.pt b' o'::ys=>decide (b=b'∧o=o')&&sameL xs ys
 |_,_=>false
def sameW:W->W->Bool
 | .clo f xs,.clo f' ys=>Nat.beq f f'&&sameL xs ys
 |x,y=>sameW0 x y
def Kd.take:Kd->W->Option (List W)
 | .v _,y=>some [y]
 | .w x,y=>if sameW x y=true then some []else none
def takeL:List Kd->List W->Option (List W)
 |[],[]=>some []
 |k::ks,w::ws=>(k.take w).bind fun x=>(takeL ks ws).map fun y=>x++y
 |_,_=>none
def takeE (s:SU):List (Nat×Kd)->Option (List W)
 |[]=>some []
 |(n,k)::r=>(k.take (getW n s.e)).bind fun x=>(takeE s r).map fun y=>x++y
def takeB (s:SU):List (Nat×List Kd)->Option (List W)
 |[]=>some []
 |(b,ks)::r=>(((lkW b s.l).bind notLb).bind (takeL ks)).bind fun x=>(takeB s r).map fun y=>x++y
def takeX:List (List Kd)->List (List W)->Option (List W)
 |[],[]=>some []
 |ks::r,ws::q=>(takeL ks ws).bind fun x=>(takeX r q).map fun y=>x++y
 |_,_=>none
def Kd.oneB:Kd->Bool
 | .v τ=>τ.one
 | .w _=>true
def Sh.ok (h:Sh):Bool:=h.tys.all Ty.val&&(h.bs.all fun x=>x.2.all Kd.oneB)&&(h.xs.all fun x=>x.all Kd.oneB)
def Sh.pack0 (h:Sh) (s:SU):Option h.ty.T:=
 if s.w=h.ws∧h.ok=true then(takeE s h.ks).bind fun a=>(takeB s h.bs).bind fun b=>(takeX h.xs s.x).bind fun c=>tupT h.ty (a++b++c)else none
def Sh.pack (h:Sh) (s:SU):Option h.ty.T:=bif s.m.all fun b=>hasN b h.ms then h.pack0 s else none
def Kd.fill:Kd->List W->W×List W
 | .v _,y::ws=>(y,ws)
 | .v _,[]=>(.un,[])
 | .w y,ws=>(y,ws)
def fillL:List Kd->List W->List W×List W
 |[],ws=>([],ws)
 |k::ks,ws=>((k.fill ws).1::(fillL ks (k.fill ws).2).1,(fillL ks (k.fill ws).2).2)
def fillE:List (Nat×Kd)->List W->List (Nat×W)×List W
 |[],ws=>([],ws)
 |(n,k)::r,ws=>((n,(k.fill ws).1)::(fillE r (k.fill ws).2).1,(fillE r (k.fill ws).2).2)
def fillB:List (Nat×List Kd)->List W->List (Nat×List W)×List W
 |[],ws=>([],ws)
 |(b,ks)::r,ws=>((b,(fillL ks ws).1)::(fillB r (fillL ks ws).2).1,(fillB r (fillL ks ws).2).2)
def fillX:List (List Kd)->List W->List (List W)×List W
 |[],ws=>([],ws)
 |ks::r,ws=>((fillL ks ws).1::(fillX r (fillL ks ws).2).1,(fillX r (fillL ks ws).2).2)
def Sh.fill (h:Sh) (x:h.ty.T):SU:=
 let ws:=tupW h.ty x
 let a:=fillE h.ks ws
 let b:=fillB h.bs a.2
 let c:=fillX h.xs b.2
 ⟨a.1,b.1,h.ms,c.1,h.ws⟩
def inW0 (bs:List Nat):W->Bool
 | .u _ _=>true
 | .nil=>true
 | .np=>true
 | .pt (.own b) _=>hasN b bs
 | .pt (.ext _) _=>true
 | .fp _ _=>true
 |_=>false
def inW1 (bs:List Nat):W->Bool
 | .clo _ ws=>ws.all (inW0 bs)
 |w=>inW0 bs w
def inW (bs:List Nat):W->Bool
 | .ag ws=>ws.all (inW1 bs)
 |w=>inW1 bs w
def lokS (h:Sh) (s:SU):Bool:=(s.e.all fun p=>inW (h.bs.map (·.1)) p.2)&&(s.l.all fun p=>p.2.all (inW1 (h.bs.map (·.1))))&&(h.bs.all fun x=>hasN x.1 h.ms)
inductive Tc where
 |sk
 |rg (l:List TStp)
 |sq (a b:Tc)
 |ff (c:Opd) (a b:Tc)
 |bl (id:Nat) (c:Tc)
 |lp (h:Sh) (ex:List (Nat×Sh)) (rt:Bool) (c:Tc)
 |jn (h:Sh) (ex:List (Nat×Sh)) (rt:Bool) (c:Tc)
 |dr (l:List (TStp×List Nat))
 |gs (l:List Gc) (c:Tc)
 |ex (id:Nat)
 |rt
 |rtx
def Tc.er:Tc->Cd
 | .sk=>.sk
 | .rg l=>.rg (l.map TStp.er)
 | .sq a b=>.sq a.er b.er
 | .ff c a b=>.ff c a.er b.er
 | .bl id c=>.bl id c.er
 | .lp h _ _ c=>.lp (h.ks.map (·.1)) (h.bs.map (·.1)) c.er
 | .jn _ _ _ c=>c.er
 | .dr l=>.dr (l.map fun q=>(q.1.er,q.2))
 | .gs l c=>.gs l c.er
 | .ex id=>.ex id
 | .rt=>.rt
 | .rtx=>.rt
def itU {σ ξ:Type} (body:σ->Option (σ⊕ξ)):Nat->σ->Option ξ
 |0,_=>none
 |n+1,s=>match body s with
  |none=>none
  |some (.inl s')=>itU body n s'
  |some (.inr x)=>some x
noncomputable def lpU {σ ξ:Type} (body:σ->Option (σ⊕ξ)) (s:σ):Option ξ:=lim fun n=>itU body n s
structure RS where
 res:List Res
 keep:Bool
 sg:Sg
def resLW:List Res->SU->Option (List W×SU)
 |[],s=>some ([],s)
 | .t n::r,s=>(resLW r (rdW [] (.m n) s).2).map fun q=>((rdW [] (.m n) s).1::q.1,q.2)
 | .c n q::r,s=>match evOpW (fun _=>none) [] none .n (.ldm q (.t n)) s with
  | .r (some (w,s'))=>(resLW r s').map fun q=>(w::q.1,q.2)
  |_=>none
def mkResW:List W->W
 |[w]=>w
 |ws=>.tp ws
def W.okR:W->Bool
 | .u (.fn _ _) _=>false
 | .u (.cl _ _) _=>false
 | .u _ _=>true
 | .nil=>true
 |_=>false
def W.okR2:W->Bool
 | .ag ws=>ws.all W.okR
 |w=>w.okR
def RS.pack (r:RS) (s:SU):Option r.sg.oT.T:=(resLW r.res s).bind fun q=>
 if q.1.all W.okR2=true then outT r.sg.res (xsOf r.sg.ak) (if r.keep then mkResW q.1 else(mkResW q.1).strip) (xRows r.sg.ak q.2.x)else none
where
 xRows:List AK->List (List W)->List W
  | .x _::ak,ws::r=>.ag ws::xRows ak r
  | .o _::ak,_::r=>xRows ak r
  | .v _::ak,r=>xRows ak r
  |_,_=>[]
def W.toId (id:Nat):W->Bool
 | .pt (.own b) _=>Nat.beq b id
 |_=>false
def W.kl0 (id:Nat):W->W
 | .pt (.own b) o=>bif Nat.beq b id then .un else .pt (.own b) o
 | .clo f ws=>bif ws.any (W.toId id)then .un else .clo f ws
 | .rs b τ lo n=>bif Nat.beq b id then .un else .rs b τ lo n
 | .ep b τ i o=>bif Nat.beq b id then .un else .ep b τ i o
 |w=>w
def W.kl1 (id:Nat):W->W
 | .ag ws=>.ag (ws.map (W.kl0 id))
 |w=>w.kl0 id
def W.kl2 (id:Nat):W->W
 | .tp ws=>.tp (ws.map (W.kl1 id))
 |w=>w.kl1 id
def W.kl3 (id:Nat):W->W
 | .gd p c w=>.gd p c (w.kl2 id)
 |w=>w.kl2 id
def klEW (id:Nat) (e:List (Nat×W)):List (Nat×W):=e.map fun x=>(x.1,x.2.kl3 id)
def rmW (id:Nat):List (Nat×List W)->List (Nat×List W)
 |[]=>[]
 |(b,ws)::r=>bif Nat.beq b id then rmW id r else(b,ws.map (W.kl0 id))::rmW id r
def mkOk:Ty->Bool
 | .g r=> !(Nat.beq (rowLen r) 1)
 |_=>true
def ghW:Gc->SU->Cm SU
 | .dg b c,s=>match(lkW b s.l).bind notLb with
  |some ws=>match ws[c]? with
   |some w=>.r {s with l:=sbW b (ws.set c w.dwn1) s.l}
   |none=>.f
  |none=>.f
 | .th b c id,s=>match(lkW b s.l).bind notLb with
  |some ws=>match ws[c]? with
   |some (.u (.l .mu τ) xs)=>bif hasN id s.m||Nat.beq b id|| !(eleOk τ&&τ.val&&mkOk τ)then .f else .r {s with l:=(id,[.lb τ ((List.length (α:=τ.T) xs:Nat):Int) xs])::sbW b (ws.set c (.rs id τ none ((List.length (α:=τ.T) xs:Nat):Int))) s.l,m:=id::s.m}
   |_=>.f
  |none=>.f
 | .ufc b c id,s=>match(lkW b s.l).bind notLb,lkW id s.l with
  |some ws,some [.lb τ' m xs]=>match ws[c]? with
   |some (.rs b' τ none n)=>match castT (.l .mu τ') (.l .mu τ) xs with
    |some xs=>if b'=id∧b≠id then .b .n (eqI n m) none fun _=>{s with e:=klEW id s.e,l:=sbW b ((ws.map (W.kl0 id)).set c (.u (.l .mu τ) xs)) (rmW id s.l)}else .f
    |none=>.f
   |_=>.f
  |_,_=>.f
def evGs {ρ:Type}:List Gc->SU->(SU->Option ρ)->Option ρ
 |[],s,K=>K s
 |p::r,s,K=>match ghW p s with
  | .f=>none
  | .r s'=>evGs r s' K
  | .b τ o _ k=>o.bind fun x=>evGs r (k x) K
def fEx (i:Nat):List (Nat×Sh)->Nat->Option (Nat×Sh)
 |[],_=>none
 |(j,h)::r,k=>bif Nat.beq i j then some (k,h)else fEx i r (k+1)
def exTys (rs:RS) (ex:List (Nat×Sh)) (rt:Bool):List Ty:=ex.map (fun x=>x.2.ty)++(bif rt then[rs.sg.oT]else[])
def exE {X:Type} (l:List Ty) (ex:List (Nat×Sh)) (k:Nat) (w:(XTy l).T->X) (i:Nat) (s:SU):Option X:=match fEx i ex 0 with
 |some (j,h)=>(h.pack s).bind fun γ=>(injX l (j+k) h.ty γ).map w
 |none=>none
def exR {X:Type} (rs:RS) (l:List Ty) (ex:List (Nat×Sh)) (rt:Bool) (k:Nat) (w:(XTy l).T->X) (r:rs.sg.oT.T):Option X:=bif rt then(injX l (ex.length+k) rs.sg.oT r).map w else none
def exD {ρ:Type} (rs:RS) (ex:List (Nat×Sh)) (E:Nat->SU->Option ρ) (R:rs.sg.oT.T->Option ρ) (i:Nat) (τ:Ty) (x:τ.T):Option ρ:=match ex[i]? with
 |some (id,h)=>(castT τ h.ty x).bind fun γ=>E id (h.fill γ)
 |none=>(castT τ rs.sg.oT x).bind R
noncomputable def evT (C:Tab) (rs:RS):Tc->{ρ:Type}->SU->(SU->Option ρ)->(Nat->SU->Option ρ)->(rs.sg.oT.T->Option ρ)->Option ρ
 | .sk,_,s,K,_,_=>K s
 | .rg l,_,s,K,_,_=>evS C l s K
 | .sq a b,_,s,K,E,R=>evT C rs a s (fun s'=>evT C rs b s' K E R) E R
 | .ff c a b,_,s,K,E,R=>match(rdW [] c s).1 with
  | .u .b q=>if q then evT C rs a s K E R else evT C rs b s K E R
  |_=>none
 | .bl id c,_,s,K,E,R=>evT C rs c s K (fun i s'=>bif Nat.beq i 999999 then E i s' else bif Nat.beq i id then K s' else E i s') R
 | .lp h ex rt c,_,s,K,E,R=>match h.pack0 s with
  |none=>none
  |some x=>(lpU (fun x=>bif !(lokS h (h.fill x))then none else evT C rs c (h.fill x) (fun s'=>(h.pack0 s').map Sum.inl) (exE (exTys rs ex rt) ex 0 Sum.inr) (exR rs (exTys rs ex rt) ex rt 0 Sum.inr)) x).bind fun y=>dspX (exTys rs ex rt) y (exD rs ex E R)
 | .jn h ex rt c,_,s,K,E,R=>
  (evT C rs c s (fun s'=>(h.pack s').bind fun γ=>injX (h.ty::exTys rs ex rt) 0 h.ty γ) (exE (h.ty::exTys rs ex rt) ex 1 id) (exR rs (h.ty::exTys rs ex rt) ex rt 1 id)).bind fun y=>
   dspX (h.ty::exTys rs ex rt) y fun
    |0,τ,x=>(castT τ h.ty x).bind fun γ=>K (h.fill γ)
    |i+1,τ,x=>exD rs ex E R i τ x
 | .dr l,_,s,K,_,_=>evD C l [] s K
 | .gs l c,_,s,K,E,R=>evGs l s fun s'=>evT C rs c s' K E R
 | .ex id,_,s,_,E,_=>bif Nat.beq id 999999 then none else E id s
 | .rt,_,s,_,_,R=>(rs.pack s).bind R
 | .rtx,_,s,_,E,_=>E 999999 s
def su0:List AK->List W->Nat->Nat->List (Nat×W)×List (List W)
 | .v _::ak,w::ws,i,j=>((i,w)::(su0 ak ws (i+1) j).1,(su0 ak ws (i+1) j).2)
 | .x _::ak,w::ws,i,j=>((i,.pt (.ext j) 0)::(su0 ak ws (i+1) (j+1)).1,w.cells::(su0 ak ws (i+1) (j+1)).2)
 | .o _::ak,w::ws,i,j=>((i,.pt (.ext j) 0)::(su0 ak ws (i+1) (j+1)).1,w.cells::(su0 ak ws (i+1) (j+1)).2)
 |_,_,_,_=>([],[])
def wrs:List AK->List Bool
 |[]=>[]
 | .v _::ak=>wrs ak
 | .x _::ak=>true::wrs ak
 | .o _::ak=>false::wrs ak
noncomputable def evFn (C:Tab) (rs:RS) (T:Tc) (a:rs.sg.aT.T):Option rs.sg.oT.T:=
 let q:=su0 rs.sg.ak (match rs.sg.ak with|[]=>[]|_=>tupW rs.sg.aT a) 0 0
 evT C rs T ⟨q.1,[],[],q.2,wrs rs.sg.ak⟩ rs.pack (fun _ _=>none) some
end Go.Proofs.Ytfopbiiffiickaa.Ev.U
