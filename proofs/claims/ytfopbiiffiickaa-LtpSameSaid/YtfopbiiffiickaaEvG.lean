/- Operations on variables: moved out of, made. Conditions: none. -/
import Derived.Test.YtfopbiiffiickaaEvC
import Derived.Laws.NewFold
set_option linter.all false
namespace Go.Proofs.Ytfopbiiffiickaa.Ev
open Go
variable {P:Program}
def W (ro:Option Nat):Fence:={Fence.wide with round:=ro}
theorem add_lit (b o n:Nat):(⟨b,o,none⟩:Addr).add n=⟨b,o+n,none⟩:=by unfold Addr.add;split<;>simp_all
def aggT:TypeDesc->Bool
 | .struct _=>true
 | .array _ _=>true
 |_=>false
theorem run_isAgg' {t:TypeId} {d:TypeDesc} (h:P.underlying t=some d) (w:World):(isAgg t).run P w= .ok (aggT d) w:=by
 unfold isAgg
 rw[Sem.run_bind,run_underlying h w]
 cases d<;>simp[aggT]
theorem run_sizeOf' {t:TypeId} {i:TypeInfo} (h:P.info? t=some i) (w:World):(sizeOf t).run P w= .ok i.size w:=by
 simp[sizeOf,typeInfo,h]
theorem run_load1 {t:TypeId} {d:TypeDesc} (h:P.underlying t=some d) (hd:aggT d=false) {w:World} {a:Addr} {x:Value} (hc:w.cell? a=some x):(loadVar t a).run P w= .ok x w:=by
 simp[loadVar,run_isAgg' h,hd,hc]
theorem run_loadN {t:TypeId} {d:TypeDesc} {i:TypeInfo} (h:P.underlying t=some d) (hd:aggT d=true) (hi:P.info? t=some i) {w:World} {b o:Nat} {cs:List Value} (hn:cs.length=i.size)
  (hc:∀(j:Nat) v,cs[j]? =some v->w.cell? ⟨b,o+j,none⟩=some v):(loadVar t ⟨b,o,none⟩).run P w= .ok (.agg cs.toArray) w:=by
 have:=run_loadCells_list (P:=P) w ⟨b,o,none⟩ cs (fun j v hj=>by rw[add_lit];exact hc j v hj)
 rw[hn]at this
 simp[loadVar,run_isAgg' h,hd,run_sizeOf' hi,this]
def Sz (P:Program) (t:TypeId):Option Nat->Prop
 |none=>∃d,P.underlying t=some d∧aggT d=false
 |some n=>∃d i,P.underlying t=some d∧aggT d=true∧P.info? t=some i∧i.size=n
theorem box_cell {g:G} {w:World} {f s:Nat} {ds:List D} (h:RBc g w f s ds):∃b,g.bx f s=some b∧∀(c:Nat) d,ds[c]? =some d->∃y,w.cell? ⟨b,c,none⟩=some y∧RC g w (boxL f s c) y d:=by
 obtain⟨b,cs,e,h1,h2,h3,h4⟩:=h
 refine⟨b,h1,fun c d hc=>?_⟩
 obtain⟨y,h5,h6⟩:=h4 c d hc
 exact⟨y,by simp[World.cell?,h2,h5],h6⟩
theorem choose_cells {ds:List D} {R:Nat->Value->D->Prop} (h:∀(c:Nat) d,ds[c]? =some d->∃y,R c y d):∃ys:List Value,ys.length=ds.length∧∀(c:Nat) d,ds[c]? =some d->∃y,ys[c]? =some y∧R c y d:=by
 induction ds generalizing R with
 |nil=>exact⟨[],rfl,fun c d hc=>by simp at hc⟩
 |cons d ds ih=>
  obtain⟨y,hy⟩:=h 0 d rfl
  obtain⟨ys,h1,h2⟩:=ih (R:=fun c=>R (c+1)) fun c d hc=>h (c+1) d (by simpa using hc)
  refine⟨y::ys,by simp[h1],fun c d' hc=>?_⟩
  cases c with
  |zero=>simp at hc;subst hc;exact⟨y,rfl,hy⟩
  |succ c=>simpa using h2 c d' (by simpa using hc)
theorem take_drop_get {α:Type} {l:List α} {o n c:Nat}:((l.drop o).take n)[c]? =if c<n then l[o+c]? else none:=by
 rw[List.getElem?_take]
 split
 ·rw[List.getElem?_drop]
 ·rfl
theorem load_ok {t:TypeId} {n:Option Nat} (hs:Sz P t n) {w:World} {b off:Nat} {ds:List D} {R:Nat->Value->D->Prop}
  (hc:∀(c:Nat) d,ds[c]? =some d->∃y,w.cell? ⟨b,c,none⟩=some y∧R c y d) {d:D} (hp:pick n ds off=some d):
  ∃x,(loadVar t ⟨b,off,none⟩).run P w= .ok x w∧match n with
   |none=>R off x d
   |some n=>∃cs,x= .agg cs∧cs.size=n∧∃es,d= .agg es∧es.length=n∧∀(c:Nat) e,es[c]? =some e->ds[off+c]? =some e∧∃y,cs[c]? =some y∧R (off+c) y e:=by
 cases n with
 |none=>
  obtain⟨u,h1,h2⟩:=hs
  obtain⟨y,h3,h4⟩:=hc off d hp
  exact⟨y,run_load1 h1 h2 h3,h4⟩
 |some n=>
  obtain⟨u,i,h1,h2,h3,h4⟩:=hs
  simp only[pick]at hp
  split at hp
  ·rename_i hle
   injection hp with hp
   subst hp
   obtain⟨ys,h5,h6⟩:=choose_cells (ds:=(ds.drop off).take n) (R:=fun c y d=>w.cell? ⟨b,off+c,none⟩=some y∧R (off+c) y d) fun c d hcd=>by
    rw[take_drop_get]at hcd
    split at hcd
    ·exact hc _ _ hcd
    ·cases hcd
   have hl:((ds.drop off).take n).length=n:=by simp;omega
   refine⟨.agg ys.toArray,run_loadN h1 h2 h3 (by rw[h5,hl,h4]) fun j v hj=>?_,ys.toArray,rfl,by simp[h5];omega,_,rfl,hl,fun c e hce=>⟨?_,?_⟩⟩
   ·have hjl:=getq_lt hj
    rw[h5]at hjl
    obtain⟨y,h7,h8,_⟩:=h6 j _ (List.getElem?_eq_getElem hjl)
    rw[hj]at h7
    injection h7 with h7
    rw[h7];exact h8
   ·rw[take_drop_get]at hce
    split at hce
    ·exact hce
    ·cases hce
   ·obtain⟨y,h7,_,h9⟩:=h6 c e hce
    exact⟨y,by simpa using h7,h9⟩
  ·cases hp
def MB:BinOp->Bop->Prop
 | .add,.add| .sub,.sub| .mul,.mul| .quo,.quo| .rem,.rem| .and,.and| .or,.or| .xor,.xor| .andNot,.andNot| .shl,.shl| .shr,.shr
 | .eql,.eql| .neq,.neq| .lss,.lss| .leq,.leq| .gtr,.gtr| .geq,.geq=>True
 |_,_=>False
inductive MArgs:Array Operand->List Opd->Prop
 |mk {xs:List Operand} {ys:List Opd} (h:xs.length=ys.length) (h':∀(i:Nat) x y,xs[i]? =some x->ys[i]? =some y->MOpd x y):MArgs xs.toArray ys
inductive MOpt:Option Operand->Option Opd->Prop
 |n:MOpt none none
 |s {x y} (h:MOpd x y):MOpt (some x) (some y)
def plainT:TypeDesc->Value->Bool
 | .bool,.bool _=>true
 | .string,.string _=>true
 | .int _,.int _ _=>true
 |_,_=>false
inductive PlainF (P:Program):Nat->List Field->List Value->Prop
 |nil {j}:PlainF P j [] []
 | cons {j f fs z zs d} (ho : f.offset = j) (hn : (f.name == "_") = false) (hu : P.underlying f.type = some d) (hd : plainT d z = true) (hr : PlainF P (j + 1) fs zs) : PlainF P j (f :: fs) (z :: zs)
structure IdKey (P:Program) (k:TypeId):Prop where
 st:∃fs,P.underlying k=some (.struct fs)∧P.stoodInHeld k=false∧PlainF P 0 fs.toList [.int .i64 0,.int .u32 0]
inductive MOp (P:Program):Go.Op->Op->Prop
 |mv {x x'} (h:MOpd x x'):MOp P (.move x) (.mv x')
 |asg {x x'} (h:MOpd x x'):MOp P (.assign x) (.mv x')
 |pk {c a b c' a' b'} (h:MOpd c c') (ha:MOpd a a') (hb:MOpd b b'):MOp P (.pick c a b) (.pk c' a' b')
 |al {t z zv} {i:TypeInfo} (hi:P.info? t=some i) (hz:i.zero=some zv) (h:zv.cells.toList=z) (h1:z.all Value.oneCell'=true):MOp P (.alloc t) (.al z)
 |bx {t x x'} (h:MOpd x x'):MOp P (.box t x) (.bx x')
 |ld {t p p' n} (h:MOpd p p') (hs:Sz P t n):MOp P (.load t p) (.ld n p')
 |ldm {t p p' n} (h:MOpd p p') (hs:Sz P t n):MOp P (.load t p) (.ldm n p')
 |st {t p x p' x' n} {i:TypeInfo} (hp:MOpd p p') (hx:MOpd x x') (hi:P.info? t=some i) (hn:i.size=n):MOp P (.store t p x) (.st n p' x')
 |bin {op op' t x y t' x' y'} (ho:MB op op') (hx:MOpd x x') (hy:MOpd y y'):MOp P (.binOp op t x y t') (.bin op' x' y')
 |no {t x x'} (hx:MOpd x x'):MOp P (.unOp .not t x) (.no x')
 |xr {t x x'} (hx:MOpd x x'):MOp P (.unOp .xor t x) (.un true x')
 |ng {t x x'} (hx:MOpd x x'):MOp P (.unOp .neg t x) (.un false x')
 |fa {t x x' f off} {fs:Array Field} {fd:Field} {i:TypeInfo} (hx:MOpd x x') (hu:P.underlying t=some (.struct fs)) (hf:fs[f]? =some fd) (ho:fd.offset=off) (hi:P.info? fd.type=some i) (h0:i.size≠0):MOp P (.fieldAddr t x f) (.fa x' off)
 |fai {t e n x x' off kk} {q:Int} {i:TypeInfo} (hx:MOpd x x') (hu:P.underlying t=some (.array n e)) (hi:P.info? e=some i) (h0:0<=q) (hq:q<(n:Int)) (ho:q.toNat*i.size=off):MOp P (.indexAddr t x (.const (.int kk q))) (.fa x' off)
 |ia {t e x y x' y' z} {i:TypeInfo} (hx:MOpd x x') (hy:MOpd y y') (hu:P.underlying t=some (.slice e)) (hi:P.info? e=some i) (hz:i.size=z):MOp P (.indexAddr t x y) (.ia x' y' z)
 |ext {x x' i} (hx:MOpd x x'):MOp P (.extract x i) (.ext x' i)
 |call {f args args' ts} (hf:f<RL) (h:MArgs args args'):MOp P (.call ⟨.value (.func f),args,ts⟩) (.call f args')
 |calf {f args args' ts} (hf:f<RL) (h:MArgs args args'):MOp P (.call ⟨.value (.func f),args,ts⟩) (.calf f args')
 |cv {f f' args args' ts} (hf:MOpd f f') (h:MArgs args args'):MOp P (.call ⟨.value f,args,ts⟩) (.cv f' args')
 |lenS {x x' t e} (hx:MOpd x x') (hu:P.underlying t=some (.slice e)):MOp P (.call ⟨.builtin .len,#[x],#[t]⟩) (.len x')
 |ap {w t tx e e' x y x' y' z by_ zv} {i:TypeInfo} (hx:MOpd x x') (hy:MOpd y y') (hu:P.underlying t=some (.slice e)) (hu':P.underlying tx=some (.slice e')) (hi:P.info? e=some i) (hz:i.zero=some zv) (hs:i.size=z) (hb:i.bytes=by_) (hzs:zv.cells.size=z) (h0:0<z) (h1:1<=by_):
   MOp P (.call ⟨.builtin .append,#[x,y],#[t,tx]⟩) (.ap w z by_ x' y')
 |bs {w t e z zv} {ps:List Operand} {ps':List Opd} {i:TypeInfo} (hl:ps.length=ps'.length) (hm:∀(j:Nat) x y,ps[j]? =some x->ps'[j]? =some y->MOpd x y) (hu:P.underlying t=some (.slice e)) (hi:P.info? e=some i) (hz:i.zero=some zv) (hs:i.size=z) (hzs:zv.cells.size=z) (h0:0<z) (hlen:ps.length*z<=16777216):
   MOp P (.buildSlice t ps.length (((List.range ps.length).zip ps).toArray)) (.bs w z ps')
 |mk {t e x y x' y' q z by_ zv ze} {i:TypeInfo} (hx:MOpd x x') (hy:MOpd y y') (hu:P.underlying t=some (.slice e)) (hi:P.info? e=some i) (hz:i.zero=some zv) (hs:i.size=z) (hb:i.bytes=by_) (hzs:zv.cells.size=z) (h0:0<z) (h1:1<=by_)
   (hze:ze.cells=zv.cells.toList.map zc) (hze1:zv.cells.toList.all Value.oneCell'=true):MOp P (.makeSlice t x y) (.mk q z by_ ze x' y')
 |bd {t zv z fs} {ps:List (Nat×Operand)} {ps':List (Nat×Nat×Opd)} {i:TypeInfo} (hu:P.underlying t=some (.struct fs)) (hi:P.info? t=some i) (hz:i.zero=some zv) (hzc:zv.cells.toList=z) (hl:ps.length=ps'.length)
   (hm:∀(j:Nat) f x off sz y,ps[j]? =some (f,x)->ps'[j]? =some (off,sz,y)->MOpd x y∧∃(fd:Field) (fi:TypeInfo),fs[f]? =some fd∧fd.offset=off∧P.info? fd.type=some fi∧fi.size=sz) (hall:∀fd∈fs,(P.info? fd.type).isSome):MOp P (.build t ps.toArray) (.bd z ps')
 |slc {t e x x' z} {lo hg:Option Operand} {lo' hg':Option Opd} {i:TypeInfo} (hx:MOpd x x') (hu:P.underlying t=some (.slice e)) (hi:P.info? e=some i) (hs:i.size=z) (hlo:MOpt lo lo') (hhi:MOpt hg hg'):MOp P (.slice t x lo hg none) (.slc z x' lo' hg')
 |eqn {t e x x' t'} (hx:MOpd x x') (hu:P.underlying t=some (.slice e)):MOp P (.binOp .eql t x (.const (.slice none 0 0)) t') (.eqn false x')
 |nen {t e x x' t'} (hx:MOpd x x') (hu:P.underlying t=some (.slice e)):MOp P (.binOp .neq t x (.const (.slice none 0 0)) t') (.eqn true x')
 |eqs {t x y x' y' t'} (hx:MOpd x x') (hy:MOpd y y'):MOp P (.binOp .eql t x y t') (.eqs false x' y')
 |nes {t x y x' y' t'} (hx:MOpd x x') (hy:MOpd y y'):MOp P (.binOp .neq t x y t') (.eqs true x' y')
 |eqb {t x y x' y' t'} (hx:MOpd x x') (hy:MOpd y y') (hu:P.underlying t=some .bool):MOp P (.binOp .eql t x y t') (.eqb false x' y')
 |neb {t x y x' y' t'} (hx:MOpd x x') (hy:MOpd y y') (hu:P.underlying t=some .bool):MOp P (.binOp .neq t x y t') (.eqb true x' y')
 |eqa {t x y x' y' t' z} {fs:Array Field} (hx:MOpd x x') (hy:MOpd y y') (hu:P.underlying t=some (.struct fs)) (hp:P.stoodInHeld t=false) (hq:P.eqGuardType P.depth t=false) (hf:PlainF P 0 fs.toList z):MOp P (.binOp .eql t x y t') (.eqa false z x' y')
 |nea {t x y x' y' t' z} {fs:Array Field} (hx:MOpd x x') (hy:MOpd y y') (hu:P.underlying t=some (.struct fs)) (hp:P.stoodInHeld t=false) (hq:P.eqGuardType P.depth t=false) (hf:PlainF P 0 fs.toList z):MOp P (.binOp .neq t x y t') (.eqa true z x' y')
 |sh {op op' t x y t' x' y'} (ho:MB op op') (hx:MOpd x x') (hy:MOpd y y'):MOp P (.binOp op t x y t') (.sh op' x' y')
 |ci {s t k x x' d} (hx:MOpd x x') (hs:P.underlying s=some d) (hu:P.underlying t=some (.int k)):MOp P (.convert s t x) (.ci k x')
 |mf {f caps caps'} (hf:f<RL) (h:MArgs caps caps'):MOp P (.makeFunc (.func f) #[] caps) (.mf f caps')
 |nck {x x'} (hx:MOpd x x'):MOp P (.nilCheck x) (.nck x')
 |mn {x x' ts} {xs:List Operand} {xs':List Opd} (hx:MOpd x x') (hl:xs.length=xs'.length) (hm:∀(i:Nat) x y,xs[i]? =some x->xs'[i]? =some y->MOpd x y):MOp P (.call ⟨.builtin .min,(x::xs).toArray,ts⟩) (.mm false x' xs')
 |mx {x x' ts} {xs:List Operand} {xs':List Opd} (hx:MOpd x x') (hl:xs.length=xs'.length) (hm:∀(i:Nat) x y,xs[i]? =some x->xs'[i]? =some y->MOpd x y):MOp P (.call ⟨.builtin .max,(x::xs).toArray,ts⟩) (.mm true x' xs')
 |bxo {t x x' u} (h:MOpd x x') (hu:u<RL):MOp P (.box t x) (.bxo u x')
 |mkm {ty}:MOp P (.makeMap ty none) .mkm
 |mkn {ty u} (hu:ML<=u):MOp P (.makeMap ty none) (.mkn u)
 |mlk {ty k e x y x' y'} {i:TypeInfo} (hx:MOpd x x') (hy:MOpd y y') (hu:P.underlying ty=some (.map k e)) (hk:IdKey P k) (hi:P.info? e=some i) (hz:i.zero=some (.bool false)):MOp P (.lookup ty x y false) (.mlk x' y')
 |mup {ty k e x y x' y'} (hx:MOpd x x') (hy:MOpd y y') (hu:P.underlying ty=some (.map k e)) (hk:IdKey P k):MOp P (.mapUpdate ty x y (.const (.bool true))) (.mup x' y')
 |six {x x' y y' t} (hx:MOpd x x') (hy:MOpd y y') (hu:P.underlying t=some .string):MOp P (.index t x y) (.six x' y')
 |lenT {x x' t} (hx:MOpd x x') (hu:P.underlying t=some .string):MOp P (.call ⟨.builtin .len,#[x],#[t]⟩) (.lns x')
 |bst {s t e x x'} (hx:MOpd x x') (hs:P.underlying s=some (.slice e)) (he:P.underlying e=some (.int .u8)) (ht:P.underlying t=some .string):MOp P (.convert s t x) (.bst x')
 |cpy {t tx e x y x' y'} {i:TypeInfo} (hx:MOpd x x') (hy:MOpd y y') (hu:P.underlying t=some (.slice e)) (hi:P.info? e=some i) (hs:i.size=1):MOp P (.call ⟨.builtin .copy,#[x,y],#[t,tx]⟩) (.cpy x' y')
 |pcal {f args args' ts} (hf:f<RL) (h:MArgs args args'):MOp P (.call ⟨.value (.func f),args,ts⟩) (.pcal f args')
def Gives (P:Program) (o:Oper) (g:G) (w:World) (n:Nat) (a:Act) (s:S) (d:D) (s':S):Prop:=
 ∃x w' g',(execOp a.eval o).run P w= .ok (.value x) w'∧SN g' w' n a.tmps s'∧RT g' w' (flyL 0) x d∧Ext s.k g w g' w'∧s'.k=s.k
theorem rd_v {g:G} {w:World} {n:Nat} {a:Act} {s:S} (h:SN g w n a.tmps s) {x:Operand} {x':Opd} (hm:MOpd x x') {y:Value} (hy:(rd x' s).1= .v y):a.eval x=y:=by
 obtain⟨L,hL⟩:=rd_at h hm
 rw[hy]at hL
 exact hL
section
variable {o:Oper} {g:G} {w:World} {n:Nat} {a:Act} {s s':S} {d:D} {call:Caller} {t:Option Nat}
theorem gives_mv {x:Operand} {x':Opd} (ho:o.op= .move x∨o.op= .assign x) (hx:MOpd x x') (h:SN g w n a.tmps s) (he:evOp call t (.mv x') s=some (d,s')):Gives P o g w n a s d s':=by
 simp only[evOp]at he
 injection he with he
 obtain⟨g',h1,h2,h3,_⟩:=rd_fly h hx 0
 rw[he]at h1 h2
 refine⟨a.eval x,w,g',?_,h1,h2,h3,by have:=rd_k x' s;rw[he]at this;exact this⟩
 rcases ho with ho|ho<;>simp[execOp,ho]
theorem gives_pk {c x y:Operand} {c' x' y':Opd} (ho:o.op= .pick c x y) (hc:MOpd c c') (hx:MOpd x x') (hy:MOpd y y') (h:SN g w n a.tmps s) (he:evOp call t (.pk c' x' y') s=some (d,s')):Gives P o g w n a s d s':=by
 simp only[evOp]at he
 split at he
 ·rename_i q hq
  have hcv:=rd_v h hc hq
  injection he with he
  cases q with
  |true=>
   simp only[if_true]at he
   obtain⟨g',h1,h2,h3,_⟩:=rd_fly h hx 0
   rw[he]at h1 h2
   exact⟨a.eval x,w,g',by simp[execOp,ho,hcv,asBool],h1,h2,h3,by have:=rd_k x' s;rw[he]at this;exact this⟩
  |false=>
   simp only[Bool.false_eq_true,if_false]at he
   obtain⟨g',h1,h2,h3,_⟩:=rd_fly h hy 0
   rw[he]at h1 h2
   exact⟨a.eval y,w,g',by simp[execOp,ho,hcv,asBool],h1,h2,h3,by have:=rd_k y' s;rw[he]at this;exact this⟩
 ·cases he
theorem gives_no {x:Operand} {x':Opd} {ty:TypeId} (ho:o.op= .unOp .not ty x) (hx:MOpd x x') (h:SN g w n a.tmps s) (he:evOp call t (.no x') s=some (d,s')):Gives P o g w n a s d s':=by
 simp only[evOp]at he
 split at he
 ·rename_i b hb
  have hv:=rd_v h hx hb
  injection he with he
  injection he with h1 h2
  subst h1 h2
  exact⟨.bool !b,w,g,by simp[execOp,ho,hv,Op.unary],h,rfl,Ext.refl _ _ _,rfl⟩
 ·cases he
theorem gives_bin {op:BinOp} {op':Bop} {ty ty':TypeId} {x y:Operand} {x' y':Opd} (ho:o.op= .binOp op ty x y ty') (hop:MB op op') (hx:MOpd x x') (hy:MOpd y y') (h:SN g w n a.tmps s) (he:evOp call t (.bin op' x' y') s=some (d,s')):Gives P o g w n a s d s':=by
 simp only[evOp]at he
 split at he
 ·rename_i k p k' q h1 h2
  have hv1:=rd_v h hx h1
  have hv2:=rd_v h hy h2
  split at he
  ·rename_i hk
   subst hk
   cases hb:bz op' k p q with
   |none=>rw[hb]at he;cases he
   |some v=>
    rw[hb]at he
    simp only[Option.map_some]at he
    injection he with he
    injection he with e1 e2
    subst e1 e2
    refine⟨v,w,g,?_,h,rfl,Ext.refl _ _ _,rfl⟩
    cases op' with
    |quo=>
     simp only[bz]at hb
     by_cases h0:q=0
     ·rw[if_pos h0]at hb;cases hb
     ·rw[if_neg h0]at hb;injection hb with hb;subst hb
      cases op<;>first|exact hop.elim|simp[execOp,ho,hv1,hv2,Go.eqGuard,Go.binOp,Go.Op.intDiv,h0]
    |rem=>
     simp only[bz]at hb
     by_cases h0:q=0
     ·rw[if_pos h0]at hb;cases hb
     ·rw[if_neg h0]at hb;injection hb with hb;subst hb
      cases op<;>first|exact hop.elim|simp[execOp,ho,hv1,hv2,Go.eqGuard,Go.binOp,Go.Op.intDiv,h0]
    |shl=>simp[bz]at hb
    |shr=>simp[bz]at hb
    |_=>
     simp only[bz]at hb
     injection hb with hb
     subst hb
     cases op<;>first|exact hop.elim|simp[execOp,ho,hv1,hv2,Go.eqGuard,Go.binOp,Go.Op.intArith,Go.Op.intCmp,Go.Op.intBits]
  ·cases he
 ·cases he
theorem gives_ext {x:Operand} {x':Opd} {i:Nat} (ho:o.op= .extract x i) (hx:MOpd x x') (h:SN g w n a.tmps s) (he:evOp call t (.ext x' i) s=some (d,s')):Gives P o g w n a s d s':=by
 have other:∀ds,(rd x' s).1= .tup ds->(ds[i]?).map (fun d=>(d,s))=some (d,s')->(∀d,d∈ds->∀g L L' x,RV g w L x d->RV g w L' x d)->Gives P o g w n a s d s':=by
  intro ds h1 h2 h3
  obtain⟨d0,h4,h5⟩:=Option.map_eq_some_iff.1 h2
  injection h5 with e1 e2
  subst e1 e2
  obtain⟨L,hL⟩:=rd_at h hx
  rw[h1]at hL
  obtain⟨vs,h6,h7,h8⟩:=hL
  obtain⟨y,h9,h10⟩:=h8 i d0 h4
  refine⟨y,w,g,by simp[execOp,ho,Instr.extract,h6,h9],h,?_,Ext.refl _ _ _,rfl⟩
  exact(h3 d0 (List.mem_of_getElem? h4) g (L i) (flyL 0 0) y h10).toRT
 cases hx with
 |m t=>
  simp only[evOp]at he
  split at he
  ·rename_i ds hds
   obtain⟨d0,h4,h5⟩:=Option.map_eq_some_iff.1 he
   injection h5 with e1 e2
   subst e1 e2
   have hL:=h.st.e t
   rw[hds]at hL
   obtain⟨vs,h6,h7,h8⟩:=hL
   obtain⟨y,h9,h10⟩:=h8 i d0 h4
   let ρ:Loc->Loc:=fun ℓ=>if ℓ=slotL s.k t i ℓ.c then flyL 0 0 ℓ.c else ℓ
   have hρ:∀ℓ,ℓ≠slotL s.k t i ℓ.c->ρ ℓ=ℓ:=fun ℓ hl=>by simp only[ρ,if_neg hl]
   have hρ':∀c,ρ (slotL s.k t i c)=flyL 0 0 c:=fun c=>by simp[ρ,slotL]
   have hd2:RV (g.mv ρ) w (flyL 0 0) y d0:=h10.keep fun c=>g.mv_keep' w ρ (hρ' c)
   have hi:=getq_lt h4
   refine⟨y,w,g.mv ρ,?_,⟨⟨h.st.inv.mv _,h.st.sb.mv _ fun f b c=>hρ _ (by simp[boxL,slotL]),fun t'=>?_⟩,h.size⟩,?_,g.mv_ext w _ _ fun ℓ h0 hk=>hρ _ fun e=>by rw[e]at hk;simp[slotL]at hk,rfl⟩
   ·have:a.eval (.tmp t)= .tuple vs:=h6
    simp[execOp,ho,Instr.extract,this,h9]
   ·show RT _ _ (slotL s.k t') _ (get t' ((t,_)::s.e))
    by_cases e:t'=t
    ·subst e
     simp only[get,if_true]
     refine⟨vs,h6,by simpa using h7,fun i' d' hd'=>?_⟩
     rw[List.getElem?_set]at hd'
     by_cases ei:i=i'
     ·subst ei
      simp only[if_true,hi]at hd'
      injection hd' with hd'
      subst hd'
      exact⟨y,h9,hd2.strip _⟩
     ·simp only[if_neg ei]at hd'
      obtain⟨y',h11,h12⟩:=h8 i' d' hd'
      refine⟨y',h11,h12.keep fun c=>g.mv_keep' w _ (hρ _ fun e=>?_)⟩
      simp[slotL]at e
      exact ei e.symm
    ·simp only[get,if_neg e]
     exact(h.st.e t').keep fun i c=>g.mv_keep' w _ (hρ _ fun e'=>by simp[slotL]at e';exact e e'.1)
   ·exact hd2.toRT
  ·cases he
 |t m=>
  simp only[evOp]at he
  split at he
  ·rename_i ds hds
   refine other ds hds he fun d hd g L L' x hv=>?_
   simp only[rd]at hds
   rcases tup_or (get m s.e)with⟨es,h1⟩|h1
   ·rw[h1]at hds
    simp only[D.strip]at hds
    injection hds with hds
    subst hds
    obtain⟨d0,_,rfl⟩:=List.mem_map.1 hd
    have h2:d0.strip2.strip2=d0.strip2:=by
     rcases agg_or d0 with⟨cs,rfl⟩|hh
     ·simp only[D.strip2,List.map_map,D.agg.injEq]
      refine List.map_congr_left fun c _=>?_
      cases c with
      |sl m z xs=>cases m<;>rfl
      |_=>rfl
     ·rw[strip2_ne hh,strip2_ne strip1_agg]
      cases d0 with
      |sl m z xs=>cases m<;>rfl
      |_=>rfl
    rw[<-h2]
    exact hv.strip L'
   ·rw[strip_ne h1]at hds
    have:=strip2_tup (d:=get m s.e)
    rw[hds]at this
    cases this
  ·cases he
 |c x=>simp[evOp,rd]at he
 |cn=>simp[evOp,rd]at he
 |f m=>simp[evOp,rd]at he
theorem RC.slice {ℓ:Loc} {x:Value} {m:Mode} {z:Nat} {xs:List D} (hr:RC g w ℓ x (.sl m z xs)):∃b cap,x= .slice b xs.length cap:=by
 cases m with
 |nl=>cases(show RF w g.fr x (.sl .nl z xs)from hr)with|nl z=>exact⟨none,0,rfl⟩
 |ro=>cases(show RF w g.fr x (.sl .ro z xs)from hr)with|ro b off cap z xs val=>exact⟨_,cap,rfl⟩|z a z=>exact⟨_,0,rfl⟩
 |app=>obtain⟨b,off,cap,cur,e,val,h1,_⟩:=(show Own g w _ x .app z xs from hr);exact⟨_,cap,h1⟩
 |mu=>obtain⟨b,off,cap,cur,e,val,h1,_⟩:=(show Own g w _ x .mu z xs from hr);exact⟨_,cap,h1⟩
theorem gives_len {x:Operand} {x':Opd} {ty e:TypeId} (ho:o.op= .call ⟨.builtin .len,#[x],#[ty]⟩) (hu:P.underlying ty=some (.slice e)) (hx:MOpd x x') (h:SN g w n a.tmps s) (he:evOp call t (.len x') s=some (d,s')):Gives P o g w n a s d s':=by
 obtain⟨L,hL⟩:=rd_at h hx
 simp only[evOp]at he
 split at he
 ·rename_i m z xs hxs
  rw[hxs]at hL
  injection he with he
  injection he with e1 e2
  subst e1 e2
  obtain⟨b,cap,hv⟩:=RC.slice (show RC g w (L 0 0) (a.eval x) (.sl m z xs)from hL)
  exact⟨.int .i64 xs.length,w,g,by simp[execOp,ho,resolve,invoke,builtin,Builtin.len_,run_underlying hu,hv,goInt],h,rfl,Ext.refl _ _ _,rfl⟩
 ·rename_i f b off m z hxs
  rw[hxs]at hL
  injection he with he
  injection he with e1 e2
  subst e1 e2
  obtain⟨_,blk,cap,off',h1,hv,_⟩:=(show RC g w (L 0 0) (a.eval x) (.ref f b off m z)from hL)
  exact⟨.int .i64 m,w,g,by simp[execOp,ho,resolve,invoke,builtin,Builtin.len_,run_underlying hu,hv,goInt],h,rfl,Ext.refl _ _ _,rfl⟩
 ·cases he
theorem gives_lns {x:Operand} {x':Opd} {ty:TypeId} (ho:o.op= .call ⟨.builtin .len,#[x],#[ty]⟩) (hu:P.underlying ty=some .string) (hx:MOpd x x') (h:SN g w n a.tmps s) (he:evOp call t (.lns x') s=some (d,s')):Gives P o g w n a s d s':=by
 simp only[evOp]at he
 split at he
 ·rename_i b hb
  have hv:=rd_v h hx hb
  injection he with he
  injection he with e1 e2
  subst e1 e2
  exact⟨.int .i64 b.size,w,g,by simp[execOp,ho,resolve,invoke,builtin,Builtin.len_,run_underlying hu,hv,goInt],h,rfl,Ext.refl _ _ _,rfl⟩
 ·cases he
theorem gives_six {x y:Operand} {x' y':Opd} {ty:TypeId} (ho:o.op= .index ty x y) (hu:P.underlying ty=some .string) (hx:MOpd x x') (hy:MOpd y y') (h:SN g w n a.tmps s) (he:evOp call t (.six x' y') s=some (d,s')):Gives P o g w n a s d s':=by
 simp only[evOp]at he
 split at he
 ·rename_i b k m hb hm
  have hv:=rd_v h hx hb
  have hw:=rd_v h hy hm
  split at he
  ·rename_i h0
   obtain⟨c,h1,h2⟩:=Option.map_eq_some_iff.1 he
   injection h2 with e1 e2
   subst e1 e2
   exact⟨.int .u8 c.toNat,w,g,by simp[execOp,ho,Instr.index,asIntOf,run_underlying hu,hv,hw,h0,h1],h,rfl,Ext.refl _ _ _,rfl⟩
  ·cases he
 ·cases he
theorem run_fieldAt' {ty:TypeId} {fs:Array Field} {f off:Nat} {fd:Field} {i:TypeInfo} (hu:P.underlying ty=some (.struct fs)) (hf:fs[f]? =some fd) (ho:fd.offset=off) (hi:P.info? fd.type=some i) (h0:i.size≠0) (w:World) (b o:Nat):
  (Instr.fieldAt ty (.pointer (some ⟨b,o,none⟩)) f).run P w= .ok (.pointer (some ⟨b,o+off,none⟩)) w:=by
 simp[Instr.fieldAt,run_underlying hu,hf,Instr.sureAddr,fieldPlace,run_sizeOf' hi,h0,ho,add_lit]
theorem gives_fa {x:Operand} {x':Opd} {ty:TypeId} {fs:Array Field} {f off:Nat} {fd:Field} {i:TypeInfo} (ho:o.op= .fieldAddr ty x f) (hx:MOpd x x') (hu:P.underlying ty=some (.struct fs)) (hf:fs[f]? =some fd) (hoff:fd.offset=off) (hi:P.info? fd.type=some i) (h0:i.size≠0)
  (h:SN g w n a.tmps s) (he:evOp call t (.fa x' off) s=some (d,s')):Gives P o g w n a s d s':=by
 obtain⟨L,hL⟩:=rd_at h hx
 simp only[evOp]at he
 split at he
 ·rename_i fr b off0 hx1
  rw[hx1]at hL
  injection he with he
  injection he with e1 e2
  subst e1 e2
  obtain⟨hRL,blk,h1,h2⟩:=(show RP g w (a.eval x) (.ptr fr b off0)from hL)
  refine⟨_,w,g,by simp[execOp,ho,h2,run_fieldAt' hu hf hoff hi h0],h,(show RP g w _ (.ptr fr b (off0+off))from⟨hRL,blk,h1,rfl⟩),Ext.refl _ _ _,rfl⟩
 ·rename_i cs off0 hx1
  rw[hx1]at hL
  injection he with he
  injection he with e1 e2
  subst e1 e2
  obtain⟨blk,o0,val,h1,h2,h3⟩:=(show RP g w (a.eval x) (.fptr cs off0)from hL)
  refine⟨.pointer (some ⟨blk,o0+off0+off,none⟩),w,g,by simp[execOp,ho,h1,run_fieldAt' hu hf hoff hi h0],h,(show RP g w _ (.fptr cs (off0+off))from⟨blk,o0,val,by rw[Nat.add_assoc],h2,h3⟩),Ext.refl _ _ _,rfl⟩
 ·cases he
theorem run_indexConst {t e:TypeId} {n:Nat} {i:TypeInfo} {kk:IntKind} {q:Int} (hu:P.underlying t=some (.array n e)) (hi:P.info? e=some i) (h0:0<=q) (hq:q<(n:Int)) (w:World) (b o:Nat):
  (Instr.indexAt t (.pointer (some ⟨b,o,none⟩)) (.int kk q)).run P w= .ok (.pointer (some ⟨b,o+q.toNat*i.size,none⟩)) w:=by
 unfold Instr.indexAt
 simp[asIntOf,Instr.sureAddr,run_underlying hu,run_sizeOf' hi,h0,hq,Addr.add]
theorem gives_fai {x:Operand} {x':Opd} {ty e:TypeId} {n0 off:Nat} {kk:IntKind} {q:Int} {i:TypeInfo} (ho:o.op= .indexAddr ty x (.const (.int kk q))) (hx:MOpd x x') (hu:P.underlying ty=some (.array n0 e)) (hi:P.info? e=some i) (h0:0<=q) (hq:q<(n0:Int)) (hoff:q.toNat*i.size=off)
  (h:SN g w n a.tmps s) (he:evOp call t (.fa x' off) s=some (d,s')):Gives P o g w n a s d s':=by
 obtain⟨L,hL⟩:=rd_at h hx
 simp only[evOp]at he
 have hev:a.eval (.const (.int kk q))= .int kk q:=rfl
 split at he
 ·rename_i fr b off0 hx1
  rw[hx1]at hL
  injection he with he
  injection he with e1 e2
  subst e1 e2
  obtain⟨hRL,blk,h1,h2⟩:=(show RP g w (a.eval x) (.ptr fr b off0)from hL)
  refine⟨_,w,g,by simp[execOp,ho,h2,hev,run_indexConst hu hi h0 hq,hoff],h,(show RP g w _ (.ptr fr b (off0+off))from⟨hRL,blk,h1,rfl⟩),Ext.refl _ _ _,rfl⟩
 ·rename_i cs off0 hx1
  rw[hx1]at hL
  injection he with he
  injection he with e1 e2
  subst e1 e2
  obtain⟨blk,o0,val,h1,h2,h3⟩:=(show RP g w (a.eval x) (.fptr cs off0)from hL)
  refine⟨.pointer (some ⟨blk,o0+off0+off,none⟩),w,g,by simp[execOp,ho,h1,hev,run_indexConst hu hi h0 hq,hoff],h,(show RP g w _ (.fptr cs (off0+off))from⟨blk,o0,val,by rw[Nat.add_assoc],h2,h3⟩),Ext.refl _ _ _,rfl⟩
 ·cases he
theorem RC.elem {ℓ:Loc} {x:Value} {m:Mode} {z:Nat} {xs:List D} (hr:RC g w ℓ x (D.sl m z xs).strip1) {i:Nat} {d:D} (hi:xs[i]? =some d) (hm:m≠ .mu):
  ∃b off cap,x= .slice (some ⟨b,off,none⟩) xs.length cap∧d.cells.length=z∧off+i*z+z<=g.fr b∧∀(j:Nat) c,d.cells[j]? =some c->∃y,w.cell? ⟨b,off+i*z+j,none⟩=some y∧RF w g.fr y c:=by
 have main:RF w g.fr x (.sl .ro z xs)->∃b off cap,x= .slice (some ⟨b,off,none⟩) xs.length cap∧d.cells.length=z∧off+i*z+z<=g.fr b∧∀(j:Nat) c,d.cells[j]? =some c->∃y,w.cell? ⟨b,off+i*z+j,none⟩=some y∧RF w g.fr y c:=by
  intro hf
  cases hf with
  |z a z=>simp at hi
  |ro b off cap z xs val h1 h2 h3 h4 h5 h6=>
   rcases h3 with rfl|h3
   ·simp at hi
   refine⟨b,off,cap,rfl,h4 i d hi,?_,fun j c hc=>⟨_,h5 i d j c hi hc,h6 i d j c hi hc⟩⟩
   have hl:=getq_lt hi
   have:(i+1)*z<=xs.length*z:=Nat.mul_le_mul_right z hl
   rw[Nat.add_mul,Nat.one_mul]at this
   omega
 cases m with
 |nl=>
  cases(show RF w g.fr x (.sl .nl z xs)from hr)with
  |nl z=>simp at hi
 |ro=>exact main hr
 |app=>exact main hr
 |mu=>exact absurd rfl hm
theorem gives_ia {x y:Operand} {x' y':Opd} {ty e:TypeId} {z:Nat} {i:TypeInfo} (ho:o.op= .indexAddr ty x y) (hx:MOpd x x') (hy:MOpd y y') (hu:P.underlying ty=some (.slice e)) (hi:P.info? e=some i) (hz:i.size=z)
  (h:SN g w n a.tmps s) (he:evOp call t (.ia x' y' z) s=some (d,s')):Gives P o g w n a s d s':=by
 obtain⟨L,hL⟩:=rd_at h hx
 simp only[evOp]at he
 split at he
 ·rename_i m z' xs k iv h1 h2
  have hv:=rd_v h hy h2
  rw[h1]at hL
  split at he
  ·rename_i hc
   obtain⟨hzz,h0,hm⟩:=hc
   subst hzz
   obtain⟨d0,h4,h5⟩:=Option.map_eq_some_iff.1 he
   injection h5 with e1 e2
   subst e1 e2
   have hr:=(show RC g w (L 0 0) (a.eval x) (.sl m z xs)from hL).strip (L 0 0)
   obtain⟨b,off,cap,h6,h7,h8,h9⟩:=hr.elem h4 (by simpa using hm)
   obtain⟨ys,h10,h11⟩:=choose_cells h9
   obtain⟨q,rfl⟩:=Int.eq_ofNat_of_zero_le h0
   have hlt:=getq_lt h4
   rw[Int.toNat_natCast]at hlt h8 h9 h11
   refine⟨.pointer (some ⟨b,off+q*z,none⟩),w,g,?_,h,?_,Ext.refl _ _ _,rfl⟩
   ·simp[execOp,ho,hv,h6,Instr.indexAt,asIntOf,run_underlying hu,run_sizeOf' hi,hz,hlt,add_lit]
   ·refine(show RP g w _ (.fptr d0.cells 0)from⟨b,off+q*z,fun j=>ys.getD j undef,rfl,by omega,fun j c hj=>?_⟩)
    obtain⟨y,h12,h13,h14⟩:=h11 j c hj
    have:ys.getD j undef=y:=by simp[List.getD,h12]
    simp only[this]
    exact⟨h13,h14⟩
  ·cases he
 ·rename_i f b off m z' k iv h1 h2
  have hv:=rd_v h hy h2
  rw[h1]at hL
  split at he
  ·rename_i hc
   obtain⟨hzz,h0,hlt⟩:=hc
   subst hzz
   injection he with he
   injection he with e1 e2
   subst e1 e2
   obtain⟨hRL,blk,cap,off',h3,h4,_,_,h5⟩:=(show RC g w (L 0 0) (a.eval x) (.ref f b off m z)from hL)
   obtain⟨q,rfl⟩:=Int.eq_ofNat_of_zero_le h0
   rw[Int.toNat_natCast]
   have hlt':q<m:=by omega
   have h5:off'=off:=by omega
   subst h5
   refine⟨.pointer (some ⟨blk,off'+q*z,none⟩),w,g,?_,h,(show RP g w _ (.ptr f b (off'+q*z))from⟨hRL,blk,h3,rfl⟩),Ext.refl _ _ _,rfl⟩
   simp[execOp,ho,hv,h4,Instr.indexAt,asIntOf,run_underlying hu,run_sizeOf' hi,hz,hlt',add_lit]
  ·cases he
 ·cases he
end
end Go.Proofs.Ytfopbiiffiickaa.Ev
namespace Go.Proofs.Ytfopbiiffiickaa.Ev
open Go
variable {P:Program}
structure Wr (g:G) (w:World) (b:Nat) (w':World):Prop where
 os:w'.os=w.os
 tape:w'.tape=w.tape
 output:w'.output=w.output
 size:w'.heap.size=w.heap.size
 same:∀b',b'≠b->w'.heap[b']? =w.heap[b']?
 base:g.base<=b
 fr:g.fr b=0
 tk:g.tk b=none
 dm:g.dm b=false
 sz:Gr w w'
theorem Wr.cell {g:G} {w w':World} {b:Nat} (h:Wr g w b w'):∀b' o,o<g.fr b'->w'.cell? ⟨b',o,none⟩=w.cell? ⟨b',o,none⟩:=fun b' o ho=>cell_of_block (h.same b' fun e=>by rw[e,h.fr]at ho;omega)
theorem Wr.keep {g:G} {w w':World} {b:Nat} (h:Wr g w b w') (ℓ:Loc):Keep g w ℓ g w' ℓ:=
 ⟨h.cell,fun _=>Nat.le_refl _,fun _ _ _ h=>h,fun b' hb=>⟨hb,rfl,h.same b' fun e=>by rw[e,h.tk]at hb;cases hb⟩,h.sz⟩
theorem Wr.ext {g:G} {w w':World} {b:Nat} (h:Wr g w b w') (k:Nat):Ext k g w g w':=
 ⟨rfl,h.os,h.tape,h.output,by rw[h.size];exact Nat.le_refl _,fun b' hb=>h.same b' fun e=>by have:=h.base;omega,fun _=>Nat.le_refl _,h.cell,fun _ _ _ _ h=>h,fun b' ℓ hb _ _=>⟨hb,rfl,h.same b' fun e=>by rw[e,h.tk]at hb;cases hb⟩,fun _ h=>h,h.sz⟩
theorem Wr.inv {g:G} {w w':World} {b:Nat} (h:Wr g w b w') (hi:Inv g w):Inv g w' where
 base:=by rw[h.size];exact hi.base
 fresh:=fun b' hb=>hi.fresh b' (by rw[h.size]at hb;exact hb)
 box:=fun f s b' hb=>by rw[h.size];exact hi.box f s b' hb
 inj:=hi.inj
 tk:=hi.tk
 cells:=fun b' o ho=>by rw[h.cell b' o ho];exact hi.cells b' o ho
 dm:=fun b' hb=>⟨(hi.dm b' hb).1,(h.same b' fun e=>by rw[e,h.dm]at hb;cases hb).trans (hi.dm b' hb).2⟩
 dt:=hi.dt
theorem gr_setRow {w:World} {b:Nat} {cs0 cs:Array Value} {e:TypeId} {q:Nat×Nat} (h:w.heap[b]? =some (.cells cs0 e q)) (hs:cs0.size<=cs.size):Gr w (w.setRow b cs):=fun b' o hc=>by
 by_cases e':b'=b
 ·subst e'
  rw[cell_setRow_same w b' o cs0 cs _ _ h]
  simp only[World.cell?,h]at hc
  have:o<cs0.size:=by simpa using hc
  have:o<cs.size:=by omega
  simp[this]
 ·rw[cell_setRow_other w b cs ⟨b',o,none⟩ e'];exact hc
theorem wr_setRow {g:G} {w:World} {b:Nat} {cs0:Array Value} {e:TypeId} {q:Nat×Nat} (cs:Array Value) (hb:g.base<=b) (hf:g.fr b=0) (ht:g.tk b=none) (hd:g.dm b=false) (h0:w.heap[b]? =some (.cells cs0 e q)) (hs:cs0.size<=cs.size):Wr g w b (w.setRow b cs):=
 ⟨rfl,rfl,rfl,by simp[World.setRow],fun b' hb'=>setRow_other w b b' cs hb',hb,hf,ht,hd,gr_setRow h0 hs⟩
section
variable {o:Oper} {g:G} {w:World} {n:Nat} {a:Act} {s s':S} {d:D} {call:Caller} {t:Option Nat}
theorem RF.toRC {x:Value} {d:D} (ℓ:Loc) (h:RF w g.fr x d):RC g w ℓ x d:=by
 cases h with
 |v x hx=>exact rfl
 |nl z=>exact(show RF w g.fr _ (.sl .nl z [])from .nl z)
 |z b z=>exact(show RF w g.fr _ (.sl .ro z [])from .z b z)
 |ro b off cap z xs val h1 h2 h3 h4 h5 h6=>exact(show RF w g.fr _ (.sl .ro z xs)from .ro b off cap z xs val h1 h2 h3 h4 h5 h6)
theorem rd_ptr (h:SN g w n a.tmps s) {x:Operand} {x':Opd} (hm:MOpd x x') {f b off:Nat} (hy:(rd x' s).1= .ptr f b off):b<RL∧∃blk,g.bx f b=some blk∧a.eval x= .pointer (some ⟨blk,off,none⟩):=by
 obtain⟨L,hL⟩:=rd_at h hm
 rw[hy]at hL
 exact hL
theorem gives_ld {p:Operand} {p':Opd} {ty:TypeId} {q:Option Nat} (ho:o.op= .load ty p) (hp:MOpd p p') (hs:Sz P ty q) (h:SN g w n a.tmps s) (he:evOp call t (.ld q p') s=some (d,s')):Gives P o g w n a s d s':=by
 simp only[evOp]at he
 split at he
 ·rename_i f b off hptr
  obtain⟨hRL,blk,h1,h2⟩:=rd_ptr h hp hptr
  split at he
  ·rename_i ds hds
   obtain⟨d0,h3,h4⟩:=Option.map_eq_some_iff.1 he
   injection h4 with e1 e2
   subst e1 e2
   obtain⟨blk',h5,h6⟩:=box_cell ((h.st.sb.rel f b ds (bx_bxl hds)).c hRL)
   rw[h1]at h5
   injection h5 with h5
   subst h5
   obtain⟨x,h7,h8⟩:=load_ok hs h6 h3
   refine⟨x,w,g,by simp[execOp,ho,Instr.loadAt,h2,Instr.sureAddr,h7],h,?_,Ext.refl _ _ _,rfl⟩
   cases q with
   |none=>
    have:RC g w (flyL 0 0 0) x d0.strip1:=RC.strip _ h8
    rcases tup_or d0 with⟨es,rfl⟩|hd
    ·exact(show False from h8).elim
    ·rcases agg_or d0 with⟨es,rfl⟩|hd'
     ·exact(show False from h8).elim
     ·rw[strip_ne hd,strip2_ne hd',RT_ne strip1_tup,RV_ne strip1_agg]
      exact this
   |some m=>
    obtain⟨cs,rfl,h9,es,rfl,h10,h11⟩:=h8
    refine⟨cs,rfl,by simp[h9,h10],fun c e hc=>?_⟩
    rw[List.getElem?_map]at hc
    obtain⟨e0,h12,rfl⟩:=Option.map_eq_some_iff.1 hc
    obtain⟨_,y,h13,h14⟩:=h11 c e0 h12
    exact⟨y,h13,h14.strip _⟩
  ·cases he
 ·rename_i cs0 off hptr
  obtain⟨L,hL⟩:=rd_at h hp
  rw[hptr]at hL
  obtain⟨blk,o0,val,h1,h2,h3⟩:=(show RP g w (a.eval p) (.fptr cs0 off)from hL)
  obtain⟨d0,h4,h5⟩:=Option.map_eq_some_iff.1 he
  injection h5 with e1 e2
  subst e1 e2
  cases q with
  |none=>
   obtain⟨u,h6,h7⟩:=hs
   obtain⟨h8,h9⟩:=h3 off d0 h4
   refine⟨val off,w,g,by simp[execOp,ho,Instr.loadAt,h1,Instr.sureAddr,run_load1 h6 h7 h8],h,?_,Ext.refl _ _ _,rfl⟩
   exact RV.toRT (RC.toRV (h9.toRC _))
  |some m=>
   obtain⟨u,i,h6,h7,h8,h9⟩:=hs
   simp only[pick]at h4
   split at h4
   ·rename_i hle
    injection h4 with h4
    subst h4
    have hl:((List.range m).map fun j=>val (off+j)).length=i.size:=by simp[h9]
    refine⟨.agg ((List.range m).map fun j=>val (off+j)).toArray,w,g,?_,h,?_,Ext.refl _ _ _,rfl⟩
    ·have:=run_loadN (P:=P) h6 h7 h8 (w:=w) (b:=blk) (o:=o0+off) hl fun j v hj=>by
      have hjl:=getq_lt hj
      simp at hjl
      simp[hjl]at hj
      subst hj
      have hc:=(h3 (off+j) _ (List.getElem?_eq_getElem (by omega))).1
      rw[Nat.add_assoc];exact hc
     simp[execOp,ho,Instr.loadAt,h1,Instr.sureAddr,this]
    ·refine⟨_,rfl,by simp;omega,fun c e hc=>?_⟩
     rw[take_drop_get]at hc
     split at hc
     ·rename_i hcm
      refine⟨val (off+c),by simp[hcm],?_⟩
      exact(h3 _ _ hc).2.toRC _
     ·cases hc
   ·cases h4
 ·cases he
end
theorem lk_sb {b b':Nat} {ds:List D} {L:Bx}:lk b' (sb b ds L)=if b'=b then(lk b L).map fun _=>ds else lk b' L:=by
 induction L with
 |nil=>simp[sb,lk]
 |cons p r ih=>
  obtain⟨c,es⟩:=p
  unfold sb
  by_cases h:b=c
  ·subst h
   by_cases h':b'=b
   ·subst h';simp[lk]
   ·simp[lk,h']
  ·simp only[if_neg h,lk]
   by_cases h':b'=c
   ·subst h';simp;intro e;exact absurd e.symm h
   ·simp only[if_neg h',ih]
theorem B_sbx {f b:Nat} {ds ds0:List D} {s:S} (h:Ev.bx f b s=some ds0) (f' b':Nat):bxl (sbx f b ds s).B f' b'=if f'=f∧b'=b then some ds else bxl s.B f' b':=by
 unfold Ev.bx at h
 unfold sbx
 split at h
 ·rename_i hf
  subst hf
  simp only[if_true,bxl,S.B,S.wl]
  by_cases e:f'=s.o.length
  ·subst e
   simp only[List.getElem?_append_right (Nat.le_refl _),Nat.sub_self,List.getElem?_cons_zero,Option.bind_some,lk_sb,true_and]
   by_cases e':b'=b
   ·subst e';simp[h]
   ·simp[e']
  ·simp only[e,false_and,if_false]
   rcases Nat.lt_or_ge f' s.o.length with hl|hl
   ·rw[List.getElem?_append_left hl,List.getElem?_append_left hl]
   ·rw[List.getElem?_append_right hl,List.getElem?_append_right hl]
    have:f'-s.o.length=(f'-s.o.length-1)+1:=by omega
    rw[this];simp
 ·rename_i hf
  cases ho:s.o[f]? with
  |none=>rw[ho]at h;cases h
  |some L=>
   rw[ho]at h
   have hl:=getq_lt ho
   simp only[if_neg hf,bxl,S.B,S.wo]
   by_cases e:f'=f
   ·subst e
    rw[List.getElem?_append_left (by simpa using hl),List.getElem?_append_left hl,List.getElem?_modify,ho]
    simp only[Option.map_eq_map,Option.map_some,if_true,Option.bind_some,lk_sb,true_and]
    by_cases e':b'=b
    ·subst e';simp only[if_true];rw[show lk b' L=some ds0 from h];rfl
    ·simp[e']
   ·simp only[e,false_and,if_false]
    rcases Nat.lt_or_ge f' s.o.length with hl|hl
    ·rw[List.getElem?_append_left (by simpa using hl),List.getElem?_append_left hl,List.getElem?_modify]
     have:¬ f=f':=fun e'=>e e'.symm
     simp[this]
    ·rw[List.getElem?_append_right (by simpa using hl),List.getElem?_append_right hl];simp
theorem sbx_k (f b:Nat) (ds:List D) (s:S):(sbx f b ds s).k=s.k:=by
 unfold sbx
 split<;>simp[S.k,S.wl,S.wo]
theorem sbx_e (f b:Nat) (ds:List D) (s:S):(sbx f b ds s).e=s.e:=by
 unfold sbx
 split<;>rfl
end Go.Proofs.Ytfopbiiffiickaa.Ev
namespace Go.Proofs.Ytfopbiiffiickaa.Ev
open Go
variable {P:Program}
theorem Keep.trans {g g1 g2:G} {w w1 w2:World} {ℓ ℓ1 ℓ2:Loc} (h:Keep g w ℓ g1 w1 ℓ1) (h':Keep g1 w1 ℓ1 g2 w2 ℓ2):Keep g w ℓ g2 w2 ℓ2 where
 cell:=fun b o ho=>(h'.cell b o (Nat.lt_of_lt_of_le ho (h.fr b))).trans (h.cell b o ho)
 fr:=fun b=>Nat.le_trans (h.fr b) (h'.fr b)
 bx:=fun f s b hb=>h'.bx f s b (h.bx f s b hb)
 tk:=fun b hb=>by
  obtain⟨a1,a2,a3⟩:=h.tk b hb
  obtain⟨b1,b2,b3⟩:=h'.tk b a1
  exact⟨b1,b2.trans a2,b3.trans a3⟩
 sz:=h.sz.trans h'.sz
theorem RC.one {g:G} {w:World} {ℓ:Loc} {x:Value} {d:D} (h:RC g w ℓ x d) (hs:d.sto1=true):x.oneCell'=true:=by
 cases d with
 |v y=>rw[show x=y from h];exact hs
 |sl m z xs=>obtain⟨b,cap,rfl⟩:=h.slice;rfl
 |ptr f s off=>obtain⟨_,b,_,rfl⟩:=(show RP g w x (.ptr f s off)from h);rfl
 |yld f s=>obtain⟨_,l,_,rfl⟩:=h;split<;>rfl
 |ref f s off n z=>obtain⟨_,b,cap,_,_,rfl,_⟩:=h;rfl
 |fptr cs off=>obtain⟨b,o,val,rfl,_⟩:=(show RP g w x (.fptr cs off)from h);rfl
 |clo fn caps=>obtain⟨_,vs,rfl,_⟩:=h;rfl
 |_=>cases hs
theorem cells_one {x:Value} (h:x.oneCell'=true):x.cells= #[x]:=by cases x<;>first|rfl|cases h
theorem RV.cells {g:G} {w:World} {L:Nat->Loc} {x:Value} {d:D} (h:RV g w L x d) (hs:d.cells.all D.sto1=true):
  x.cells.size=d.cells.length∧(∀(c:Nat) e,d.cells[c]? =some e->∃y,x.cells[c]? =some y∧RC g w (L c) y e)∧∀v∈x.cells.toList,v.oneCell'=true:=by
 rcases agg_or d with⟨ds,rfl⟩|hd
 ·obtain⟨cs,rfl,h2,h3⟩:=h
  refine⟨h2,h3,fun v hv=>?_⟩
  obtain⟨c,hc⟩:=List.mem_iff_getElem?.1 hv
  have hl:=getq_lt hc
  have hl':c<ds.length:=by rw[<-h2];simpa[Value.cells]using hl
  obtain⟨y,h4,h5⟩:=h3 c _ (List.getElem?_eq_getElem hl')
  have:y=v:=by
   have h6:cs[c]? =some v:=by simpa[Value.cells]using hc
   rw[h6]at h4;injection h4 with h4;exact h4.symm
  subst this
  exact h5.one (List.all_eq_true.1 hs _ (List.getElem_mem _))
 ·rw[RV_ne hd]at h
  have hc:d.cells=[d]:=by cases d<;>first|rfl|cases hd
  rw[hc]at hs ⊢
  have h1:=h.one (by simpa using hs)
  rw[cells_one h1]
  refine⟨rfl,fun c e hce=>?_,fun v hv=>by simp at hv;subst hv;exact h1⟩
  cases c with
  |zero=>simp at hce;subst hce;exact⟨x,rfl,h⟩
  |succ c=>simp at hce
theorem over_get {ds cs:List D} {off c:Nat} (h:off+cs.length<=ds.length):(over ds off cs)[c]? =if c<off then ds[c]? else if c<off+cs.length then cs[c-off]? else ds[c]? :=by
 unfold over
 have h1:(ds.take off).length=off:=by simp;omega
 rw[List.append_assoc]
 by_cases a:c<off
 ·rw[List.getElem?_append_left (by omega),List.getElem?_take,if_pos a,if_pos a]
 ·rw[List.getElem?_append_right (by omega),h1,if_neg a]
  by_cases b:c<off+cs.length
  ·rw[List.getElem?_append_left (by omega),if_pos b]
  ·rw[List.getElem?_append_right (by omega),List.getElem?_drop,if_neg b]
   congr 1;omega
theorem over_length {ds cs:List D} {off:Nat} (h:off+cs.length<=ds.length):(over ds off cs).length=ds.length:=by
 unfold over;simp;omega
theorem overV_get {ds:Array Value} {cs:List Value} {off c:Nat} (h:off+cs.length<=ds.size):(ds.toList.take off++cs++ds.toList.drop (off+cs.length)).toArray[c]? =if c<off then ds[c]? else if c<off+cs.length then cs[c-off]? else ds[c]? :=by
 have h1:(ds.toList.take off).length=off:=by simp;omega
 rw[List.getElem?_toArray,List.append_assoc]
 by_cases a:c<off
 ·rw[List.getElem?_append_left (by omega),List.getElem?_take,if_pos a,if_pos a,Array.getElem?_toList]
 ·rw[List.getElem?_append_right (by omega),h1,if_neg a]
  by_cases b:c<off+cs.length
  ·rw[List.getElem?_append_left (by omega),if_pos b]
  ·rw[List.getElem?_append_right (by omega),List.getElem?_drop,if_neg b,Array.getElem?_toList]
   congr 1;omega
theorem mem_over {ds cs:List D} {off:Nat} {d:D} (h:d∈over ds off cs):d∈ds∨d∈cs:=by
 unfold over at h
 rcases List.mem_append.1 h with h|h
 ·rcases List.mem_append.1 h with h|h
  ·exact .inl (List.mem_of_mem_take h)
  ·exact .inr h
 ·exact .inl (List.mem_of_mem_drop h)
theorem bnd2_cells {k:Nat} {d:D} (h:d.bnd2 k=true):∀c∈d.cells,c.bnd1 k=true:=by
 cases d with
 |agg cs=>exact List.all_eq_true.1 h
 |_=>intro c hc;simp[D.cells]at hc;subst hc;exact h
theorem bnd2_tup {k:Nat} {d:D} (h:d.bnd2 k=true):d.tupB=false:=by cases d<;>first|rfl|cases h
section
variable {o:Oper} {g:G} {w:World} {n:Nat} {a:Act} {s s':S} {d:D} {call:Caller} {t:Option Nat}
theorem write_ok {f b off:Nat} {ds:List D} {x:Value} {e:D} {tmps:Array Value} (h:SN g w n tmps s) (hds:Ev.bx f b s=some ds) (hx:RV g w (flyL 0 0) x e)
  (hRL:b<RL) (hlen:off+e.cells.length<=ds.length) (hb:e.bnd2 (f+1)=true) (hs:e.cells.all D.sto1=true) {blk:Nat} (hblk:g.bx f b=some blk):
  ∃g' w',(storeCells ⟨blk,off,none⟩ x.cells.toList).run P w= .ok () w'∧SN g' w' n tmps (sbx f b (over ds off e.cells) s)∧Ext s.k g w g' w':=by
 obtain⟨b1,cs,et,h1,h2,h3,h4⟩:=(h.st.sb.rel f b ds (bx_bxl hds)).c hRL
 rw[hblk]at h1
 injection h1 with h1
 subst h1
 obtain⟨h5,h6,h7⟩:=hx.cells hs
 obtain⟨i1,i2,i3,i4⟩:=h.st.inv.box f b blk hblk
 have hxl:x.cells.toList.length=e.cells.length:=by simpa using h5
 have hfit:off+x.cells.toList.length<=cs.size:=by omega
 have hrun:=run_storeCells_at P blk off et x.cells.toList 0 cs w h2 (by simpa using hfit) h7
 simp only[Nat.add_zero]at hrun
 have hget:∀c:Nat,(cs.toList.take off++x.cells.toList++cs.toList.drop (off+x.cells.toList.length)).toArray[c]? =if c<off then cs[c]? else if c<off+e.cells.length then x.cells[c-off]? else cs[c]? :=fun c=>by
  rw[overV_get hfit,hxl,Array.getElem?_toList]
 have hnsz:(cs.toList.take off++x.cells.toList++cs.toList.drop (off+x.cells.toList.length)).toArray.size=cs.size:=by simp;omega
 generalize(cs.toList.take off++x.cells.toList++cs.toList.drop (off+x.cells.toList.length)).toArray=nc at hrun hget hnsz
 have hW:=wr_setRow (w:=w) nc i1 i3 i4 (h.st.inv.mkc h2) h2 (by omega)
 refine⟨g.mv (fun ℓ=>if ℓ=flyL 0 0 ℓ.c then boxL f b (off+ℓ.c)else ℓ),_,hrun,?_,(hW.ext _).trans (g.mv_ext _ _ _ fun ℓ h0 _=>if_neg fun e=>by rw[e]at h0;simp[flyL]at h0)⟩
 have keepf:∀ℓ:Loc,ℓ≠flyL 0 0 ℓ.c->Keep g w ℓ (g.mv (fun ℓ=>if ℓ=flyL 0 0 ℓ.c then boxL f b (off+ℓ.c)else ℓ)) (w.setRow blk nc) ℓ:=
  fun ℓ hℓ=>(hW.keep ℓ).trans (g.mv_keep' _ _ (if_neg hℓ))
 have keepx:∀c,Keep g w (flyL 0 0 c) (g.mv (fun ℓ=>if ℓ=flyL 0 0 ℓ.c then boxL f b (off+ℓ.c)else ℓ)) (w.setRow blk nc) (boxL f b (off+c)):=
  fun c=>(hW.keep _).trans (g.mv_keep' _ _ (by simp[flyL]))
 refine⟨⟨(hW.inv h.st.inv).mv _,⟨fun f' b' ds' hds'=>?_,fun f' b' hd=>?_,fun f' b' ds' d' hds' hd'=>?_⟩,fun t'=>?_⟩,h.size⟩
 ·rw[B_sbx hds]at hds'
  split at hds'
  ·rename_i e'
   obtain⟨rfl,rfl⟩:=e'
   injection hds' with hds'
   subst hds'
   refine .inl ⟨hRL,blk,_,et,hblk,setRow_heap w blk cs _ et _ h2,?_,fun c d' hc=>?_⟩
   ·rw[over_length hlen];omega
   ·rw[over_get hlen]at hc
    rw[hget]
    split at hc
    ·rename_i hlt
     rw[if_pos hlt]
     obtain⟨y,h8,h9⟩:=h4 c d' hc
     exact⟨y,h8,h9.keep (keepf _ box_fly)⟩
    ·rename_i hge
     rw[if_neg hge]
     split at hc
     ·rename_i hlt
      rw[if_pos hlt]
      obtain⟨y,h8,h9⟩:=h6 _ d' hc
      refine⟨y,h8,?_⟩
      have:=h9.keep (keepx (c-off))
      rwa[show off+(c-off)=c by omega]at this
     ·rename_i hge'
      rw[if_neg hge']
      obtain⟨y,h8,h9⟩:=h4 c d' hc
      exact⟨y,h8,h9.keep (keepf _ box_fly)⟩
  ·rename_i hne
   refine(h.st.sb.rel f' b' ds' hds').keep (fun c=>keepf _ box_fly) fun b1 hb1=>hW.same b1 fun e'=>?_
   subst e'
   exact hne (h.st.inv.inj _ _ _ _ _ hb1 hblk)
 ·rw[B_sbx hds]
  split
  ·rfl
  ·exact h.st.sb.dom f' b' hd
 ·rw[B_sbx hds]at hds'
  split at hds'
  ·rename_i e'
   obtain⟨rfl,rfl⟩:=e'
   injection hds' with hds'
   subst hds'
   rcases mem_over hd' with hd'|hd'
   ·exact h.st.sb.bnd _ _ _ _ (bx_bxl hds) hd'
   ·exact bnd2_cells hb d' hd'
  ·exact h.st.sb.bnd _ _ _ _ hds' hd'
 ·rw[sbx_k,sbx_e]
  exact(h.st.e t').keep fun i c=>keepf _ slot_fly
theorem bx_rd (x:Opd) (f b:Nat):Ev.bx f b (rd x s).2=Ev.bx f b s:=by unfold Ev.bx;rw[rd_o,rd_l]
theorem store_ok {p x:Operand} {p' x':Opd} {ty:TypeId} {m:Nat} {i:TypeInfo} (ho:o.op= .store ty p x) (hp:MOpd p p') (hx:MOpd x x') (hi:P.info? ty=some i) (hm:i.size=m) (h:SN g w n a.tmps s) (he:evOp call t (.st m p' x') s=some (d,s')):
  ∃w' g',(execOp a.eval o).run P w= .ok .skip w'∧SN g' w' n a.tmps s'∧Ext s.k g w g' w'∧s'.k=s.k∧d= .u:=by
 simp only[evOp]at he
 split at he
 ·rename_i f b off hptr
  obtain⟨hRL,blk,h1,h2⟩:=rd_ptr h hp hptr
  split at he
  ·rename_i ds hds
   split at he
   ·rename_i hc
    obtain⟨c1,c2,c3,c4⟩:=hc
    injection he with he
    injection he with e1 e2
    subst e1 e2
    obtain⟨g1,k1,k2,k3,_,k5,_⟩:=rd_fly h hx 0
    have k2':RV g1 w (flyL 0 0) (a.eval x) (rd x' s).1:=by rw[<-RT_ne (L:=flyL 0) (bnd2_tup c3)];exact k2
    obtain⟨g2,w2,r1,r2,r3⟩:=write_ok (P:=P) k1 (by rw[bx_rd];exact hds) k2' hRL (by rw[c1];exact c2) c3 c4 (by rw[k5];exact h1)
    have hsz:(a.eval x).cells.size=i.size:=by rw[(k2'.cells c4).1,c1,hm]
    refine⟨w2,g2,?_,r2,k3.trans (by rw[rd_k]at r3;exact r3),by rw[sbx_k,rd_k],rfl⟩
    simp[execOp,ho,Instr.storeAt,h2,Instr.sureAddr,storeVar,run_sizeOf' hi,hsz,r1]
   ·cases he
  ·cases he
 ·cases he
end
end Go.Proofs.Ytfopbiiffiickaa.Ev
namespace Go.Proofs.Ytfopbiiffiickaa.Ev
open Go
variable {P:Program}
section
variable {o:Oper} {g:G} {w:World} {n:Nat} {a:Act} {s s':S} {d:D} {call:Caller} {t:Option Nat}
theorem strip_cells {d:D} (hd:d.tupB=false) (c:Nat) (e:D):d.strip.cells[c]? =some e->∃e0,d.cells[c]? =some e0∧e=e0.strip1:=by
 intro h
 rw[strip_ne hd]at h
 rcases agg_or d with⟨ds,rfl⟩|hd'
 ·simp only[D.strip2,D.cells,List.getElem?_map]at h
  obtain⟨e0,h1,h2⟩:=Option.map_eq_some_iff.1 h
  exact⟨e0,h1,h2.symm⟩
 ·rw[strip2_ne hd']at h
  have h1:d.strip1.cells=[d.strip1]:=by
   have:=strip1_agg (d:=d)
   cases hq:d.strip1<;>rw[hq]at this<;>first|rfl|cases this
  have h2:d.cells=[d]:=by cases d<;>first|rfl|cases hd'
  rw[h1]at h
  rw[h2]
  cases c with
  |zero=>simp at h;exact⟨d,rfl,h.symm⟩
  |succ c=>simp at h
theorem strip_cells_length {d:D} (hd:d.tupB=false):d.strip.cells.length=d.cells.length:=by
 rw[strip_ne hd]
 rcases agg_or d with⟨ds,rfl⟩|hd'
 ·simp[D.strip2,D.cells]
 ·rw[strip2_ne hd']
  have h1:d.strip1.cells=[d.strip1]:=by
   have:=strip1_agg (d:=d)
   cases hq:d.strip1<;>rw[hq]at this<;>first|rfl|cases this
  have h2:d.cells=[d]:=by cases d<;>first|rfl|cases hd'
  rw[h1,h2];rfl
theorem strip1_bnd {k:Nat} {d:D} (h:d.bnd1 k=true):d.strip1.bnd1 k=true:=by
 cases d with
 |sl m z xs=>cases m<;>rfl
 |nb cs=>rfl
 |agg cs=>rfl
 |tup cs=>rfl
 |_=>exact h
theorem ldm_core {f b off blk:Nat} {ty:TypeId} {q:Option Nat} {ds:List D} {d0:D} (hs:Sz P ty q) (h:SN g w n a.tmps s) (h1:g.bx f b=some blk) (hRL:b<RL) (hds:Ev.bx f b s=some ds) (h3:pick q ds off=some d0):
  ∃x g',(loadVar ty ⟨blk,off,none⟩).run P w= .ok x w∧SN g' w n a.tmps (sbx f b (over ds off d0.strip.cells) s)∧RT g' w (flyL 0) x d0∧Ext s.k g w g' w∧(∀ℓ:Loc,4<=ℓ.k->Keep g w ℓ g' w ℓ):=by
   have hrb:=(h.st.sb.rel f b ds (bx_bxl hds)).c hRL
   obtain⟨blk',h5,h6⟩:=box_cell hrb
   rw[h1]at h5
   injection h5 with h5
   subst h5
   obtain⟨x,h7,h8⟩:=load_ok hs h6 h3
   -- the data's cells stand in the variable
   have hcells:off+d0.cells.length<=ds.length∧d0.tupB=false∧∀(c:Nat) e,d0.cells[c]? =some e->ds[off+c]? =some e:=by
    cases q with
    |none=>
     have h9:ds[off]? =some d0:=h3
     have hna:d0.cells=[d0]:=by cases d0<;>first|rfl|exact h8.elim
     refine⟨by rw[hna];have:=getq_lt h9;simp;omega,by cases d0<;>first|rfl|exact(show False from h8).elim,fun c e hc=>?_⟩
     rw[hna]at hc
     cases c with
     |zero=>simp at hc;subst hc;exact h9
     |succ c=>simp at hc
    |some m=>
     obtain⟨cs,rfl,h9,es,rfl,h10,h11⟩:=h8
     simp only[pick]at h3
     split at h3
     ·rename_i hle
      exact⟨by simp only[D.cells];omega,rfl,fun c e hc=>(h11 c e hc).1⟩
     ·cases h3
   obtain⟨hlen,htup,hsame⟩:=hcells
   let ρ:Loc->Loc:=fun ℓ=>if ℓ=boxL f b ℓ.c∧off<=ℓ.c∧ℓ.c<off+d0.cells.length then flyL 0 0 (ℓ.c-off)else ℓ
   have hρf:∀ℓ:Loc,¬(ℓ=boxL f b ℓ.c∧off<=ℓ.c∧ℓ.c<off+d0.cells.length)->ρ ℓ=ℓ:=fun ℓ hl=>if_neg hl
   have hρx:∀c,c<d0.cells.length->ρ (boxL f b (off+c))=flyL 0 0 c:=fun c hc=>by
    show(if _ then _ else _)=_
    rw[if_pos ⟨rfl,by simp[boxL],by simp[boxL];omega⟩]
    simp[boxL]
   have hfl:off+d0.strip.cells.length<=ds.length:=by rw[strip_cells_length htup];exact hlen
   refine⟨x,g.mv ρ,h7,⟨⟨h.st.inv.mv _,⟨fun f' b' ds' hds'=>?_,fun f' b' hd=>?_,fun f' b' ds' d' hds' hd'=>?_⟩,fun t'=>?_⟩,h.size⟩,?_,g.mv_ext w _ _ fun ℓ h0 _=>hρf _ fun e=>by rw[e.1]at h0;simp[boxL]at h0,fun ℓ hℓ=>g.mv_keep' w ρ (hρf _ fun e=>by rw[e.1]at hℓ;simp[boxL]at hℓ)⟩
   ·rw[B_sbx hds]at hds'
    split at hds'
    ·rename_i e'
     obtain⟨rfl,rfl⟩:=e'
     injection hds' with hds'
     subst hds'
     obtain⟨b1,cs,et,q1,q2,q3,q4⟩:=hrb
     refine .inl ⟨hRL,b1,cs,et,q1,q2,by rw[over_length hfl];exact q3,fun c d' hc=>?_⟩
     rw[over_get hfl,strip_cells_length htup]at hc
     split at hc
     ·rename_i hlt
      obtain⟨y,q5,q6⟩:=q4 c d' hc
      exact⟨y,q5,q6.keep (g.mv_keep' w ρ (hρf _ fun e=>by have:=e.2.1;simp[boxL]at this;omega))⟩
     ·rename_i hge
      split at hc
      ·rename_i hlt
       obtain⟨e0,q5,rfl⟩:=strip_cells htup _ _ hc
       have q6:=hsame _ _ q5
       rw[show off+(c-off)=c by omega]at q6
       obtain⟨y,q7,q8⟩:=q4 c e0 q6
       refine⟨y,q7,(RC.keep q8 (g.mv_keep' w ρ (ℓ':=flyL 0 0 (c-off)) ?_)).strip _⟩
       have:=hρx (c-off) (by omega)
       rwa[show off+(c-off)=c by omega]at this
      ·rename_i hge'
       obtain⟨y,q5,q6⟩:=q4 c d' hc
       exact⟨y,q5,q6.keep (g.mv_keep' w ρ (hρf _ fun e=>by have:=e.2.2;simp[boxL]at this;omega))⟩
    ·rename_i hne
     refine(h.st.sb.rel f' b' ds' hds').keep (fun c=>g.mv_keep' w ρ (hρf _ fun e=>hne ?_)) fun _ _=>rfl
     have:=e.1
     simp[boxL]at this
     exact this
   ·rw[B_sbx hds]
    split
    ·rfl
    ·exact h.st.sb.dom f' b' hd
   ·rw[B_sbx hds]at hds'
    split at hds'
    ·rename_i e'
     obtain⟨rfl,rfl⟩:=e'
     injection hds' with hds'
     subst hds'
     rcases mem_over hd' with hd'|hd'
     ·exact h.st.sb.bnd _ _ _ _ (bx_bxl hds) hd'
     ·obtain⟨c,hc⟩:=List.mem_iff_getElem?.1 hd'
      obtain⟨e0,q5,rfl⟩:=strip_cells htup _ _ hc
      exact strip1_bnd (h.st.sb.bnd _ _ _ _ (bx_bxl hds) (List.mem_of_getElem? (hsame _ _ q5)))
    ·exact h.st.sb.bnd _ _ _ _ hds' hd'
   ·rw[sbx_k,sbx_e]
    exact(h.st.e t').keep fun i c=>g.mv_keep' w ρ (hρf _ fun e=>slot_box e.1)
   ·refine RV.toRT ?_
    cases q with
    |none=>
     have hna:d0.cells=[d0]:=by cases d0<;>first|rfl|exact h8.elim
     exact RC.toRV (RC.keep (show RC g w (boxL f b off) x d0 from h8) (g.mv_keep' w ρ (by have:=hρx 0 (by rw[hna];simp);simpa using this)))
    |some m=>
     obtain⟨cs,rfl,h9,es,rfl,h10,h11⟩:=h8
     refine⟨cs,rfl,by rw[h9,h10],fun c e hc=>?_⟩
     obtain⟨_,y,h12,h13⟩:=h11 c e hc
     exact⟨y,h12,h13.keep (g.mv_keep' w ρ (hρx c (getq_lt hc)))⟩
theorem gives_ldm {p:Operand} {p':Opd} {ty:TypeId} {q:Option Nat} (ho:o.op= .load ty p) (hp:MOpd p p') (hs:Sz P ty q) (h:SN g w n a.tmps s) (he:evOp call t (.ldm q p') s=some (d,s')):Gives P o g w n a s d s':=by
 simp only[evOp]at he
 split at he
 ·rename_i f b off hptr
  obtain⟨hRL,blk,h1,h2⟩:=rd_ptr h hp hptr
  split at he
  ·rename_i ds hds
   obtain⟨d0,h3,h4⟩:=Option.map_eq_some_iff.1 he
   injection h4 with e1 e2
   subst e1 e2
   obtain⟨x,g',q1,q2,q3,q4,_⟩:=ldm_core hs h h1 hRL hds h3
   exact⟨x,w,g',by simp[execOp,ho,Instr.loadAt,h2,Instr.sureAddr,q1],q2,q3,q4,sbx_k ..⟩
  ·cases he
 ·cases he
def G.nbx (g:G) (f b blk:Nat):G:={g with bx:=fun f' b'=>if f'=f∧b'=b then some blk else g.bx f' b'}
theorem alloc_same (w:World) (ob:Obj) (b:Nat) (h:b<w.heap.size):(w.alloc ob).heap[b]? =w.heap[b]? :=by
 show(w.heap.push ob)[b]? =_
 simp[Array.getElem?_push,Nat.ne_of_lt h]
theorem alloc_new (w:World) (ob:Obj):(w.alloc ob).heap[w.heap.size]? =some ob:=by show(w.heap.push ob)[w.heap.size]? =_;simp
theorem alloc_size (w:World) (ob:Obj):(w.alloc ob).heap.size=w.heap.size+1:=by show(w.heap.push ob).size=_;simp
theorem Inv.lt {g:G} {w:World} (h:Inv g w) {b ℓ} (hb:g.tk b=some ℓ):b<w.heap.size:=by
 rcases Nat.lt_or_ge b w.heap.size with h'|h'
 ·exact h'
 ·rw[(h.fresh b h').2]at hb;cases hb
theorem Inv.frlt {g:G} {w:World} (h:Inv g w) {b o:Nat} (hb:o<g.fr b):b<w.heap.size:=by
 rcases Nat.lt_or_ge b w.heap.size with h'|h'
 ·exact h'
 ·rw[(h.fresh b h').1]at hb;omega
theorem getq_lt' {α:Type} {l:Array α} {i:Nat} {x:α} (h:l[i]? =some x):i<l.size:=by
 rcases Nat.lt_or_ge i l.size with h'|h'
 ·exact h'
 ·rw[Array.getElem?_eq_none h']at h;cases h
theorem run_newRow' (e:TypeId) (c:Array Value) (w:World):(newRow e c).run P w= .ok ⟨w.heap.size,0,none⟩ (w.alloc (.cells c e)):=rfl
theorem lk_ins {t:Nat} {ds:List D} {l:Bx} (h:lk t l=none) (b:Nat):lk b (ins t ds l)=if b=t then some ds else lk b l:=by
 induction l with
 |nil=>simp[ins,lk]
 |cons p r ih=>
  obtain⟨c,es⟩:=p
  simp only[lk]at h
  split at h
  ·cases h
  ·rename_i hne
   unfold ins
   split
   ·simp only[lk]
   ·simp only[lk,ih h]
    by_cases e:b=c
    ·have:b≠t:=fun e'=>hne (e'.symm.trans e)
     simp[e,this];intro e';exact absurd e'.symm hne
    ·simp[e]
theorem B_new {t:Nat} {ds:List D} (s:S) (hl:lk t s.l=none) (f b:Nat):bxl (s.wl (ins t ds s.l)).B f b=if f=s.k∧b=t then some ds else bxl s.B f b:=by
 simp only[bxl,S.B,S.k,S.wl]
 by_cases e:f=s.o.length
 ·subst e
  simp only[List.getElem?_append_right (Nat.le_refl _),Nat.sub_self,List.getElem?_cons_zero,Option.bind_some,lk_ins hl,true_and]
 ·simp only[e,false_and,if_false]
  rcases Nat.lt_or_ge f s.o.length with hl|hl
  ·rw[List.getElem?_append_left hl,List.getElem?_append_left hl]
  ·rw[List.getElem?_append_right hl,List.getElem?_append_right hl]
   have:f-s.o.length=(f-s.o.length-1)+1:=by omega
   rw[this];simp
theorem gr_alloc (w:World) (ob:Obj):Gr w (w.alloc ob):=fun b o h=>by
 have hb:b<w.heap.size:=by
  rcases Nat.lt_or_ge b w.heap.size with hl|hl
  ·exact hl
  ·simp[World.cell?,Array.getElem?_eq_none hl]at h
 rw[cell_of_block (alloc_same _ _ _ hb)];exact h
theorem newbox_ok {t:Nat} {tmps:Array Value} (h:SN g w n tmps s) (hRL:t<RL) (hl:lk t s.l=none) {ys:Array Value} {et:TypeId} {ds:List D} {j:Nat} (hlen:ys.size=ds.length)
  (hx:∀(c:Nat) d,ds[c]? =some d->∃y,ys[c]? =some y∧RC g w (flyL j 0 c) y d) (hb:∀d∈ds,d.bnd1 (s.k+1)=true):
  ∃g',SN g' (w.alloc (.cells ys et)) n tmps (s.wl (ins t ds s.l))∧g'.bx s.k t=some w.heap.size∧Ext s.k g w g' (w.alloc (.cells ys et)):=by
 have hnone:g.bx s.k t=none:=by
  cases hq:g.bx s.k t with
  |none=>rfl
  |some b=>
   have:=h.st.sb.dom s.k t (by rw[hq];rfl)
   rw[<-bx_eq _ _ _ (Nat.le_refl _)]at this
   unfold Ev.bx at this
   rw[if_pos (show s.k=s.o.length from rfl),hl]at this
   cases this
 let ρ:Loc->Loc:=fun ℓ=>if ℓ=flyL j 0 ℓ.c then boxL s.k t ℓ.c else ℓ
 have hi:=h.st.inv
 have hK:∀ℓ,Keep g w ℓ (((g.nbx s.k t w.heap.size)).mv ρ) (w.alloc (.cells ys et)) (ρ ℓ):=fun ℓ=>
  ⟨fun b o ho=>cell_of_block (alloc_same _ _ _ (hi.frlt ho)),fun b=>Nat.le_refl _,fun f s' b hb=>by
   show(if f=s.k∧s'=t then _ else _)=_
   rw[if_neg fun e=>by rw[e.1,e.2,hnone]at hb;cases hb]
   exact hb,fun b hb=>⟨by simp[G.mv,G.nbx,hb],rfl,alloc_same _ _ _ (hi.lt hb)⟩,gr_alloc _ _⟩
 have hKf:∀ℓ:Loc,ℓ≠flyL j 0 ℓ.c->Keep g w ℓ (((g.nbx s.k t w.heap.size)).mv ρ) (w.alloc (.cells ys et)) ℓ:=fun ℓ hℓ=>by
  have:=hK ℓ
  rwa[show ρ ℓ=ℓ from if_neg hℓ]at this
 refine⟨(g.nbx s.k t w.heap.size).mv ρ,⟨⟨⟨?_,?_,?_,?_,?_,?_,fun b hb=>⟨(hi.dm b hb).1,(alloc_same _ _ _ (getq_lt' (hi.dm b hb).2)).trans (hi.dm b hb).2⟩,fun b hb=>by simp[G.mv,G.nbx,hi.dt b hb]⟩,⟨fun f' b' ds' hds'=>?_,fun f' b' hd=>?_,fun f' b' ds' d' hds' hd'=>?_⟩,fun t'=>?_⟩,h.size⟩,?_,?_⟩
 ·exact Nat.le_trans hi.base (by rw[alloc_size];omega)
 ·intro b hb
  have hb':w.heap.size<=b:=by rw[alloc_size]at hb;omega
  exact⟨(hi.fresh b hb').1,by simp[G.mv,G.nbx,(hi.fresh b hb').2]⟩
 ·intro f' s' b hb
  have hb':(if f'=s.k∧s'=t then some w.heap.size else g.bx f' s')=some b:=hb
  split at hb'
  ·injection hb' with hb'
   subst hb'
   exact⟨hi.base,by rw[alloc_size];omega,(hi.fresh _ (Nat.le_refl _)).1,by simp[G.mv,G.nbx,(hi.fresh _ (Nat.le_refl _)).2]⟩
  ·obtain⟨a1,a2,a3,a4⟩:=hi.box _ _ _ hb'
   exact⟨a1,by rw[alloc_size];omega,a3,by simp[G.mv,G.nbx,a4]⟩
 ·intro f1 s1 f2 s2 b h1 h2
  have h1':(if f1=s.k∧s1=t then some w.heap.size else g.bx f1 s1)=some b:=h1
  have h2':(if f2=s.k∧s2=t then some w.heap.size else g.bx f2 s2)=some b:=h2
  split at h1'<;>split at h2'
  ·rename_i e1 e2;exact⟨e1.1.trans e2.1.symm,e1.2.trans e2.2.symm⟩
  ·injection h1' with h1';have:=(hi.box _ _ _ h2').2.1;omega
  ·injection h2' with h2';have:=(hi.box _ _ _ h1').2.1;omega
  ·exact hi.inj _ _ _ _ _ h1' h2'
 ·intro b ℓ hb
  simp only[G.mv,G.nbx]at hb
  obtain⟨ℓ0,h0,_⟩:=Option.map_eq_some_iff.1 hb
  exact hi.tk b ℓ0 h0
 ·intro b o ho
  rw[cell_of_block (alloc_same _ _ _ (hi.frlt ho))]
  exact hi.cells b o ho
 ·rw[B_new _ hl]at hds'
  split at hds'
  ·rename_i e'
   obtain⟨rfl,rfl⟩:=e'
   injection hds' with hds'
   subst hds'
   refine .inl ⟨hRL,w.heap.size,ys,et,by show(if _ then _ else _)=_;rw[if_pos ⟨rfl,rfl⟩],alloc_new _ _,by omega,fun c d' hc=>?_⟩
   obtain⟨y,h1,h2⟩:=hx c d' hc
   refine⟨y,h1,h2.keep ?_⟩
   have:=hK (flyL j 0 c)
   rwa[show ρ (flyL j 0 c)=boxL s.k b' c from if_pos rfl]at this
  ·rename_i hne
   exact(h.st.sb.rel f' b' ds' hds').keep (fun c=>hKf _ box_fly) fun b hb=>alloc_same _ _ _ (hi.box _ _ _ hb).2.1
 ·rw[B_new _ hl]
  split
  ·rfl
  ·rename_i hne
   refine h.st.sb.dom f' b' ?_
   have:(if f'=s.k∧b'=t then some w.heap.size else g.bx f' b').isSome=true:=hd
   rwa[if_neg hne]at this
 ·rw[B_new _ hl]at hds'
  split at hds'
  ·rename_i e'
   obtain⟨rfl,rfl⟩:=e'
   injection hds' with hds'
   subst hds'
   exact hb d' hd'
  ·exact h.st.sb.bnd _ _ _ _ hds' hd'
 ·exact(h.st.e t').keep fun i c=>hKf _ slot_fly
 ·show(if _ then _ else _)=_
  rw[if_pos ⟨rfl,rfl⟩]
 ·refine⟨rfl,rfl,rfl,rfl,by rw[alloc_size];omega,fun b hb=>alloc_same _ _ _ (Nat.lt_of_lt_of_le hb hi.base),fun _=>Nat.le_refl _,(hK (boxL 0 0 0)).cell,eqb (fun f' s' hf=>?_),fun b ℓ hb h0 hk=>⟨?_,rfl,alloc_same _ _ _ (hi.lt hb)⟩,fun _ h=>h,gr_alloc _ _⟩
  ·show(if _ then _ else _)=_
   rw[if_neg fun e=>by omega]
  ·have:=((hKf ℓ fun e=>by rw[e]at h0;simp[flyL]at h0).tk b hb).1
   exact this
theorem unsnoc_eq {α:Type} {l:List α} {p:List α×α} (h:unsnoc l=some p):l=p.1++[p.2]:=by
 induction l generalizing p with
 |nil=>cases h
 |cons x r ih=>cases r with
  |nil=>simp only[unsnoc]at h;injection h with h;subst h;rfl
  |cons y r=>
   simp only[unsnoc]at h
   obtain⟨q,h1,h2⟩:=Option.map_eq_some_iff.1 h
   subst h2
   simp[ih h1]
theorem unsnoc_append {α:Type} (l:List α) (x:α):unsnoc (l++[x])=some (l,x):=by
 induction l with
 |nil=>rfl
 |cons y r ih=>
  cases hr:r++[x]with
  |nil=>simp at hr
  |cons z q=>rw[List.cons_append,hr,unsnoc,<-hr,ih];rfl
theorem B_newo {u:Nat} {ds:List D} (s:S) {o0:List Bx} {l0:Bx} (ho:s.o=o0++[l0]) (hl:lk u l0=none) (f b:Nat):bxl (s.wo (o0++[ins u ds l0])).B f b=if f=o0.length∧b=u then some ds else bxl s.B f b:=by
 simp only[bxl,S.B,S.wo,ho]
 by_cases e:f=o0.length
 ·subst e
  simp only[List.append_assoc,List.getElem?_append_right (Nat.le_refl _),Nat.sub_self,List.singleton_append,List.getElem?_cons_zero,Option.bind_some,lk_ins hl,true_and]
 ·simp only[e,false_and,if_false]
  rcases Nat.lt_or_ge f o0.length with h1|h1
  ·simp only[List.append_assoc,List.getElem?_append_left h1]
  ·simp only[List.append_assoc,List.getElem?_append_right h1]
   have:f-o0.length=(f-o0.length-1)+1:=by omega
   rw[this];simp
theorem newlow_ok {t:Nat} {tmps:Array Value} (h:SN g w n tmps s) (hRL:t<RL) {o0:List Bx} {l0:Bx} (ho:s.o=o0++[l0]) (hl:lk t l0=none) {ys:Array Value} {et:TypeId} {ds:List D} {j:Nat} (hlen:ys.size=ds.length)
  (hx:∀(c:Nat) d,ds[c]? =some d->∃y,ys[c]? =some y∧RC g w (flyL j 0 c) y d) (hb:∀d∈ds,d.bnd1 (o0.length+1)=true):
  ∃g',SN g' (w.alloc (.cells ys et)) n tmps (s.wo (o0++[ins t ds l0]))∧g'.bx o0.length t=some w.heap.size∧Ext s.k g w g' (w.alloc (.cells ys et)):=by
 have hk0:o0.length<s.k:=by show o0.length<s.o.length;rw[ho];simp
 have hnone:g.bx o0.length t=none:=by
  cases hq:g.bx o0.length t with
  |none=>rfl
  |some b=>
   have:=h.st.sb.dom o0.length t (by rw[hq];rfl)
   have e:bxl s.B o0.length t=lk t l0:=by simp only[bxl,S.B,ho,List.append_assoc,List.getElem?_append_right (Nat.le_refl _),Nat.sub_self];simp
   rw[e,hl]at this
   cases this
 let ρ:Loc->Loc:=fun ℓ=>if ℓ=flyL j 0 ℓ.c then boxL o0.length t ℓ.c else ℓ
 have hi:=h.st.inv
 have hK:∀ℓ,Keep g w ℓ (((g.nbx o0.length t w.heap.size)).mv ρ) (w.alloc (.cells ys et)) (ρ ℓ):=fun ℓ=>
  ⟨fun b o ho=>cell_of_block (alloc_same _ _ _ (hi.frlt ho)),fun b=>Nat.le_refl _,fun f s' b hb=>by
   show(if f=o0.length∧s'=t then _ else _)=_
   rw[if_neg fun e=>by rw[e.1,e.2,hnone]at hb;cases hb]
   exact hb,fun b hb=>⟨by simp[G.mv,G.nbx,hb],rfl,alloc_same _ _ _ (hi.lt hb)⟩,gr_alloc _ _⟩
 have hKf:∀ℓ:Loc,ℓ≠flyL j 0 ℓ.c->Keep g w ℓ (((g.nbx o0.length t w.heap.size)).mv ρ) (w.alloc (.cells ys et)) ℓ:=fun ℓ hℓ=>by
  have:=hK ℓ
  rwa[show ρ ℓ=ℓ from if_neg hℓ]at this
 refine⟨(g.nbx o0.length t w.heap.size).mv ρ,⟨⟨⟨?_,?_,?_,?_,?_,?_,fun b hb=>⟨(hi.dm b hb).1,(alloc_same _ _ _ (getq_lt' (hi.dm b hb).2)).trans (hi.dm b hb).2⟩,fun b hb=>by simp[G.mv,G.nbx,hi.dt b hb]⟩,⟨fun f' b' ds' hds'=>?_,fun f' b' hd=>?_,fun f' b' ds' d' hds' hd'=>?_⟩,fun t'=>?_⟩,h.size⟩,?_,?_⟩
 ·exact Nat.le_trans hi.base (by rw[alloc_size];omega)
 ·intro b hb
  have hb':w.heap.size<=b:=by rw[alloc_size]at hb;omega
  exact⟨(hi.fresh b hb').1,by simp[G.mv,G.nbx,(hi.fresh b hb').2]⟩
 ·intro f' s' b hb
  have hb':(if f'=o0.length∧s'=t then some w.heap.size else g.bx f' s')=some b:=hb
  split at hb'
  ·injection hb' with hb'
   subst hb'
   exact⟨hi.base,by rw[alloc_size];omega,(hi.fresh _ (Nat.le_refl _)).1,by simp[G.mv,G.nbx,(hi.fresh _ (Nat.le_refl _)).2]⟩
  ·obtain⟨a1,a2,a3,a4⟩:=hi.box _ _ _ hb'
   exact⟨a1,by rw[alloc_size];omega,a3,by simp[G.mv,G.nbx,a4]⟩
 ·intro f1 s1 f2 s2 b h1 h2
  have h1':(if f1=o0.length∧s1=t then some w.heap.size else g.bx f1 s1)=some b:=h1
  have h2':(if f2=o0.length∧s2=t then some w.heap.size else g.bx f2 s2)=some b:=h2
  split at h1'<;>split at h2'
  ·rename_i e1 e2;exact⟨e1.1.trans e2.1.symm,e1.2.trans e2.2.symm⟩
  ·injection h1' with h1';have:=(hi.box _ _ _ h2').2.1;omega
  ·injection h2' with h2';have:=(hi.box _ _ _ h1').2.1;omega
  ·exact hi.inj _ _ _ _ _ h1' h2'
 ·intro b ℓ hb
  simp only[G.mv,G.nbx]at hb
  obtain⟨ℓ0,h0,_⟩:=Option.map_eq_some_iff.1 hb
  exact hi.tk b ℓ0 h0
 ·intro b o ho
  rw[cell_of_block (alloc_same _ _ _ (hi.frlt ho))]
  exact hi.cells b o ho
 ·rw[B_newo _ ho hl]at hds'
  split at hds'
  ·rename_i e'
   obtain⟨rfl,rfl⟩:=e'
   injection hds' with hds'
   subst hds'
   refine .inl ⟨hRL,w.heap.size,ys,et,by show(if _ then _ else _)=_;rw[if_pos ⟨rfl,rfl⟩],alloc_new _ _,by omega,fun c d' hc=>?_⟩
   obtain⟨y,h1,h2⟩:=hx c d' hc
   refine⟨y,h1,h2.keep ?_⟩
   have:=hK (flyL j 0 c)
   rwa[show ρ (flyL j 0 c)=boxL o0.length b' c from if_pos rfl]at this
  ·rename_i hne
   exact(h.st.sb.rel f' b' ds' hds').keep (fun c=>hKf _ box_fly) fun b hb=>alloc_same _ _ _ (hi.box _ _ _ hb).2.1
 ·rw[B_newo _ ho hl]
  split
  ·rfl
  ·rename_i hne
   refine h.st.sb.dom f' b' ?_
   have:(if f'=o0.length∧b'=t then some w.heap.size else g.bx f' b').isSome=true:=hd
   rwa[if_neg hne]at this
 ·rw[B_newo _ ho hl]at hds'
  split at hds'
  ·rename_i e'
   obtain⟨rfl,rfl⟩:=e'
   injection hds' with hds'
   subst hds'
   exact hb d' hd'
  ·exact h.st.sb.bnd _ _ _ _ hds' hd'
 ·have hkk:(s.wo (o0++[ins t ds l0])).k=s.k:=by show(o0++[ins t ds l0]).length=s.o.length;rw[ho];simp
  rw[hkk]
  exact(h.st.e t').keep fun i c=>hKf _ slot_fly
 ·show(if _ then _ else _)=_
  rw[if_pos ⟨rfl,rfl⟩]
 ·refine⟨rfl,rfl,rfl,rfl,by rw[alloc_size];omega,fun b hb=>alloc_same _ _ _ (Nat.lt_of_lt_of_le hb hi.base),fun _=>Nat.le_refl _,(hK (boxL 0 0 0)).cell,fun f' s' b hf hb=>?_,fun b ℓ hb h0 hk=>⟨?_,rfl,alloc_same _ _ _ (hi.lt hb)⟩,fun _ h=>h,gr_alloc _ _⟩
  ·show(if _ then _ else _)=_
   rw[if_neg fun e=>by rw[e.1,e.2,hnone]at hb;cases hb]
   exact hb
  ·have:=((hKf ℓ fun e=>by rw[e]at h0;simp[flyL]at h0).tk b hb).1
   exact this
theorem newobj_ok {tmps:Array Value} (h:SN g w n tmps s) (ob:Obj):SN g (w.alloc ob) n tmps s∧Ext s.k g w g (w.alloc ob):=by
 have hi:=h.st.inv
 have hK:∀ℓ,Keep g w ℓ g (w.alloc ob) ℓ:=fun ℓ=>
  ⟨fun b o ho=>cell_of_block (alloc_same _ _ _ (hi.frlt ho)),fun b=>Nat.le_refl _,fun _ _ _ h=>h,fun b hb=>⟨hb,rfl,alloc_same _ _ _ (hi.lt hb)⟩,gr_alloc _ _⟩
 refine⟨⟨⟨⟨?_,?_,?_,hi.inj,hi.tk,?_,fun b hb=>⟨(hi.dm b hb).1,(alloc_same _ _ _ (getq_lt' (hi.dm b hb).2)).trans (hi.dm b hb).2⟩,hi.dt⟩,⟨fun f' b' ds' hds'=>?_,h.st.sb.dom,h.st.sb.bnd⟩,fun t'=>?_⟩,h.size⟩,?_⟩
 ·exact Nat.le_trans hi.base (by rw[alloc_size];omega)
 ·intro b hb
  have hb':w.heap.size<=b:=by rw[alloc_size]at hb;omega
  exact hi.fresh b hb'
 ·intro f' s' b hb
  obtain⟨a1,a2,a3,a4⟩:=hi.box _ _ _ hb
  exact⟨a1,by rw[alloc_size];omega,a3,a4⟩
 ·intro b o ho
  rw[cell_of_block (alloc_same _ _ _ (hi.frlt ho))]
  exact hi.cells b o ho
 ·exact(h.st.sb.rel f' b' ds' hds').keep (fun c=>hK _) fun b hb=>alloc_same _ _ _ (hi.box _ _ _ hb).2.1
 ·exact(h.st.e t').keep fun i c=>hK _
 ·exact⟨rfl,rfl,rfl,rfl,by rw[alloc_size];omega,fun b hb=>alloc_same _ _ _ (Nat.lt_of_lt_of_le hb hi.base),fun _=>Nat.le_refl _,(hK (boxL 0 0 0)).cell,fun _ _ _ _ h=>h,fun b ℓ hb h0 hk=>⟨hb,rfl,alloc_same _ _ _ (hi.lt hb)⟩,fun _ h=>h,gr_alloc _ _⟩
theorem zc_ok (ℓ:Loc) (v:Value):RC g w ℓ v (zc v):=by
 unfold zc
 split
 ·exact(show RF w g.fr _ (.sl .nl 0 [])from .nl 0)
 ·exact rfl
theorem zc_bnd (k:Nat) (v:Value):(zc v).bnd1 k=true:=by
 unfold zc
 split<;>rfl
theorem gives_al {ty:TypeId} {z:List Value} {zv:Value} {i:TypeInfo} (ho:o.op= .alloc ty) (hi:P.info? ty=some i) (hz:i.zero=some zv) (hzc:zv.cells.toList=z) (h1:z.all Value.oneCell'=true)
  (hRL:∀t',t=some t'->t'<RL) (h:SN g w n a.tmps s) (he:evOp call t (.al z) s=some (d,s')):Gives P o g w n a s d s':=by
 simp only[evOp]at he
 cases t with
 |none=>cases he
 |some t=>
  simp only at he
  split at he
  ·rename_i hl
   injection he with he
   injection he with e1 e2
   subst e1 e2
   obtain⟨g',k1,k2,k3⟩:=newbox_ok (ys:=zv.cells) (et:=ty) (ds:=z.map zc) (j:=0) h (hRL t rfl) hl (by rw[<-hzc];simp) (fun c d hc=>by
    rw[List.getElem?_map]at hc
    obtain⟨v,h2,rfl⟩:=Option.map_eq_some_iff.1 hc
    exact⟨v,by rw[<-hzc]at h2;simpa using h2,zc_ok _ v⟩) (fun d hd=>by
    obtain⟨v,_,rfl⟩:=List.mem_map.1 hd
    exact zc_bnd _ v)
   refine⟨.pointer (some ⟨w.heap.size,0,none⟩),w.alloc (.cells zv.cells ty),g',?_,k1,(show RP g' (w.alloc (.cells zv.cells ty)) _ (.ptr s.k t 0)from⟨hRL t rfl,_,k2,rfl⟩),k3,rfl⟩
   simp[execOp,ho,Instr.alloc,zeroValue,typeInfo,hi,hz,newVar,run_newRow']
  ·cases he
theorem gives_bxo {x:Operand} {x':Opd} {ty:TypeId} {u:Nat} (ho:o.op= .box ty x) (hx:MOpd x x') (hu:u<RL) (h:SN g w n a.tmps s) (he:evOp call t (.bxo u x') s=some (d,s')):Gives P o g w n a s d s':=by
 simp only[evOp]at he
 split at he
 ·rename_i o0 l0 hun
  have hso:=unsnoc_eq hun
  simp only at hso
  split at he
  ·rename_i hl
   split at he
   ·rename_i hc
    obtain⟨hc0,hc⟩:=hc
    injection he with he
    injection he with e1 e2
    subst e1 e2
    obtain⟨g1,k1,k2,k3,_,k5,_⟩:=rd_fly h hx 0
    have k2':RV g1 w (flyL 0 0) (a.eval x) (rd x' s).1:=by rw[<-RT_ne (L:=flyL 0) (bnd2_tup hc.1)];exact k2
    obtain⟨q1,q2,q3⟩:=k2'.cells hc.2
    obtain⟨g',r1,r2,r3⟩:=newlow_ok (et:=ty) (t:=u) k1 hu (by rw[rd_o];exact hso) hl q1 q2 (fun d hd=>bnd2_cells hc.1 d hd)
    have hk:s.o.length-1=o0.length:=by rw[hso];simp
    rw[rd_k]at r3
    rw[hk]
    refine⟨.pointer (some ⟨w.heap.size,0,none⟩),w.alloc (.cells (a.eval x).cells ty),g',?_,r1,(show RP g' (w.alloc (.cells (a.eval x).cells ty)) _ (.ptr o0.length u 0)from⟨hu,_,r2,rfl⟩),k3.trans r3,?_⟩
    ·simp[execOp,ho,Instr.box,newVar,run_newRow']
    ·show(o0++[ins u (rd x' s).1.cells l0]).length=s.o.length
     rw[hso];simp
   ·cases he
  ·cases he
 ·cases he
theorem gives_mkm {ty:TypeId} (ho:o.op= .makeMap ty none) (h:SN g w n a.tmps s) (he:evOp call t .mkm s=some (d,s')):Gives P o g w n a s d s':=by
 simp only[evOp]at he
 injection he with he
 injection he with e1 e2
 subst e1 e2
 obtain⟨k1,k2⟩:=newobj_ok h (.map #[] 0)
 exact⟨.map (some w.heap.size),w.alloc (.map #[] 0),g,by simp[execOp,ho,Instr.makeMap,run_newObj_alloc],k1,trivial,k2,rfl⟩
theorem gives_bx {x:Operand} {x':Opd} {ty:TypeId} (ho:o.op= .box ty x) (hx:MOpd x x') (hRL:∀t',t=some t'->t'<RL) (h:SN g w n a.tmps s) (he:evOp call t (.bx x') s=some (d,s')):Gives P o g w n a s d s':=by
 simp only[evOp]at he
 cases t with
 |none=>cases he
 |some t=>
  simp only at he
  split at he
  ·rename_i hl
   split at he
   ·rename_i hc
    injection he with he
    injection he with e1 e2
    subst e1 e2
    obtain⟨g1,k1,k2,k3,_,k5,_⟩:=rd_fly h hx 0
    have k2':RV g1 w (flyL 0 0) (a.eval x) (rd x' s).1:=by rw[<-RT_ne (L:=flyL 0) (bnd2_tup hc.1)];exact k2
    obtain⟨q1,q2,q3⟩:=k2'.cells hc.2
    obtain⟨g',r1,r2,r3⟩:=newbox_ok (et:=ty) (t:=t) k1 (hRL t rfl) (by rw[rd_l];exact hl) q1 q2 (fun d hd=>by rw[rd_k];exact bnd2_cells hc.1 d hd)
    rw[rd_k]at r2 r3
    refine⟨.pointer (some ⟨w.heap.size,0,none⟩),w.alloc (.cells (a.eval x).cells ty),g',?_,r1,(show RP g' (w.alloc (.cells (a.eval x).cells ty)) _ (.ptr s.k t 0)from⟨hRL t rfl,_,r2,rfl⟩),k3.trans r3,rd_k ..⟩
    simp[execOp,ho,Instr.box,newVar,run_newRow']
   ·cases he
  ·cases he
end
end Go.Proofs.Ytfopbiiffiickaa.Ev
