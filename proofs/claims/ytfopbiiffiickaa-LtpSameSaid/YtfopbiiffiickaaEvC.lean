/- Operands, moving what is owned, and putting it in its place. Conditions: none. -/
import Derived.Test.YtfopbiiffiickaaProg
import Derived.CallsIn
import Derived.Laws.Sem
import Derived.Laws.AppendOwn
import Derived.Laws.Rows
import Derived.Laws.CopyRow
import Derived.Fence
import Derived.AtR
set_option linter.all false
namespace Go.Proofs.Ytfopbiiffiickaa.Ev
open Go
noncomputable def PP:Program:=Go.Proofs.Try.prog
end Go.Proofs.Ytfopbiiffiickaa.Ev
namespace Go.Proofs.Ytfopbiiffiickaa.Ev
open Go
inductive Mode where
 |nl|ro|app|mu
 deriving DecidableEq
inductive D where
 |v (x:Value)
 |sl (m:Mode) (z:Nat) (xs:List D)
 |agg (cs:List D)
 |ptr (f s off:Nat)
 |ref (f s off n z:Nat)
 |fptr (cs:List D) (off:Nat)
 |clo (fn:Nat) (caps:List D)
 |yld (f s:Nat)
 |tup (ds:List D)
 |nb (cs:List D)
 |rcd (st jump rid:Nat) (ks:List Nat)
 |u
 deriving Inhabited
abbrev Bx:=List (Nat×List D)
abbrev Env:=List (Nat×D)
def D.cells:D->List D
 | .agg cs=>cs
 |d=>[d]
def D.tupB:D->Bool
 | .tup _=>true
 |_=>false
def D.aggB:D->Bool
 | .agg _=>true
 |_=>false
def D.strip1:D->D
 | .sl .app z xs=>.sl .ro z xs
 | .sl .mu _ _=>.u
 | .nb _=>.u
 | .agg _=>.u
 | .tup _=>.u
 |d=>d
def D.strip2:D->D
 | .agg cs=>.agg (cs.map D.strip1)
 |d=>d.strip1
def D.strip:D->D
 | .tup ds=>.tup (ds.map D.strip2)
 |d=>d.strip2
def D.dwn1:D->D
 | .sl .mu z xs=>.sl .app z xs
 |d=>d
def dwnA:D->D
 | .agg cs=>.agg (cs.map D.dwn1)
 |d=>d.dwn1
def zc:Value->D
 | .slice none 0 0=>.sl .nl 0 []
 |x=>.v x
inductive Opd where
 |t (n:Nat)
 |m (n:Nat)
 |c (x:Value)
 |cn
 |f (n:Nat)
structure S where
 e:Env
 l:Bx
 o:List Bx
def get (t:Nat):Env->D
 |[]=>.u
 |(t',d)::r=>if t=t' then d else get t r
def put (t:Nat) (d:D) (s:S):S:={s with e:=(t,d)::s.e}
def S.wl (s:S) (l:Bx):S:={s with l:=l}
def S.wo (s:S) (o:List Bx):S:={s with o:=o}
def putO:Option Nat->D->S->S
 |some t,d,s=>put t d s
 |none,_,s=>s
def lk (b:Nat):Bx->Option (List D)
 |[]=>none
 |(b',ds)::r=>if b=b' then some ds else lk b r
def sb (b:Nat) (ds:List D):Bx->Bx
 |[]=>[]
 |(b',ds')::r=>if b=b' then(b',ds)::r else(b',ds')::sb b ds r
def ins (b:Nat) (ds:List D):Bx->Bx
 |[]=>[(b,ds)]
 |(b',ds')::r=>if b<=b' then(b,ds)::(b',ds')::r else(b',ds')::ins b ds r
def rd (x:Opd) (s:S):D×S:=
 match x with
 | .t n=>((get n s.e).strip,s)
 | .m n=>(get n s.e,put n (get n s.e).strip s)
 | .c x=>(.v x,s)
 | .cn=>(.sl .nl 0 [],s)
 | .f n=>(.clo n [],s)
def rdL:List Opd->S->List D×S
 |[],s=>([],s)
 |x::r,s=>let a:=rd x s;let b:=rdL r a.2;(a.1::b.1,b.2)
def bx (f b:Nat) (s:S):Option (List D):=if f=s.o.length then lk b s.l else(s.o[f]?).bind (lk b)
def sbx (f b:Nat) (ds:List D) (s:S):S:=
 if f=s.o.length then s.wl (sb b ds s.l)else s.wo (s.o.modify f (sb b ds))
def pick (n:Option Nat) (ds:List D) (off:Nat):Option D:=
 match n with
 |none=>ds[off]?
 |some n=>if off+n<=ds.length then some (.agg ((ds.drop off).take n))else none
def over (ds:List D) (off:Nat) (cs:List D):List D:=ds.take off++cs++ds.drop (off+cs.length)
def D.bnd1 (k:Nat):D->Bool
 | .ptr f _ _=>f<k
 | .ref f _ _ _ _=>f<k
 | .clo _ caps=>caps.all fun| .ptr f _ _=>f<k| .v _=>true| .fptr _ _=>true|_=>false
 | .yld f _=>f<k
 | .agg _=>false
 | .tup _=>false
 | .nb _=>false
 |_=>true
def D.bnd2 (k:Nat):D->Bool
 | .agg cs=>cs.all (D.bnd1 k)
 |d=>d.bnd1 k
def D.bnd (k:Nat):D->Bool
 | .tup ds=>ds.all (D.bnd2 k)
 |d=>d.bnd2 k
def D.sto1:D->Bool
 | .v x=>x.oneCell'
 | .sl _ _ _=>true
 | .ptr _ _ _=>true
 | .ref _ _ _ _ _=>true
 | .fptr _ _=>true
 | .clo _ _=>true
 | .yld _ _=>true
 |_=>false
inductive Bop where
 |add|sub|mul|quo|rem|and|or|xor|andNot|shl|shr|eql|neq|lss|leq|gtr|geq
def bz (op:Bop) (k:IntKind) (a b:Int):Option Value:=
 match op with
 | .add=>some (.int k (k.wrap (a+b)))
 | .sub=>some (.int k (k.wrap (a-b)))
 | .mul=>some (.int k (k.wrap (a*b)))
 | .eql=>some (.bool (a==b))
 | .neq=>some (.bool (a !=b))
 | .lss=>some (.bool (a<b))
 | .leq=>some (.bool (a<=b))
 | .gtr=>some (.bool (a>b))
 | .geq=>some (.bool (a>=b))
 | .quo=>if b=0 then none else some (.int k (k.wrap (a.tdiv b)))
 | .rem=>if b=0 then none else some (.int k (a.tmod b))
 | .and=>some (.int k (k.wrap (BitVec.ofInt k.bits a&&&BitVec.ofInt k.bits b).toNat))
 | .or=>some (.int k (k.wrap (BitVec.ofInt k.bits a|||BitVec.ofInt k.bits b).toNat))
 | .xor=>some (.int k (k.wrap (BitVec.ofInt k.bits a^^^BitVec.ofInt k.bits b).toNat))
 | .andNot=>some (.int k (k.wrap (BitVec.ofInt k.bits a&&& ~~~(BitVec.ofInt k.bits b)).toNat))
 |_=>none
def bsh (op:Bop) (k:IntKind) (a b:Int):Option Value:=
 if b<0 then none else match op with
 | .shl=>some (.int k (k.wrap (a*2^(min b.toNat k.bits))))
 | .shr=>some (.int k (a.fdiv (2^(min b.toNat k.bits))))
 |_=>none
def veq:Value->Value->Value->Option Bool
 | .bool _,.bool a,.bool b=>some (a==b)
 | .string _,.string a,.string b=>some (a.toList==b.toList)
 | .int k _,.int k1 a,.int k2 b=>if k1=k∧k2=k then some (a==b)else none
 |_,_,_=>none
def veqs:List Value->List D->List D->Option Bool
 |[],[],[]=>some true
 |z::zs,.v x::r,.v y::r'=>match veq z x y,veqs zs r r' with
  |some a,some b=>some (a&&b)
  |_,_=>none
 |_,_,_=>none
def D.rf1:D->Bool
 | .v x=>x.oneCell'
 | .sl .nl _ _=>true
 | .sl .ro _ _=>true
 |_=>false
def D.capB:D->Bool
 | .v _=>true
 | .ptr _ _ _=>true
 | .fptr _ _=>true
 |_=>false
def lay (s:S):List D->List (Nat×Nat×Opd)->Option (List D)
 |cs,[]=>some cs
 |cs,(off,sz,x)::r=>
  if(rd x s).1.cells.length=sz∧off+sz<=cs.length∧(rd x s).1.cells.all D.sto1=true∧(rd x s).1.cells.all (fun d=>d.strip1.sto1)=true then lay s (over cs off ((rd x s).1.cells.map D.strip1)) r else none
def optI (s:S) (dflt:Int):Option Opd->Option Int
 |none=>some dflt
 |some x=>match(rd x s).1 with
  | .v (.int _ i)=>some i
  |_=>none
def rds (s:S):List Opd->List D
 |[]=>[]
 |x::r=>(rd x s).1::rds s r
def mnm (mx:Bool) (k:IntKind) (a:Int) (s:S):List Opd->Option Int
 |[]=>some a
 |x::r=>match(rd x s).1 with
  | .v (.int _ b)=>mnm mx k (if mx then(if b>a then b else a)else(if b<a then b else a)) s r
  |_=>none
inductive Op where
 |mv (x:Opd)
 |pk (c a b:Opd)
 |al (z:List Value)
 |bx (x:Opd)
 |bs (w:Bool) (z:Nat) (parts:List Opd)
 |ld (n:Option Nat) (p:Opd)
 |ldm (n:Option Nat) (p:Opd)
 |st (n:Nat) (p x:Opd)
 |bin (op:Bop) (x y:Opd)
 |no (x:Opd)
 |un (xr:Bool) (x:Opd)
 |fa (x:Opd) (off:Nat)
 |ia (x i:Opd) (z:Nat)
 |ext (x:Opd) (i:Nat)
 |call (f:Nat) (args:List Opd)
 |cv (f:Opd) (args:List Opd)
 |calf (f:Nat) (args:List Opd)
 |len (x:Opd)
 |lns (x:Opd)
 |six (x i:Opd)
 |bxo (u:Nat) (x:Opd)
 |mkm
 |mkn (u:Nat)
 |mlk (m k:Opd)
 |mup (m k:Opd)
 |ap (w:Bool) (z by_:Nat) (x y:Opd)
 |mk (w:Bool) (z by_:Nat) (ze:D) (n c:Opd)
 |bd (z:List Value) (parts:List (Nat×Nat×Opd))
 |slc (z:Nat) (x:Opd) (lo hi:Option Opd)
 |eqn (ne:Bool) (x:Opd)
 |eqs (ne:Bool) (x y:Opd)
 |eqb (ne:Bool) (x y:Opd)
 |eqa (ne:Bool) (z:List Value) (x y:Opd)
 |sh (op:Bop) (x y:Opd)
 |ci (k:IntKind) (x:Opd)
 |mm (mx:Bool) (x:Opd) (r:List Opd)
 |mf (f:Nat) (caps:List Opd)
 |nck (x:Opd)
 |bst (x:Opd)
 |cpy (x y:Opd)
 |pcal (f:Nat) (args:List Opd)
def keyK:D->Option (Int×Int)
 | .agg [.v (.int .i64 a),.v (.int .u32 c)]=>some (a,c)
 |_=>none
def memK (a c:Int):List D->Option Bool
 |[]=>some false
 | .v (.int .i64 x):: .v (.int .u32 y)::r=>if x=a∧y=c then some true else memK a c r
 |_=>none
def mkEl:List D->D
 |[d]=>d
 |l=>.agg l
def chunks (z:Nat):Nat->List D->List D
 |0,_=>[]
 |n+1,cs=>mkEl (cs.take z)::chunks z n (cs.drop z)
def u8s:List D->Option (List UInt8)
 |[]=>some []
 | .v (.int .u8 n)::r=>(u8s r).map fun l=>UInt8.ofNat n.toNat::l
 |_::_=>none
def D.snpP (s:S):D->Option D
 | .v x=>some (.v x)
 | .fptr cs off=>some (.fptr cs off)
 | .ptr f b off=>(bx f b s).bind fun cs=>if cs.all D.rf1=true then some (.fptr cs off)else none
 |_=>none
def snpC (s:S):List D->Option (List D)
 |[]=>some []
 |d::r=>match d.snpP s,snpC s r with
  |some d,some r=>some (d::r)
  |_,_=>none
def D.snp1 (s:S):D->Option D
 | .v x=>if x.oneCell'=true then some (.v x)else none
 | .sl .nl z xs=>some (.sl .nl z xs)
 | .sl _ z xs=>some (.sl .ro z xs)
 | .ref f b off n z=>if n=0 then some (.sl .ro z [])else(bx f b s).bind fun cs=>if off+n*z<=cs.length∧cs.all D.rf1=true then some (.sl .ro z (chunks z n (cs.drop off)))else none
 | .clo fn caps=>(snpC s caps).map (.clo fn)
 |_=>none
def snpL (s:S):List D->Option (List D)
 |[]=>some []
 |d::r=>match d.snp1 s,snpL s r with
  |some d,some r=>some (d::r)
  |_,_=>none
def D.snp (s:S):D->Option D
 | .agg cs=>(snpL s cs).map .agg
 |d=>d.snp1 s
def rdR (x:Opd) (s:S):D:=match x with
 | .t n=>get n s.e
 |x=>(rd x s).1
def snpA (s:S):List Opd->Option (List D)
 |[]=>some []
 |x::r=>match(rdR x s).snp s,snpA s r with
  |some d,some r=>some (d::r)
  |_,_=>none
abbrev Caller:=Nat->List D->List Bx->Option (D×List Bx)
def unsnoc {α:Type}:List α->Option (List α×α)
 |[]=>none
 |[x]=>some ([],x)
 |x::y::r=>(unsnoc (y::r)).map fun p=>(x::p.1,p.2)
def doCall (call:Caller) (f:Nat) (ds:List D) (s:S):Option (D×S):=
 match call f ds (s.o++[s.l])with
 |none=>none
 |some (d,o')=>match unsnoc o' with
  |some (o,l)=>some (d,(s.wo o).wl l)
  |none=>none
def evOp (call:Caller) (t:Option Nat):Op->S->Option (D×S)
 | .mv x,s=>let a:=rd x s;some a
 | .pk c a b,s=>match(rd c s).1 with
  | .v (.bool q)=>some (if q then rd a s else rd b s)
  |_=>none
 | .al z,s=>match t with
  |some t=>match lk t s.l with
   |none=>some (.ptr s.o.length t 0,s.wl (ins t (z.map zc) s.l))
   |some _=>none
  |none=>none
 | .bxo u x,s=>match unsnoc s.o with
  |some (o0,l0)=>match lk u l0 with
   |none=>if l0.isEmpty=false∧(rd x s).1.bnd2 (o0.length+1)=true∧(rd x s).1.cells.all D.sto1=true then some (.ptr (s.o.length-1) u 0,(rd x s).2.wo (o0++[ins u (rd x s).1.cells l0]))else none
   |some _=>none
  |none=>none
 | .mkm,s=>some (.u,s)
 | .mkn u,s=>match lk u s.l with
  |none=>some (.yld s.o.length u,s.wl (ins u [] s.l))
  |some _=>none
 | .mlk m k,s=>match(rd m s).1,keyK (rd k s).1 with
  | .yld f b,some (a,c)=>match bx f b s with
   |some ds=>(memK a c ds).map fun q=>(.v (.bool q),s)
   |none=>none
  |_,_=>none
 | .mup m k,s=>match(rd m s).1,keyK (rd k s).1 with
  | .yld f b,some (a,c)=>match bx f b s with
   |some ds=>(memK a c ds).map fun q=>(.u,sbx f b (if q then ds else ds++[.v (.int .i64 a),.v (.int .u32 c)]) s)
   |none=>none
  |_,_=>none
 | .bx x,s=>match t with
  |some t=>match lk t s.l with
   |none=>let a:=rd x s
    if a.1.bnd2 (s.o.length+1)=true∧a.1.cells.all D.sto1=true then some (.ptr s.o.length t 0,a.2.wl (ins t a.1.cells a.2.l))else none
   |some _=>none
  |none=>none
 | .ld n p,s=>match(rd p s).1 with
  | .ptr f b off=>match bx f b s with
   |some ds=>(pick n ds off).map fun d=>(d.strip,s)
   |none=>none
  | .fptr cs off=>(pick n cs off).map fun d=>(d,s)
  |_=>none
 | .ldm n p,s=>match(rd p s).1 with
  | .ptr f b off=>match bx f b s with
   |some ds=>(pick n ds off).map fun d=>(d,sbx f b (over ds off d.strip.cells) s)
   |none=>none
  |_=>none
 | .st n p x,s=>match(rd p s).1 with
  | .ptr f b off=>let a:=rd x s
   match bx f b s with
   |some ds=>if a.1.cells.length=n∧off+n<=ds.length∧a.1.bnd2 (f+1)=true∧a.1.cells.all D.sto1=true then some (.u,sbx f b (over ds off a.1.cells) a.2)else none
   |none=>none
  |_=>none
 | .bin op x y,s=>match(rd x s).1,(rd y s).1 with
  | .v (.int k a),.v (.int k' b)=>if k=k' then(bz op k a b).map fun v=>(.v v,s)else none
  |_,_=>none
 | .no x,s=>match(rd x s).1 with
  | .v (.bool b)=>some (.v (.bool !b),s)
  |_=>none
 | .un xr x,s=>match(rd x s).1 with
  | .v (.int k a)=>(if xr then bz .xor k (if k.signed then -1 else k.max) a else bz .sub k 0 a).map fun v=>(.v v,s)
  |_=>none
 | .fa x off,s=>match(rd x s).1 with
  | .ptr f b o=>some (.ptr f b (o+off),s)
  | .fptr cs o=>some (.fptr cs (o+off),s)
  |_=>none
 | .ia x i z,s=>match(rd x s).1,(rd i s).1 with
  | .sl m z' xs,.v (.int _ i)=>if z=z'∧0<=i∧m≠ .mu then(xs[i.toNat]?).map fun d=>(.fptr d.cells 0,s)else none
  | .ref f b off n z',.v (.int _ i)=>if z=z'∧0<=i∧i<n then some (.ptr f b (off+i.toNat*z),s)else none
  |_,_=>none
 | .ext x i,s=>match x with
  | .m n=>match get n s.e with
   | .tup ds=>(ds[i]?).map fun d=>(d,put n (.tup (ds.set i d.strip2)) s)
   |_=>none
  |x=>match(rd x s).1 with
   | .tup ds=>(ds[i]?).map fun d=>(d,s)
   |_=>none
 | .call f args,s=>let a:=rdL args s;doCall call f a.1 a.2
 | .cv x args,s=>match(rd x s).1 with
  | .clo f caps=>let a:=rdL args s;doCall call f (a.1++caps) a.2
  | .yld f b=>match bx f b s with
   |some (.rcd _ _ rid _::_)=>let a:=rdL args s;doCall call rid (.yld f b::a.1) a.2
   |_=>none
  |_=>none
 | .calf f args,s=>let a:=rdL args s;match doCall call f a.1 a.2 with
  |some (d,s')=>some (dwnA d,s')
  |none=>none
 | .len x,s=>match(rd x s).1 with
  | .sl _ _ xs=>some (.v (.int .i64 xs.length),s)
  | .ref _ _ _ n _=>some (.v (.int .i64 n),s)
  |_=>none
 | .lns x,s=>match(rd x s).1 with
  | .v (.string b)=>some (.v (.int .i64 b.size),s)
  |_=>none
 | .bs w z parts,s=>
  let xs:=rds s parts
  if xs.all (fun d=>d.cells.length=z&&d.cells.all D.rf1)=true then some (.sl (if w then .mu else .app) z xs,s)else none
 | .six x i,s=>match(rd x s).1,(rd i s).1 with
  | .v (.string b),.v (.int _ n)=>if 0<=n then(b[n.toNat]?).map fun c=>(.v (.int .u8 c.toNat),s)else none
  |_,_=>none
 | .ap w z by_ x y,s=>let a:=rd x s
  match a.1,(rd y s).1 with
  | .sl .nl _ _,.sl m z' ys=>if(z=z'∨ys.isEmpty=true)∧m≠ .mu∧m≠ .app∧ys.length*by_<=140737488355328 then some (if ys.isEmpty then .sl .nl 0 []else .sl (if w then .mu else .app) z ys,a.2)else none
  | .sl .mu z1 xs,.sl m z' ys=>if z=z1∧(z=z'∨ys.isEmpty=true)∧m≠ .mu∧m≠ .app∧(xs.length+ys.length)*by_<=140737488355328 then some (.sl .mu z (xs++ys),a.2)else none
  | .sl .app z1 xs,.sl m z' ys=>if z=z1∧(z=z'∨ys.isEmpty=true)∧m≠ .mu∧m≠ .app∧(xs.length+ys.length)*by_<=140737488355328 then some (.sl .app z (xs++ys),a.2)else none
  |_,_=>none
 | .mk w z by_ ze n c,s=>match(rd n s).1,(rd c s).1 with
  | .v (.int _ n),.v (.int _ c)=>if 0<=n∧n<=c∧by_*c<=140737488355328 then some (.sl (if w then .mu else .app) z (List.replicate n.toNat ze),s)else none
  |_,_=>none
 | .bd z parts,s=>(lay s (z.map zc) parts).map fun cs=>(.agg cs,s)
 | .slc z x lo hi,s=>match(rd x s).1 with
  | .sl m z' xs=>
   match optI s 0 lo,optI s xs.length hi with
   |some l,some h=>if(z=z'∨xs.isEmpty=true)∧0<=l∧l<=h∧h<=xs.length then(match m with
    | .nl=>some (.sl .nl 0 [],s)
    | .ro=>some (.sl .ro z ((xs.take h.toNat).drop l.toNat),s)
    |_=>none)else none
   |_,_=>none
  | .ref f b off n z'=>
   match optI s 0 lo,optI s n hi with
   |some l,some h=>if z=z'∧0<=l∧l<=h∧h<=n then some (.ref f b (off+l.toNat*z) (h.toNat-l.toNat) z,s)else none
   |_,_=>none
  |_=>none
 | .eqn ne x,s=>match(rd x s).1 with
  | .sl .nl _ _=>some (.v (.bool !ne),s)
  | .sl _ _ _=>some (.v (.bool ne),s)
  | .ref _ _ _ _ _=>some (.v (.bool ne),s)
  |_=>none
 | .eqs ne x y,s=>match(rd x s).1,(rd y s).1 with
  | .v (.string a),.v (.string b)=>some (.v (.bool ((a.toList==b.toList)!=ne)),s)
  |_,_=>none
 | .eqb ne x y,s=>match(rd x s).1,(rd y s).1 with
  | .v (.bool a),.v (.bool b)=>some (.v (.bool ((a==b)!=ne)),s)
  |_,_=>none
 | .eqa ne z x y,s=>match(rd x s).1,(rd y s).1 with
  | .agg xs,.agg ys=>(veqs z xs ys).map fun q=>(.v (.bool (q !=ne)),s)
  |_,_=>none
 | .sh op x y,s=>match(rd x s).1,(rd y s).1 with
  | .v (.int k a),.v (.int _ b)=>(bsh op k a b).map fun v=>(.v v,s)
  |_,_=>none
 | .ci k x,s=>match(rd x s).1 with
  | .v (.int _ a)=>some (.v (.int k (k.wrap a)),s)
  |_=>none
 | .mm mx x r,s=>match(rd x s).1 with
  | .v (.int k a)=>(mnm mx k a s r).map fun v=>(.v (.int k v),s)
  |_=>none
 | .mf f caps,s=>let ds:=rds s caps
  if ds.all D.capB=true then some (.clo f ds,s)else none
 | .nck x,s=>match(rd x s).1 with
  | .ptr f b o=>some (.ptr f b o,s)
  | .fptr cs o=>some (.fptr cs o,s)
  |_=>none
 | .bst x,s=>match(rd x s).1 with
  | .sl m z xs=>if m≠ .mu∧m≠ .app∧(z=1∨xs.isEmpty=true)then(u8s xs).map fun l=>(.v (.string ⟨l.toArray⟩),s)else none
  |_=>none
 | .cpy x y,s=>match(rd x s).1,(rd y s).1 with
  | .sl .nl _ _,.sl m _ _=>if m≠ .mu∧m≠ .app then some (.v (.int .i64 0),s)else none
  | .ref f b off n z,.sl m z' ys=>if m≠ .mu∧m≠ .app then(if n=0 then some (.v (.int .i64 0),s)else match bx f b s with
   |some ds=>if z=1∧(z'=1∨ys.isEmpty=true)∧off+n<=ds.length∧((ys.take n).flatMap D.cells).length=min ys.length n∧((ys.take n).flatMap D.cells).all (D.bnd1 (f+1))=true∧((ys.take n).flatMap D.cells).all D.sto1=true then
     some (.v (.int .i64 (min ys.length n:Nat)),sbx f b (over ds off ((ys.take n).flatMap D.cells)) s)else none
   |none=>none)else none
  |_,_=>none
 | .pcal f args,s=>match snpA s args with
  |some ds=>match call f ds []with
   |some (.v x,[])=>some (.v x,s)
   |_=>none
  |none=>none
structure Stp where
 t:Option Nat
 g:Option (Nat×Bool)
 op:Op
def evStp (call:Caller) (p:Stp) (s:S):Option S:=
 match p.g with
 |none=>(evOp call p.t p.op s).map fun r=>putO p.t r.1 r.2
 |some (q,want)=>match get q s.e with
  | .v (.bool b)=>if b=want then(evOp call p.t p.op s).map fun r=>putO p.t r.1 r.2 else some (putO p.t (.v undef) s)
  | .v _=>some (putO p.t (.v undef) s)
  |_=>none
def evOps (call:Caller):List Stp->S->Option S
 |[],s=>some s
 |p::r,s=>(evStp call p s).bind (evOps call r)
open Classical in
noncomputable def qv (c:Caller) (n f:Nat) (ds:List D):Option D:=if h:∃d,∀B:List Bx,B.length=n->c f ds B=some (d,B)then some h.choose else none
inductive Ba where
 |no
 |rd (f b off n:Nat)
 |wr (f b off:Nat) (cs:List D)
 |al (t:Nat) (ds:List D)
structure Ins where
 d:D
 mv:Option Nat
 a:Ba
def Ba.ap:Ba->S->S
 | .no,s=>s
 | .rd _ _ _ _,s=>s
 | .wr f b off cs,s=>sbx f b (over ((bx f b s).getD []) off cs) s
 | .al t ds,s=>s.wl (ins t ds s.l)
def moved:Option Nat->S->S
 |none,s=>s
 |some n,s=>put n (get n s.e).strip s
def Ins.ap (i:Ins) (t:Option Nat) (s:S):S:=putO t i.d (moved i.mv (i.a.ap s))
def Opd.rs:Opd->List Nat
 | .t n=>[n]
 | .m n=>[n]
 |_=>[]
def Opd.ms:Opd->Option Nat
 | .m n=>some n
 |_=>none
def Opd.ot:Opd->Bool
 | .m _=>false
 |_=>true
def Oop:Option Opd->List Nat
 |none=>[]
 |some x=>x.rs
def Op.rs:Op->List Nat
 | .mv x| .bx x| .bxo _ x| .ld _ x| .ldm _ x| .no x| .un _ x| .fa x _| .ext x _| .len x| .lns x| .eqn _ x| .ci _ x| .nck x| .bst x=>x.rs
 | .pk c a b=>c.rs++a.rs++b.rs
 | .mlk x y| .mup x y| .st _ x y| .six x y| .bin _ x y| .ia x y _| .ap _ _ _ x y| .mk _ _ _ _ x y| .eqs _ x y| .eqb _ x y| .eqa _ _ x y| .sh _ x y| .cpy x y=>x.rs++y.rs
 | .al _| .mkm| .mkn _=>[]
 | .bs _ _ xs| .call _ xs| .calf _ xs| .mf _ xs| .pcal _ xs=>xs.flatMap Opd.rs
 | .cv x xs| .mm _ x xs=>x.rs++xs.flatMap Opd.rs
 | .bd _ ps=>ps.flatMap fun p=>p.2.2.rs
 | .slc _ x lo hi=>x.rs++Oop lo++Oop hi
def Op.ms:Op->Option Nat
 | .mv x=>x.ms
 | .ap _ _ _ x _=>x.ms
 | .st _ _ x=>x.ms
 |_=>none
def Op.neut:Op->Bool
 | .mv _=>true
 | .pk _ a b=>a.ot&&b.ot
 | .ext x _=>x.ot
 | .six .. | .bin .. | .no _| .un .. | .fa .. | .ia .. | .len _| .lns _| .ap .. | .mk .. | .bd .. | .slc .. | .bs .. | .eqn .. | .eqs .. | .eqb .. | .eqa .. | .sh .. | .ci .. | .mm .. | .mf .. | .nck _| .bst _=>true
 |_=>false
noncomputable def inst (c:Caller) (t:Option Nat) (p:Op) (s:S):Option Ins:=
 match p with
 | .ld n x=>match(rd x s).1 with
  | .ptr f b off=>match bx f b s with
   |some ds=>(pick n ds off).map fun d=>⟨d.strip,none,.rd f b off (n.getD 1)⟩
   |none=>none
  | .fptr cs off=>(pick n cs off).map fun d=>⟨d,none,.no⟩
  |_=>none
 | .ldm n x=>match(rd x s).1 with
  | .ptr f b off=>match bx f b s with
   |some ds=>(pick n ds off).map fun d=>⟨d,none,.wr f b off d.strip.cells⟩
   |none=>none
  |_=>none
 | .st n x y=>match(rd x s).1 with
  | .ptr f b off=>match bx f b s with
   |some ds=>if(rd y s).1.cells.length=n∧off+n<=ds.length∧(rd y s).1.bnd2 (f+1)=true∧(rd y s).1.cells.all D.sto1=true then some ⟨.u,y.ms,.wr f b off (rd y s).1.cells⟩else none
   |none=>none
  |_=>none
 | .cpy x y=>match(rd x s).1,(rd y s).1 with
  | .sl .nl _ _,.sl m _ _=>if m≠ .mu∧m≠ .app then some ⟨.v (.int .i64 0),none,.no⟩else none
  | .ref f b off n z,.sl m z' ys=>if m≠ .mu∧m≠ .app then(if n=0 then some ⟨.v (.int .i64 0),none,.no⟩else match bx f b s with
   |some ds=>if z=1∧(z'=1∨ys.isEmpty=true)∧off+n<=ds.length∧((ys.take n).flatMap D.cells).length=min ys.length n∧((ys.take n).flatMap D.cells).all (D.bnd1 (f+1))=true∧((ys.take n).flatMap D.cells).all D.sto1=true then
     some ⟨.v (.int .i64 (min ys.length n:Nat)),none,.wr f b off ((ys.take n).flatMap D.cells)⟩else none
   |none=>none)else none
  |_,_=>none
 | .al z=>match t with
  |some t=>match lk t s.l with
   |none=>some ⟨.ptr s.o.length t 0,none,.al t (z.map zc)⟩
   |some _=>none
  |none=>none
 | .call f xs=>if xs.all Opd.ot=true then(qv c (s.o.length+1) f (rds s xs)).map fun d=>⟨d,none,.no⟩else none
 | .calf f xs=>if xs.all Opd.ot=true then(qv c (s.o.length+1) f (rds s xs)).map fun d=>⟨dwnA d,none,.no⟩else none
 | .cv x xs=>if xs.all Opd.ot=true then(match(rd x s).1 with
  | .clo f caps=>(qv c (s.o.length+1) f (rds s xs++caps)).map fun d=>⟨d,none,.no⟩
  |_=>none)else none
 |p=>if p.neut=true then(evOp c t p s).map fun r=>⟨r.1,p.ms,.no⟩else none
noncomputable def instS (c:Caller) (p:Stp) (s:S):Option Ins:=
 match p.g with
 |none=>inst c p.t p.op s
 |some (q,want)=>match get q s.e with
  | .v (.bool b)=>if b=want then inst c p.t p.op s else some ⟨.v undef,none,.no⟩
  | .v _=>some ⟨.v undef,none,.no⟩
  |_=>none
def Stp.rs (p:Stp):List Nat:=(match p.g with|some (q,_)=>[q]|none=>[])++p.op.rs
def Ba.loc (k:Nat):Ba->Option (Nat×Nat)
 | .no=>none
 | .rd f b _ _=>some (f,b)
 | .wr f b _ _=>some (f,b)
 | .al t _=>some (k,t)
def Ba.w:Ba->Bool
 | .wr _ _ _ _=>true
 | .al _ _=>true
 |_=>false
def Ba.dj:Ba->Ba->Bool
 | .rd _ _ o n,.wr _ _ o' cs=>cs.length==1&&(decide (o+n<=o')||decide (o'+1<=o))
 | .wr _ _ o' cs,.rd _ _ o n=>cs.length==1&&(decide (o+n<=o')||decide (o'+1<=o))
 |_,_=>false
def Ba.co (k:Nat) (a b:Ba):Bool:=match a.loc k,b.loc k with
 |some x,some y=> !(a.w||b.w)|| !(x.1==y.1&&x.2==y.2)||a.dj b
 |_,_=>true
noncomputable def evDr (c:Caller):List (Stp×List Nat)->List Ba->S->Option S
 |[],_,s=>some s
 |(p,un)::r,acts,s=>match instS c p s with
  |some i=>if un.all (fun m=>(acts.getD m .no).co s.o.length i.a)=true then evDr c r (acts++[i.a]) (i.ap p.t s)else none
  |none=>none
abbrev I (n:Int):Opd:=.c (.int .i64 n)
def s_ (t:Nat) (op:Op):Stp:=⟨some t,none,op⟩
def n_ (op:Op):Stp:=⟨none,none,op⟩
def g_ (q:Nat) (w:Bool) (t:Nat) (op:Op):Stp:=⟨some t,some (q,w),op⟩
inductive Gc where
 |th (b c id:Nat)
 |dg (b c:Nat)
 |ufc (b c id:Nat)
inductive Cd where
 |sk
 |rg (l:List Stp)
 |sq (a b:Cd)
 |ff (c:Opd) (a b:Cd)
 |bl (id:Nat) (c:Cd)
 |lp (ks bs:List Nat) (c:Cd)
 |rf (x:Opd) (b rid:Nat) (ks:List Nat)
 |dr (l:List (Stp×List Nat))
 |gs (l:List Gc) (c:Cd)
 |dra (l:List (Stp×List Nat))
 |ex (id:Nat)
 |rt
 |dead
 |del (z:Nat)
inductive Ex where
 |nm
 |ex (id:Nat)
 |rt
 deriving DecidableEq
def D.in1 (k:Nat) (bs:List Nat):D->Bool
 | .ptr f s _=>f<k||(f==k&&bs.contains s)
 | .ref f s _ _ _=>f<k||(f==k&&bs.contains s)
 | .clo _ caps=>caps.all fun| .ptr f s _=>f<k||(f==k&&bs.contains s)| .v _=>true| .fptr _ _=>true|_=>false
 | .v _=>true
 | .sl _ _ _=>true
 | .fptr _ _=>true
 | .yld f _=>f<k
 | .u=>true
 |_=>false
def D.in2 (k:Nat) (bs:List Nat):D->Bool
 | .agg cs=>cs.all (D.in1 k bs)
 |d=>d.in1 k bs
def D.inn (k:Nat) (bs:List Nat):D->Bool
 | .tup ds=>ds.all (D.in2 k bs)
 |d=>d.in2 k bs
def carE (k:Nat) (bs:List Nat) (e:Env):List Nat->Option Env
 |[]=>some []
 |t::r=>if(get t e).inn k bs then(carE k bs e r).map fun q=>(t,get t e)::q else none
def carL (k:Nat) (bs:List Nat) (l:Bx):List Nat->Option Bx
 |[]=>some []
 |b::r=>match lk b l with
  |some ds=>if ds.all (D.in1 k bs)then(carL k bs l r).map fun q=>(b,ds)::q else none
  |none=>none
def carry (ks bs:List Nat) (s:S):Option S:=
 match carE s.o.length bs s.e ks,carL s.o.length bs s.l bs with
 |some e,some l=>some ⟨e,l,s.o⟩
 |_,_=>none
def iter (body:S->Option (Ex×S)) (cr:S->Option S):Nat->S->Option (Ex×S)
 |0,_=>none
 |n+1,s=>match cr s with
  |none=>none
  |some s1=>match body s1 with
   |none=>none
   |some (.nm,s2)=>iter body cr n s2
   |some (x,s2)=>some (x,s2)
open Classical in
noncomputable def lim {α:Type} (f:Nat->Option α):Option α:=if h:∃n r,f n=some r then some (h.choose_spec.choose)else none
def Ex.code:Ex->Nat
 | .nm=>0
 | .rt=>1
 | .ex id=>id+2
def exOf:Nat->Ex
 |0=>.nm
 |1=>.rt
 |n+2=>.ex n
def D.cap (k:Nat) (d:D):Bool:= !d.aggB&& !d.tupB&&d.bnd1 k
def evR (call:Caller) (x:Opd) (b rid:Nat) (ks:List Nat) (s:S):Option (Ex×S):=
 match(rd x s).1 with
 | .clo fn caps0=>
  if(lk b s.l).isNone=true∧((ks.map fun t=>(get t s.e).strip).all (D.cap (s.o.length+1)))=true then
   match doCall call fn (.yld s.o.length b::caps0) (s.wl (ins b (.rcd 0 0 rid ks::ks.map fun t=>(get t s.e).strip) s.l))with
   |some (_,s2)=>match lk b s2.l with
    |some (.rcd st jm rid2 ks2::caps2)=>if st=1 then none else some (exOf jm,s2.wl (sb b (.rcd 3 jm rid2 ks2::caps2) s2.l))
    |_=>none
   |none=>none
  else none
 |_=>none
def D.frzP (k:Nat) (l:Bx):D->D
 | .ptr f b off=>if f=k then(match lk b l with
  |some cs=>if cs.all D.rf1=true then .fptr cs off else .ptr f b off
  |none=>.ptr f b off)else .ptr f b off
 | .ref f b off n z=>if f=k then(match lk b l with
  |some cs=>if cs.all D.rf1=true then(if off+n*z<=cs.length then .sl .ro z (chunks z n (cs.drop off))else .u)else .ref f b off n z
  |none=>.ref f b off n z)else .ref f b off n z
 |d=>d
def D.frz1 (k:Nat) (l:Bx):D->D
 | .clo fn caps=>.clo fn (caps.map (D.frzP k l))
 |d=>d.frzP k l
def D.frz2 (k:Nat) (l:Bx):D->D
 | .agg cs=>.agg (cs.map (D.frz1 k l))
 |d=>d.frz1 k l
def D.frz3 (k:Nat) (l:Bx):D->D
 | .tup ds=>.tup (ds.map (D.frz2 k l))
 |d=>d.frz2 k l
def rmL (b:Nat):Bx->Bx
 |[]=>[]
 |(b',ds)::r=>if b=b' then rmL b r else(b',ds)::rmL b r
def D.klP (k id:Nat):D->D
 | .ptr f b off=>if f=k∧b=id then .u else .ptr f b off
 | .ref f b off n z=>if f=k∧b=id then .u else .ref f b off n z
 |d=>d
def D.toV (k id:Nat):D->Bool
 | .ptr f b _=>f=k∧b=id
 |_=>false
def D.kl1 (k id:Nat):D->D
 | .clo fn caps=>if caps.any (D.toV k id)=true then .u else .clo fn caps
 |d=>d.klP k id
def D.kl2 (k id:Nat):D->D
 | .agg cs=>.agg (cs.map (D.kl1 k id))
 |d=>d.kl1 k id
def D.kl3 (k id:Nat):D->D
 | .tup ds=>.tup (ds.map (D.kl2 k id))
 |d=>d.kl2 k id
def klE (k id:Nat) (e:Env):Env:=e.map fun p=>(p.1,p.2.kl3 k id)
def klL (k id:Nat) (B:Bx):Bx:=B.map fun p=>(p.1,p.2.map (D.kl1 k id))
def evG1:Gc->S->Option S
 | .th b c id,s=>match lk b s.l with
  |some ds=>match ds[c]? with
   |some (.sl .mu z xs)=>if(lk id s.l).isNone=true∧xs.all (fun d=>d.cells.all D.rf1)=true then some (s.wl (ins id (xs.flatMap D.cells) (sb b (ds.set c (.ref s.o.length id 0 xs.length z)) s.l)))else none
   |some _=>some s
   |none=>none
  |none=>none
 | .dg b c,s=>match lk b s.l with
  |some ds=>match ds[c]? with
   |some (.sl .mu z xs)=>some (s.wl (sb b (ds.set c (.sl .app z xs)) s.l))
   |some _=>some s
   |none=>none
  |none=>none
 | .ufc b c id,s=>match lk id s.l with
  |none=>match(lk b s.l).bind (fun ds=>ds[c]?)with
   |some (.ref f b' _ _ z)=>if f=s.o.length∧b'=id then(lk b s.l).map fun ds=>s.wl (sb b (ds.set c (.sl .mu z [])) s.l)else some s
   |_=>some s
  |some cs=>match lk b s.l with
   |none=>none
   |some ds=>match ds[c]? with
    |some (.ref f b' off n z)=>if f=s.o.length∧b'=id∧off=0∧n*z=cs.length∧cs.all D.rf1=true∧b≠id then some ⟨klE s.o.length id s.e,sb b ((ds.map (D.kl1 s.o.length id)).set c (.sl .mu z (chunks z n cs))) (klL s.o.length id (rmL id s.l)),s.o⟩else none
    |_=>some s
def evG:List Gc->S->Option S
 |[],s=>some s
 |p::r,s=>(evG1 p s).bind (evG r)
def SEq (s t:S):Prop:=s.l=t.l∧s.o=t.o∧∀n,get n s.e=get n t.e
def rdy (l:List (Stp×List Nat)) (done:List Nat) (i:Nat):Bool:=match l[i]? with
 |some (_,ds)=> !done.contains i&&ds.all done.contains
 |none=>false
def AllR (call:Caller) (l:List (Stp×List Nat)):Nat->List Nat->S->S->Prop
 |0,_,s,s'=>SEq s s'
 |n+1,done,s,s'=>∀i p ds,l[i]? =some (p,ds)->rdy l done i=true->∃s1,evStp call p s=some s1∧AllR call l n (i::done) s1 s'
open Classical in
noncomputable def evC (call:Caller):Cd->S->Option (Ex×S)
 | .sk,s=>some (.nm,s)
 | .rg l,s=>(evOps call l s).map fun s=>(.nm,s)
 | .sq a b,s=>match evC call a s with
  |some (.nm,s)=>evC call b s
  |r=>r
 | .ff c a b,s=>match(rd c s).1 with
  | .v (.bool q)=>if q then evC call a s else evC call b s
  |_=>none
 | .bl id c,s=>match evC call c s with
  |some (.ex i,s)=>if i=id then some (.nm,s)else some (.ex i,s)
  |r=>r
 | .lp ks bs c,s=>lim fun n=>iter (evC call c) (carry ks bs) n s
 | .rf x b rid ks,s=>evR call x b rid ks s
 | .dr l,s=>(evDr call l [] s).map fun s=>(.nm,s)
 | .dra l,s=>match evOps call (l.map (·.1)) s with
  |some s'=>if AllR call l l.length [] s s' then some (.nm,s')else none
  |none=>none
 | .gs l c,s=>match evG l s with
  |some s=>evC call c s
  |none=>none
 | .ex id,s=>some (.ex id,s)
 | .rt,s=>some (.rt,s)
 | .dead,_=>none
 | .del z,s=>match s.e with
  |[(0,.sl .mu z' xs),(1,.v (.int .i64 i)),(2,.v (.int .i64 j))]=>if z=z'∧0<=i∧i<=j∧j<=xs.length then some (.rt,⟨[(6,.sl .mu z (xs.take i.toNat++xs.drop j.toNat))],s.l,s.o⟩)else none
  |_=>none
inductive Res where
 |t (n:Nat)
 |c (n:Nat) (q:Option Nat)
structure Fn where
 nt:Nat
 keep:Bool
 res:List Res
 rnd:Option (List Nat×Cd)
 body:Cd
def argE:Nat->List D->Env
 |_,[]=>[]
 |i,d::r=>(i,d)::argE (i+1) r
def res1 (call:Caller) (r:Res) (s:S):Option (D×S):=
 match r with
 | .t n=>some (rd (.m n) s)
 | .c n q=>evOp call none (.ldm q (.t n)) s
def resL (call:Caller):List Res->S->Option (List D×S)
 |[],s=>some ([],s)
 |r::rs,s=>(res1 call r s).bind fun a=>(resL call rs a.2).map fun b=>(a.1::b.1,b.2)
def mkRes:List D->D
 |[d]=>d
 |ds=>.tup ds
def envR:List Nat->List D->Env->Env
 |p::ps,d::ds,e=>envR ps ds ((p,d.strip)::e)
 |_,_,e=>e
def envC:List Nat->List D->Env
 |t::ts,d::ds=>(t,d.strip)::envC ts ds
 |_,_=>[]
noncomputable def runR (call:Caller) (F:Fn) (ps:List Nat) (asg:Cd) (rid:Nat) (f b:Nat) (args:List D) (B:List Bx):Option (D×List Bx):=
 match bx f b ⟨[],[],B⟩with
 |some (.rcd 0 0 rid0 ks::caps)=>
  if rid0=rid∧f<B.length∧args.length=ps.length∧args.all (fun d=> !d.tupB)=true then
   match evC call asg ⟨envR ps args (envC ks caps),[],B⟩with
   |some (.nm,s1)=>match bx f b s1 with
    |some (.rcd 0 j1 rid1 ks1::caps1)=>match evC call F.body (sbx f b (.rcd 1 j1 rid1 ks1::caps1) s1)with
     |some (x,s2)=>match bx f b s2 with
      |some (.rcd _ _ rid2 ks2::caps2)=>some (.v (.bool (x.code==0)),(sbx f b (.rcd (if x.code=0 then 0 else 2) x.code rid2 ks2::caps2) s2).o)
      |_=>none
     |none=>none
    |_=>none
   |_=>none
  else none
 |_=>none
noncomputable def runF (prog:Nat->Option Fn) (call:Caller):Caller:=fun f ds B=>
 match prog f with
 |none=>none
 |some F=>match F.rnd with
  |none=>if ds.length<=F.nt∧ds.all (fun d=> !d.tupB)=true then match evC call F.body ⟨argE 0 ds,[],B⟩with
   |some (.ex _,_)=>none
   |some (_,s)=>(resL call F.res s).bind fun a=>
    let ds:=a.1.map (D.frz2 B.length a.2.l)
    if ds.all (D.bnd2 B.length)then some (if F.keep then mkRes ds else(mkRes ds).strip,a.2.o)else none
   |none=>none
   else none
  |some (ps,asg)=>match ds with
   | .yld f' b::args=>runR call F ps asg f f' b args B
   |_=>none
inductive EFr (prog:Nat->Option Fn):Nat->List D->List Bx->D×List Bx->Prop
 |mk {f:Nat} {ds:List D} {B:List Bx} {r:D×List Bx} (c:Caller) (h:∀f ds B r,c f ds B=some r->EFr prog f ds B r) (he:runF prog c f ds B=some r):EFr prog f ds B r
open Classical in
noncomputable def EF (prog:Nat->Option Fn):Caller:=fun f ds B=>if h:∃r,EFr prog f ds B r then some h.choose else none
theorem EF_r {prog:Nat->Option Fn} {f:Nat} {ds:List D} {B:List Bx} {r:D×List Bx} (h:EF prog f ds B=some r):EFr prog f ds B r:=by
 unfold EF at h
 split at h
 ·rename_i hx;injection h with h;rw[<-h];exact hx.choose_spec
 ·cases h
end Go.Proofs.Ytfopbiiffiickaa.Ev
namespace Go.Proofs.Ytfopbiiffiickaa.Ev
open Go
structure Loc where
 (k f s i c:Nat)
 deriving DecidableEq
def slotL (f t:Nat) (i c:Nat):Loc:=⟨0,f,t,i,c⟩
def boxL (f b:Nat) (c:Nat):Loc:=⟨1,f,b,0,c⟩
def retL (i c:Nat):Loc:=⟨2,0,0,i,c⟩
structure G where
 base:Nat
 bx:Nat->Nat->Option Nat
 fr:Nat->Nat
 tk:Nat->Option Loc
 dm:Nat->Bool
def RL:Nat:=1000000
def ML:Nat:=1500000
def rounds:Code->List (Array Tmp×Code×Code)
 | .seq a b=>rounds a++rounds b
 | .cond _ a b=>rounds a++rounds b
 | .block _ c=>rounds c
 | .loop c=>rounds c
 | .scope c=>rounds c
 | .rangeFunc _ ps a c=>(ps,a,c)::(rounds a++rounds c)
 |_=>[]
def roundOf (P:Program) (rid:Nat):Option (Nat×Array Tmp×Code×Code):=
 (P.funcs[(rid-RL)/1000]?).bind fun fn=>fn.body.bind fun c=>((rounds c)[(rid-RL)%1000]?).map fun p=>(fn.ntmps,p)
def stOf:Nat->LoopState
 |0=>.ready
 |1=>.busy
 |2=>.done
 |_=>.exhausted
def jumpOf:Nat->Option Code
 |0=>none
 |1=>some .ret
 |n+2=>some (.exit n)
def Gr (w w':World):Prop:=∀b o,(w.cell? ⟨b,o,none⟩).isSome->(w'.cell? ⟨b,o,none⟩).isSome
theorem Gr.refl (w:World):Gr w w:=fun _ _ h=>h
theorem Gr.trans {w w1 w2:World} (h:Gr w w1) (h':Gr w1 w2):Gr w w2:=fun b o q=>h' b o (h b o q)
theorem Gr.old {w w':World} (h:∀b,b<w.heap.size->w'.heap[b]? =w.heap[b]?):Gr w w':=fun b o q=>by
 have hb:b<w.heap.size:=by
  rcases Nat.lt_or_ge b w.heap.size with hl|hl
  ·exact hl
  ·simp[World.cell?,Array.getElem?_eq_none hl]at q
 simp only[World.cell?,h b hb]at q ⊢;exact q
inductive RF (w:World) (fr:Nat->Nat):Value->D->Prop
 |v (x:Value) (h:x.oneCell'=true):RF w fr x (.v x)
 |nl (z:Nat):RF w fr (.slice none 0 0) (.sl .nl z [])
 |z (a:Addr) (z:Nat):RF w fr (.slice (some a) 0 0) (.sl .ro z [])
 |ro (b off cap z:Nat) (xs:List D) (val:Nat->Nat->Value) (h1:xs.length<=cap) (h2:cap<=maxLen) (h3:xs=[]∨off+xs.length*z<=fr b)
   (h4:∀(i:Nat) d,xs[i]? =some d->d.cells.length=z)
   (h5:∀(i:Nat) d (j:Nat) c,xs[i]? =some d->d.cells[j]? =some c->w.cell? ⟨b,off+i*z+j,none⟩=some (val i j))
   (h6:∀(i:Nat) d (j:Nat) c,xs[i]? =some d->d.cells[j]? =some c->RF w fr (val i j) c):
   RF w fr (.slice (some ⟨b,off,none⟩) xs.length cap) (.sl .ro z xs)
theorem lt_of_el {i j n z:Nat} (hi:i<n) (hj:j<z):i*z+j<n*z:=by
 have:(i+1)*z<=n*z:=Nat.mul_le_mul_right z hi
 rw[Nat.add_mul,Nat.one_mul]at this
 omega
theorem getq_lt {α:Type} {l:List α} {i:Nat} {x:α} (h:l[i]? =some x):i<l.length:=by
 rcases Nat.lt_or_ge i l.length with h'|h'
 ·exact h'
 ·rw[List.getElem?_eq_none h']at h;cases h
theorem RF.mono {w w':World} {fr fr':Nat->Nat} {x:Value} {d:D} (h:RF w fr x d) (hc:∀b o,o<fr b->w'.cell? ⟨b,o,none⟩=w.cell? ⟨b,o,none⟩) (hf:∀b,fr b<=fr' b):RF w' fr' x d:=by
 induction h with
 |v x h=>exact .v x h
 |nl z=>exact .nl z
 |z a z=>exact .z a z
 |ro b off cap z xs val h1 h2 h3 h4 h5 h6 ih=>
  refine .ro b off cap z xs val h1 h2 (h3.imp id fun q=>Nat.le_trans q (hf b)) h4 (fun i d j c hi hj=>?_) (fun i d j c hi hj=>ih i d j c hi hj)
  rcases h3 with rfl|h3
  ·simp at hi
  rw[hc,h5 i d j c hi hj]
  have:=lt_of_el (getq_lt hi) (h4 i d hi▸getq_lt hj)
  omega
def Own (g:G) (w:World) (ℓ:Loc) (x:Value) (m:Mode) (z:Nat) (xs:List D):Prop:=
 ∃b off cap cur e,∃val:Nat->Nat->Value,x= .slice (some ⟨b,off,none⟩) xs.length cap∧w.heap[b]? =some (.cells cur e (0,0))∧xs.length<=cap∧cap<=maxLen∧off+cap*z<=cur.size∧
  g.tk b=some ℓ∧g.fr b=(match m with| .app=>off+xs.length*z|_=>0)∧(m= .mu->off=0)∧
  (∀(i:Nat) d,xs[i]? =some d->d.cells.length=z)∧
  (∀(i:Nat) d (j:Nat) c,xs[i]? =some d->d.cells[j]? =some c->w.cell? ⟨b,off+i*z+j,none⟩=some (val i j))∧
  (∀(i:Nat) d (j:Nat) c,xs[i]? =some d->d.cells[j]? =some c->RF w g.fr (val i j) c)
def RP (g:G) (w:World) (x:Value):D->Prop
 | .v y=>x=y
 | .ptr f s off=>s<RL∧∃b,g.bx f s=some b∧x= .pointer (some ⟨b,off,none⟩)
 | .fptr cs off=>∃b o,∃val:Nat->Value,x= .pointer (some ⟨b,o+off,none⟩)∧o+cs.length<=g.fr b∧∀(j:Nat) c,cs[j]? =some c->w.cell? ⟨b,o+j,none⟩=some (val j)∧RF w g.fr (val j) c
 |_=>False
def RC (g:G) (w:World) (ℓ:Loc) (x:Value):D->Prop
 | .u=>True
 | .v y=>x=y
 | .sl .app z xs=>Own g w ℓ x .app z xs
 | .sl .mu z xs=>Own g w ℓ x .mu z xs
 | .sl .nl z xs=>RF w g.fr x (.sl .nl z xs)
 | .sl .ro z xs=>RF w g.fr x (.sl .ro z xs)
 | .ptr f s off=>RP g w x (.ptr f s off)
 | .ref f s off n z=>s<RL∧∃b cap off',g.bx f s=some b∧x= .slice (some ⟨b,off',none⟩) n cap∧n<=cap∧cap<=maxLen∧((cap=0∧0<off)∨off'=off)∧∀o,o<cap*z->(w.cell? ⟨b,off'+o,none⟩).isSome
 | .fptr cs off=>RP g w x (.fptr cs off)
 | .clo fn caps=>fn<RL∧∃vs,x= .func (.func fn) #[] vs∧vs.size=caps.length∧∀(j:Nat) d,caps[j]? =some d->∃y,vs[j]? =some y∧RP g w y d
 | .yld f s=>RL<=s∧∃l,g.bx f s=some l∧x=(if s<ML then .func (.yield l) #[] #[]else .map (some l))
 |_=>False
def RV (g:G) (w:World) (L:Nat->Loc) (x:Value):D->Prop
 | .agg ds=>∃cs,x= .agg cs∧cs.size=ds.length∧∀(c:Nat) d,ds[c]? =some d->∃y,cs[c]? =some y∧RC g w (L c) y d
 |d=>RC g w (L 0) x d
def RT (g:G) (w:World) (L:Nat->Nat->Loc) (x:Value):D->Prop
 | .tup ds=>∃vs,x= .tuple vs∧vs.size=ds.length∧∀(i:Nat) d,ds[i]? =some d->∃y,vs[i]? =some y∧RV g w (L i) y d
 |d=>RV g w (L 0) x d
def RBc (g:G) (w:World) (f s:Nat) (ds:List D):Prop:=
 ∃b cs e,g.bx f s=some b∧w.heap[b]? =some (.cells cs e (0,0))∧ds.length<=cs.size∧∀(c:Nat) d,ds[c]? =some d->∃y,cs[c]? =some y∧RC g w (boxL f s c) y d
def RBr (g:G) (w:World) (f s:Nat) (ds:List D):Prop:=
 ∃l r st j rid ks caps,g.bx f s=some l∧w.heap[l]? =some (.loop r)∧ds= .rcd st j rid ks::caps∧RL<=rid∧roundOf PP rid=some (r.tmps.size,r.params,r.assign,r.body)∧r.state=stOf st∧r.pending=jumpOf j∧ks.length=caps.length∧
  ∀(c:Nat) d t,caps[c]? =some d->ks[c]? =some t->RC g w (boxL f s c) (r.tmps.getD t undef) d
def RBm (g:G) (w:World) (f s:Nat) (ds:List D):Prop:=
 ∃l es ck,g.bx f s=some l∧w.heap[l]? =some (.map es ck)∧ds.length=2*es.size∧
  ∀(i:Nat) e,es[i]? =some e->∃a c:Int,e.key= .agg #[.int .i64 a,.int .u32 c]∧e.val= .bool true∧ds[2*i]? =some (.v (.int .i64 a))∧ds[2*i+1]? =some (.v (.int .u32 c))
def RB (g:G) (w:World) (f s:Nat) (ds:List D):Prop:=(s<RL∧RBc g w f s ds)∨(RL<=s∧s<ML∧RBr g w f s ds)∨(ML<=s∧RBm g w f s ds)
theorem RBm.cell {g:G} {w:World} {f s:Nat} {ds:List D} (h:RBm g w f s ds) {d:D} (hd:d∈ds):∃x:Value,d= .v x∧x.oneCell'=true:=by
 obtain⟨l,es,ck,h1,h2,h3,h4⟩:=h
 obtain⟨i,hi⟩:=List.mem_iff_getElem?.1 hd
 have hlt:i<ds.length:=by
  rcases Nat.lt_or_ge i ds.length with q|q
  ·exact q
  ·rw[List.getElem?_eq_none q]at hi;cases hi
 have he:i/2<es.size:=by omega
 obtain⟨a,c,_,_,q1,q2⟩:=h4 (i/2) es[i/2] (Array.getElem?_eq_getElem he)
 rcases Nat.mod_two_eq_zero_or_one i with e|e
 ·rw[show 2*(i/2)=i by omega,hi]at q1;injection q1 with q1;exact⟨_,q1,rfl⟩
 ·rw[show 2*(i/2)+1=i by omega,hi]at q2;injection q2 with q2;exact⟨_,q2,rfl⟩
theorem RBm.map {g g':G} {w w':World} {f s:Nat} {ds:List D} {φ:D->D} (h:RBm g w f s ds) (hφ:∀x,φ (.v x)= .v x) (hb:∀l,g.bx f s=some l->g'.bx f s=some l) (hw:∀l,g.bx f s=some l->w'.heap[l]? =w.heap[l]?):RBm g' w' f s (ds.map φ):=by
 obtain⟨l,es,ck,h1,h2,h3,h4⟩:=h
 refine⟨l,es,ck,hb l h1,(hw l h1).trans h2,by simpa using h3,fun i e he=>?_⟩
 obtain⟨a,c,q1,q2,q3,q4⟩:=h4 i e he
 exact⟨a,c,q1,q2,by rw[List.getElem?_map,q3];exact congrArg some (hφ _),by rw[List.getElem?_map,q4];exact congrArg some (hφ _)⟩
theorem RBm.up {g g':G} {w w':World} {f s:Nat} {ds:List D} (h:RBm g w f s ds) (hb:∀l,g.bx f s=some l->g'.bx f s=some l) (hw:∀l,g.bx f s=some l->w'.heap[l]? =w.heap[l]?):RBm g' w' f s ds:=by
 have:=h.map (φ:=id) (fun _=>rfl) hb hw
 rwa[List.map_id]at this
theorem RB.bx {g:G} {w:World} {f s:Nat} {ds:List D} (h:RB g w f s ds):(g.bx f s).isSome:=by
 rcases h with⟨_,b,cs,e,h1,_⟩|⟨_,_,l,r,st,j,rid,ks,caps,h1,_⟩|⟨_,l,es,ck,h1,_⟩<;>rw[h1]<;>rfl
theorem RB.c {g:G} {w:World} {f s:Nat} {ds:List D} (h:RB g w f s ds) (hs:s<RL):RBc g w f s ds:=by
 rcases h with⟨_,h⟩|⟨h,_⟩|⟨h,_⟩
 ·exact h
 ·omega
 ·simp only[RL,ML]at*;omega
theorem RB.rm {g:G} {w:World} {f s:Nat} {st j rid:Nat} {ks:List Nat} {caps:List D} (h:RB g w f s (.rcd st j rid ks::caps)) (hs:RL<=s):s<ML∧RBr g w f s (.rcd st j rid ks::caps):=by
 rcases h with⟨h,_⟩|⟨_,h⟩|⟨_,h⟩
 ·omega
 ·exact h
 ·obtain⟨x,hx,_⟩:=h.cell (List.mem_cons_self)
  cases hx
theorem RB.rr {g:G} {w:World} {f s:Nat} {ds:List D} (h:RB g w f s ds) (hs:RL<=s) (hM:s<ML):RBr g w f s ds:=by
 rcases h with⟨h,_⟩|⟨_,_,h⟩|⟨h,_⟩
 ·omega
 ·exact h
 ·omega
theorem RB.r {g:G} {w:World} {f s:Nat} {st j rid:Nat} {ks:List Nat} {caps:List D} (h:RB g w f s (.rcd st j rid ks::caps)) (hs:RL<=s):RBr g w f s (.rcd st j rid ks::caps):=(h.rm hs).2
structure Inv (g:G) (w:World):Prop where
 base:g.base<=w.heap.size
 fresh:∀b,w.heap.size<=b->g.fr b=0∧g.tk b=none
 box:∀f s b,g.bx f s=some b->g.base<=b∧b<w.heap.size∧g.fr b=0∧g.tk b=none
 inj:∀f s f' s' b,g.bx f s=some b->g.bx f' s'=some b->f=f'∧s=s'
 tk:∀b ℓ,g.tk b=some ℓ->g.base<=b
 cells:∀b o,o<g.fr b->(w.cell? ⟨b,o,none⟩).isSome
 dm:∀b,g.dm b=true->g.base<=b∧w.heap[b]? =some (.deferred (some []))
 dt:∀b,g.dm b=true->g.tk b=none
theorem Inv.mkc {g:G} {w:World} (h:Inv g w) {b:Nat} {cs:Array Value} {e:TypeId} {q:Nat×Nat} (hb:w.heap[b]? =some (.cells cs e q)):g.dm b=false:=by
 cases hm:g.dm b with
 |false=>rfl
 |true=>rw[(h.dm b hm).2]at hb;cases hb
theorem Inv.mkl {g:G} {w:World} (h:Inv g w) {b:Nat} {r:Loop} (hb:w.heap[b]? =some (.loop r)):g.dm b=false:=by
 cases hm:g.dm b with
 |false=>rfl
 |true=>rw[(h.dm b hm).2]at hb;cases hb
structure Ext (k:Nat) (g:G) (w:World) (g':G) (w':World):Prop where
 base:g'.base=g.base
 os:w'.os=w.os
 tape:w'.tape=w.tape
 output:w'.output=w.output
 size:w.heap.size<=w'.heap.size
 old:∀b,b<g.base->w'.heap[b]? =w.heap[b]?
 fr:∀b,g.fr b<=g'.fr b
 cell:∀b o,o<g.fr b->w'.cell? ⟨b,o,none⟩=w.cell? ⟨b,o,none⟩
 bx:∀f s b,f<k->g.bx f s=some b->g'.bx f s=some b
 tk:∀b ℓ,g.tk b=some ℓ->ℓ.k=0->ℓ.f<k->g'.tk b=some ℓ∧g'.fr b=g.fr b∧w'.heap[b]? =w.heap[b]?
 dm:∀b,g.dm b=true->g'.dm b=true
 sz:Gr w w'
theorem eqb {k:Nat} {g g':G} (h:∀f s,f<k->g'.bx f s=g.bx f s):∀f s b,f<k->g.bx f s=some b->g'.bx f s=some b:=fun f s b hf hb=>(h f s hf).trans hb
theorem Ext.refl (k:Nat) (g:G) (w:World):Ext k g w g w:=⟨rfl,rfl,rfl,rfl,Nat.le_refl _,fun _ _=>rfl,fun _=>Nat.le_refl _,fun _ _ _=>rfl,fun _ _ _ _ h=>h,fun _ _ h _ _=>⟨h,rfl,rfl⟩,fun _ h=>h,Gr.refl _⟩
theorem Ext.trans {k:Nat} {g g1 g2:G} {w w1 w2:World} (h:Ext k g w g1 w1) (h':Ext k g1 w1 g2 w2):Ext k g w g2 w2 where
 base:=h'.base.trans h.base
 os:=h'.os.trans h.os
 tape:=h'.tape.trans h.tape
 output:=h'.output.trans h.output
 size:=Nat.le_trans h.size h'.size
 old:=fun b hb=>(h'.old b (by rw[h.base];exact hb)).trans (h.old b hb)
 fr:=fun b=>Nat.le_trans (h.fr b) (h'.fr b)
 cell:=fun b o ho=>(h'.cell b o (Nat.lt_of_lt_of_le ho (h.fr b))).trans (h.cell b o ho)
 bx:=fun f s b hf hb=>h'.bx f s b hf (h.bx f s b hf hb)
 tk:=fun b ℓ hb h0 hk=>by
  obtain⟨a1,a2,a3⟩:=h.tk b ℓ hb h0 hk
  obtain⟨b1,b2,b3⟩:=h'.tk b ℓ a1 h0 hk
  exact⟨b1,b2.trans a2,b3.trans a3⟩
 dm:=fun b hb=>h'.dm b (h.dm b hb)
 sz:=h.sz.trans h'.sz
theorem Ext.less {k k':Nat} {g g':G} {w w':World} (h:Ext k g w g' w') (hk:k'<=k):Ext k' g w g' w':=
 ⟨h.base,h.os,h.tape,h.output,h.size,h.old,h.fr,h.cell,fun f s b hf=>h.bx f s b (by omega),fun b ℓ hb h0 hf=>h.tk b ℓ hb h0 (by omega),h.dm,h.sz⟩
theorem RF.ext {k:Nat} {g g':G} {w w':World} {x:Value} {d:D} (h:RF w g.fr x d) (he:Ext k g w g' w'):RF w' g'.fr x d:=h.mono he.cell he.fr
theorem cell_of_block {w w':World} {b o:Nat} (h:w'.heap[b]? =w.heap[b]?):w'.cell? ⟨b,o,none⟩=w.cell? ⟨b,o,none⟩:=World.cell?_of_block (a:=⟨b,o,none⟩) h
theorem Own.ext {g g':G} {w w':World} {ℓ ℓ':Loc} {x:Value} {m:Mode} {z:Nat} {xs:List D} (h:Own g w ℓ x m z xs) (hc:∀b o,o<g.fr b->w'.cell? ⟨b,o,none⟩=w.cell? ⟨b,o,none⟩) (hf:∀b,g.fr b<=g'.fr b)
  (ht:∀b,g.tk b=some ℓ->g'.tk b=some ℓ'∧g'.fr b=g.fr b∧w'.heap[b]? =w.heap[b]?):Own g' w' ℓ' x m z xs:=by
 obtain⟨b,off,cap,cur,e,val,h1,h2,h3,h4,h5,h6,h7,h7',h8,h9,h10⟩:=h
 obtain⟨a1,a2,a3⟩:=ht b h6
 exact⟨b,off,cap,cur,e,val,h1,a3.trans h2,h3,h4,h5,a1,a2.trans h7,h7',h8,fun i d j c hi hj=>(cell_of_block a3).trans (h9 i d j c hi hj),fun i d j c hi hj=>(h10 i d j c hi hj).mono hc hf⟩
structure Keep (g:G) (w:World) (ℓ:Loc) (g':G) (w':World) (ℓ':Loc):Prop where
 cell:∀b o,o<g.fr b->w'.cell? ⟨b,o,none⟩=w.cell? ⟨b,o,none⟩
 fr:∀b,g.fr b<=g'.fr b
 bx:∀f s b,g.bx f s=some b->g'.bx f s=some b
 tk:∀b,g.tk b=some ℓ->g'.tk b=some ℓ'∧g'.fr b=g.fr b∧w'.heap[b]? =w.heap[b]?
 sz:Gr w w'
theorem RP.keep {g g':G} {w w':World} {x:Value} {d:D} (h:RP g w x d) (hc:∀b o,o<g.fr b->w'.cell? ⟨b,o,none⟩=w.cell? ⟨b,o,none⟩) (hf:∀b,g.fr b<=g'.fr b) (hb:∀f s b,g.bx f s=some b->g'.bx f s=some b):RP g' w' x d:=by
 cases d with
 |v y=>exact h
 |ptr f s off=>obtain⟨h0,b,h1,h2⟩:=h;exact⟨h0,b,hb _ _ _ h1,h2⟩
 |fptr cs off=>
  obtain⟨b,o,val,h1,h2,h3⟩:=h
  refine⟨b,o,val,h1,Nat.le_trans h2 (hf b),fun j c hj=>⟨?_,(h3 j c hj).2.mono hc hf⟩⟩
  rw[hc b (o+j) (by have:=getq_lt hj;omega)]
  exact(h3 j c hj).1
 |_=>exact h.elim
theorem RC.keep {g g':G} {w w':World} {ℓ ℓ':Loc} {x:Value} {d:D} (h:RC g w ℓ x d) (k:Keep g w ℓ g' w' ℓ'):RC g' w' ℓ' x d:=by
 cases d with
 |u=>trivial
 |v y=>exact h
 |sl m z xs=>cases m with
  |nl=>exact RF.mono h k.cell k.fr
  |ro=>exact RF.mono h k.cell k.fr
  |app=>exact Own.ext (show Own g w ℓ x .app z xs from h) k.cell k.fr k.tk
  |mu=>exact Own.ext (show Own g w ℓ x .mu z xs from h) k.cell k.fr k.tk
 |ptr f s off=>exact RP.keep (show RP g w x (.ptr f s off)from h) k.cell k.fr k.bx
 |fptr cs off=>exact RP.keep (show RP g w x (.fptr cs off)from h) k.cell k.fr k.bx
 |clo fn caps=>
  obtain⟨h0,vs,h1,h2,h3⟩:=h
  refine⟨h0,vs,h1,h2,fun j d hj=>?_⟩
  obtain⟨y,h4,h5⟩:=h3 j d hj
  exact⟨y,h4,h5.keep k.cell k.fr k.bx⟩
 |yld f s=>obtain⟨h0,l,h1,h2⟩:=h;exact⟨h0,l,k.bx _ _ _ h1,h2⟩
 |ref f s off n z=>obtain⟨h0,b,cap,off',h1,h2,h3,h4,h5,h6⟩:=h;exact⟨h0,b,cap,off',k.bx _ _ _ h1,h2,h3,h4,h5,fun o ho=>k.sz _ _ (h6 o ho)⟩
 |_=>exact h.elim
theorem agg_or (d:D):(∃ds,d= .agg ds)∨d.aggB=false:=by cases d<;>simp[D.aggB]
theorem tup_or (d:D):(∃ds,d= .tup ds)∨d.tupB=false:=by cases d<;>simp[D.tupB]
theorem RV_ne {g:G} {w:World} {L:Nat->Loc} {x:Value} {d:D} (h:d.aggB=false):RV g w L x d=RC g w (L 0) x d:=by
 cases d<;>first|rfl|cases h
theorem RT_ne {g:G} {w:World} {L:Nat->Nat->Loc} {x:Value} {d:D} (h:d.tupB=false):RT g w L x d=RV g w (L 0) x d:=by
 cases d<;>first|rfl|cases h
theorem RV.toRT {g:G} {w:World} {L:Nat->Nat->Loc} {x:Value} {d:D} (h:RV g w (L 0) x d):RT g w L x d:=by
 rcases tup_or d with⟨ds,rfl⟩|hd
 ·exact h.elim
 ·rw[RT_ne hd];exact h
theorem RC.toRV {g:G} {w:World} {L:Nat->Loc} {x:Value} {d:D} (h:RC g w (L 0) x d):RV g w L x d:=by
 rcases agg_or d with⟨ds,rfl⟩|hd
 ·exact h.elim
 ·rw[RV_ne hd];exact h
theorem strip2_ne {d:D} (h:d.aggB=false):d.strip2=d.strip1:=by cases d<;>first|rfl|cases h
theorem strip_ne {d:D} (h:d.tupB=false):d.strip=d.strip2:=by cases d<;>first|rfl|cases h
theorem strip1_agg {d:D}:d.strip1.aggB=false:=by
 cases d with
 |sl m z xs=>cases m<;>rfl
 |_=>rfl
theorem strip1_tup {d:D}:d.strip1.tupB=false:=by
 cases d with
 |sl m z xs=>cases m<;>rfl
 |_=>rfl
theorem strip2_tup {d:D}:d.strip2.tupB=false:=by
 cases d with
 |sl m z xs=>cases m<;>rfl
 |_=>rfl
theorem RV.keep {g g':G} {w w':World} {L L':Nat->Loc} {x:Value} {d:D} (h:RV g w L x d) (k:∀c,Keep g w (L c) g' w' (L' c)):RV g' w' L' x d:=by
 rcases agg_or d with⟨ds,rfl⟩|hd
 ·obtain⟨cs,h1,h2,h3⟩:=h
  refine⟨cs,h1,h2,fun c d hc=>?_⟩
  obtain⟨y,h4,h5⟩:=h3 c d hc
  exact⟨y,h4,h5.keep (k c)⟩
 ·rw[RV_ne hd]at h ⊢
  exact h.keep (k 0)
theorem RT.keep {g g':G} {w w':World} {L L':Nat->Nat->Loc} {x:Value} {d:D} (h:RT g w L x d) (k:∀i c,Keep g w (L i c) g' w' (L' i c)):RT g' w' L' x d:=by
 rcases tup_or d with⟨ds,rfl⟩|hd
 ·obtain⟨cs,h1,h2,h3⟩:=h
  refine⟨cs,h1,h2,fun c d hc=>?_⟩
  obtain⟨y,h4,h5⟩:=h3 c d hc
  exact⟨y,h4,h5.keep (k c)⟩
 ·rw[RT_ne hd]at h ⊢
  exact h.keep (k 0)
theorem Own.strip {g:G} {w:World} {ℓ:Loc} {x:Value} {z:Nat} {xs:List D} (h:Own g w ℓ x .app z xs):RF w g.fr x (.sl .ro z xs):=by
 obtain⟨b,off,cap,cur,e,val,rfl,h2,h3,h4,h5,h6,h7,h7',h8,h9,h10⟩:=h
 exact .ro b off cap z xs val h3 h4 (.inr (by rw[h7];exact Nat.le_refl _)) h8 h9 h10
theorem RC.strip {g:G} {w:World} {ℓ:Loc} (ℓ':Loc) {x:Value} {d:D} (h:RC g w ℓ x d):RC g w ℓ' x d.strip1:=by
 cases d with
 |sl m z xs=>cases m with
  |nl=>exact h
  |ro=>exact h
  |app=>exact Own.strip (show Own g w ℓ x .app z xs from h)
  |mu=>trivial
 |u=>trivial
 |v y=>exact h
 |ptr f s off=>exact h
 |fptr cs off=>exact h
 |clo fn caps=>exact h
 |ref f s off n z=>exact h
 |yld f s=>exact h
 |rcd st j rid ks=>exact h.elim
 |_=>trivial
theorem RV.strip {g:G} {w:World} {L:Nat->Loc} (L':Nat->Loc) {x:Value} {d:D} (h:RV g w L x d):RV g w L' x d.strip2:=by
 rcases agg_or d with⟨ds,rfl⟩|hd
 ·obtain⟨cs,h1,h2,h3⟩:=h
  refine⟨cs,h1,by simpa using h2,fun c d hc=>?_⟩
  rw[List.getElem?_map]at hc
  obtain⟨d0,h4,rfl⟩:=Option.map_eq_some_iff.1 hc
  obtain⟨y,h5,h6⟩:=h3 c d0 h4
  exact⟨y,h5,h6.strip _⟩
 ·rw[RV_ne hd]at h
  rw[strip2_ne hd,RV_ne strip1_agg]
  exact h.strip _
theorem RT.strip {g:G} {w:World} {L:Nat->Nat->Loc} (L':Nat->Nat->Loc) {x:Value} {d:D} (h:RT g w L x d):RT g w L' x d.strip:=by
 rcases tup_or d with⟨ds,rfl⟩|hd
 ·obtain⟨cs,h1,h2,h3⟩:=h
  refine⟨cs,h1,by simpa using h2,fun c d hc=>?_⟩
  rw[List.getElem?_map]at hc
  obtain⟨d0,h4,rfl⟩:=Option.map_eq_some_iff.1 hc
  obtain⟨y,h5,h6⟩:=h3 c d0 h4
  exact⟨y,h5,h6.strip _⟩
 ·rw[RT_ne hd]at h
  rw[strip_ne hd,RT_ne strip2_tup]
  exact h.strip _
def bxl (B:List Bx) (f s:Nat):Option (List D):=(B[f]?).bind (lk s)
structure SB (g:G) (w:World) (B:List Bx):Prop where
 rel:∀f s ds,bxl B f s=some ds->RB g w f s ds
 dom:∀f s,(g.bx f s).isSome->(bxl B f s).isSome
 bnd:∀f s ds d,bxl B f s=some ds->d∈ds->d.bnd1 (f+1)=true
def S.B (s:S):List Bx:=s.o++[s.l]
def S.k (s:S):Nat:=s.o.length
structure ST (g:G) (w:World) (tmps:Array Value) (s:S):Prop where
 inv:Inv g w
 sb:SB g w s.B
 e:∀t,RT g w (slotL s.k t) (tmps.getD t undef) (get t s.e)
theorem bx_eq (f b:Nat) (s:S) (hf:f<=s.k):Ev.bx f b s=bxl s.B f b:=by
 unfold Ev.bx bxl S.B
 split
 ·rename_i h;subst h;simp
 ·rename_i h;rw[List.getElem?_append_left (by have:s.k=s.o.length:=rfl;omega)]
theorem bx_bxl {f b:Nat} {s:S} {ds:List D} (h:Ev.bx f b s=some ds):bxl s.B f b=some ds:=by
 unfold Ev.bx at h
 split at h
 ·rename_i hf;subst hf;simpa[bxl,S.B]using h
 ·rename_i hf
  cases ho:s.o[f]? with
  |none=>rw[ho]at h;cases h
  |some L=>
   rw[ho]at h
   unfold bxl S.B
   rw[List.getElem?_append_left (getq_lt ho),ho]
   exact h
end Go.Proofs.Ytfopbiiffiickaa.Ev
namespace Go.Proofs.Ytfopbiiffiickaa.Ev
open Go
def flyL (j:Nat) (i c:Nat):Loc:=⟨3,j,0,i,c⟩
theorem box_fly {f b c j i c':Nat}:boxL f b c≠flyL j i c':=fun e=>by injection e with e;cases e
theorem slot_fly {f b c j i i' c':Nat}:slotL f b i' c≠flyL j i c':=fun e=>by injection e with e;cases e
theorem slot_box {f b c j i i' c':Nat}:slotL f b i' c≠boxL j i c':=fun e=>by injection e with e;cases e
def G.mv (g:G) (ρ:Loc->Loc):G:={g with tk:=fun b=>(g.tk b).map ρ}
def relo (A B:Nat->Nat->Loc) (ℓ:Loc):Loc:=if ℓ=A ℓ.i ℓ.c then B ℓ.i ℓ.c else ℓ
theorem G.mv_keep (g:G) (w:World) (ρ:Loc->Loc) (ℓ:Loc):Keep g w ℓ (g.mv ρ) w (ρ ℓ):=
 ⟨fun _ _ _=>rfl,fun _=>Nat.le_refl _,fun _ _ _ h=>h,fun b hb=>⟨by simp[G.mv,hb],rfl,rfl⟩,Gr.refl _⟩
theorem G.mv_keep' (g:G) (w:World) (ρ:Loc->Loc) {ℓ ℓ':Loc} (h:ρ ℓ=ℓ'):Keep g w ℓ (g.mv ρ) w ℓ':=h▸g.mv_keep w ρ ℓ
theorem Inv.mv {g:G} {w:World} (h:Inv g w) (ρ:Loc->Loc):Inv (g.mv ρ) w where
 base:=h.base
 fresh:=fun b hb=>⟨(h.fresh b hb).1,by simp[G.mv,(h.fresh b hb).2]⟩
 box:=fun f s b hb=>by obtain⟨a1,a2,a3,a4⟩:=h.box f s b hb;exact⟨a1,a2,a3,by simp[G.mv,a4]⟩
 inj:=h.inj
 tk:=fun b ℓ hb=>by
  simp only[G.mv]at hb
  obtain⟨ℓ0,h0,_⟩:=Option.map_eq_some_iff.1 hb
  exact h.tk b ℓ0 h0
 cells:=h.cells
 dm:=h.dm
 dt:=fun b hb=>by simp[G.mv,h.dt b hb]
theorem G.mv_ext (g:G) (w:World) (ρ:Loc->Loc) (k:Nat) (h:∀ℓ:Loc,ℓ.k=0->ℓ.f<k->ρ ℓ=ℓ):Ext k g w (g.mv ρ) w:=
 ⟨rfl,rfl,rfl,rfl,Nat.le_refl _,fun _ _=>rfl,fun _=>Nat.le_refl _,fun _ _ _=>rfl,fun _ _ _ _ h=>h,fun b ℓ hb h0 hk=>⟨by simp[G.mv,hb,h ℓ h0 hk],rfl,rfl⟩,fun _ h=>h,Gr.refl _⟩
theorem RB.keep {g g':G} {w w':World} {f s:Nat} {ds:List D} (h:RB g w f s ds) (k:∀c,Keep g w (boxL f s c) g' w' (boxL f s c)) (hb:∀b,g.bx f s=some b->w'.heap[b]? =w.heap[b]?):RB g' w' f s ds:=by
 rcases h with⟨h0,b,cs,e,h1,h2,h3,h4⟩|⟨h0,hM,l,r,st,j,rid,ks,caps,h1,h2,h3,h4,h4',h5,h6,h7,h8⟩|⟨h0,hm⟩
 ·refine .inl ⟨h0,b,cs,e,(k 0).bx _ _ _ h1,(hb b h1).trans h2,h3,fun c d hc=>?_⟩
  obtain⟨y,h5,h6⟩:=h4 c d hc
  exact⟨y,h5,h6.keep (k c)⟩
 ·exact .inr (.inl ⟨h0,hM,l,r,st,j,rid,ks,caps,(k 0).bx _ _ _ h1,(hb l h1).trans h2,h3,h4,h4',h5,h6,h7,fun c d t hc ht=>(h8 c d t hc ht).keep (k c)⟩)
 ·exact .inr (.inr ⟨h0,hm.up (fun l h1=>(k 0).bx _ _ _ h1) hb⟩)
theorem SB.mv {g:G} {w:World} {B:List Bx} (h:SB g w B) (ρ:Loc->Loc) (hρ:∀f s c,ρ (boxL f s c)=boxL f s c):SB (g.mv ρ) w B:=
 ⟨fun f s ds hs=>(h.rel f s ds hs).keep (fun c=>g.mv_keep' w ρ (hρ f s c)) fun _ _=>rfl,h.dom,h.bnd⟩
structure SN (g:G) (w:World) (n:Nat) (tmps:Array Value) (s:S):Prop where
 st:ST g w tmps s
 size:tmps.size=n
theorem relo_fix {A B:Nat->Nat->Loc} {ℓ:Loc} (h:∀i c,ℓ≠A i c):relo A B ℓ=ℓ:=by
 unfold relo
 rw[if_neg (h _ _)]
theorem relo_A {A B:Nat->Nat->Loc} (hA:∀i c,(A i c).i=i∧(A i c).c=c) (i c:Nat):relo A B (A i c)=B i c:=by
 unfold relo
 rw[(hA i c).1,(hA i c).2,if_pos rfl]
theorem getD_set {a:Array Value} {t t':Nat} {x:Value} (ht:t<a.size):(a.setIfInBounds t x).getD t' undef=if t'=t then x else a.getD t' undef:=by
 simp only[Array.getD_eq_getD_getElem?,Array.getElem?_setIfInBounds]
 by_cases h:t'=t
 ·subst h;simp[ht]
 ·have:t≠t':=fun e=>h e.symm
  simp[h,this]
theorem SN.put {g:G} {w:World} {n:Nat} {tmps:Array Value} {s:S} (h:SN g w n tmps s) {t:Nat} (ht:t<n) {x:Value} {d:D} {j:Nat} (hx:RT g w (flyL j) x d):
  ∃g',SN g' w n (tmps.setIfInBounds t x) (Ev.put t d s)∧Ext s.k g w g' w:=by
 refine⟨g.mv (relo (flyL j) (slotL s.k t)),⟨⟨h.st.inv.mv _,h.st.sb.mv _ fun f b c=>relo_fix fun i c' e=>by simp[boxL,flyL]at e,fun t'=>?_⟩,by simp[h.size]⟩,g.mv_ext w _ _ fun ℓ h0 _=>relo_fix fun i c e=>by rw[e]at h0;simp[flyL]at h0⟩
 rw[getD_set (by rw[h.size];exact ht)]
 have hk:(Ev.put t d s).k=s.k:=rfl
 rw[hk]
 by_cases e:t'=t
 ·subst e
  simp only[Ev.put,get,if_true]
  exact hx.keep fun i c=>g.mv_keep' w _ (relo_A (fun _ _=>⟨rfl,rfl⟩) i c)
 ·simp only[Ev.put,get,if_neg e]
  exact(h.st.e t').keep fun i c=>g.mv_keep' w _ (relo_fix fun i' c' e=>by simp[slotL,flyL]at e)
theorem SN.putO {g:G} {w:World} {n:Nat} {a:Act} {s:S} (h:SN g w n a.tmps s) {t:Option Nat} (ht:∀t',t=some t'->t'<n) {x:Value} {d:D} {j:Nat} (hx:RT g w (flyL j) x d):
  ∃g',SN g' w n (a.put t x).tmps (Ev.putO t d s)∧Ext s.k g w g' w:=by
 cases t with
 |none=>exact⟨g,h,Ext.refl _ _ _⟩
 |some t=>exact h.put (ht t rfl) hx
theorem Keep.refl (g:G) (w:World) (ℓ:Loc):Keep g w ℓ g w ℓ:=⟨fun _ _ _=>rfl,fun _=>Nat.le_refl _,fun _ _ _ h=>h,fun _ h=>⟨h,rfl,rfl⟩,Gr.refl _⟩
inductive MOpd:Operand->Opd->Prop
 |t (n:Nat):MOpd (.tmp n) (.t n)
 |m (n:Nat):MOpd (.tmp n) (.m n)
 |c (x:Value):MOpd (.const x) (.c x)
 |cn:MOpd (.const (.slice none 0 0)) .cn
 |f (n:Nat) (h:n<RL):MOpd (.func n) (.f n)
theorem rd_at {g:G} {w:World} {n:Nat} {a:Act} {s:S} (h:SN g w n a.tmps s) {x:Operand} {x':Opd} (hm:MOpd x x'):∃L,RT g w L (a.eval x) (rd x' s).1:=by
 cases hm with
 |t n=>exact⟨_,(h.st.e n).strip (slotL 0 0)⟩
 |m n=>exact⟨_,h.st.e n⟩
 |c x=>exact⟨slotL 0 0,rfl⟩
 |cn=>exact⟨slotL 0 0,.nl 0⟩
 |f n hn=>exact⟨slotL 0 0,hn,#[],rfl,rfl,fun j d hj=>by simp at hj⟩
theorem rd_k (x:Opd) (s:S):(rd x s).2.k=s.k:=by cases x<;>rfl
theorem rd_B (x:Opd) (s:S):(rd x s).2.B=s.B:=by cases x<;>rfl
theorem rd_o (x:Opd) (s:S):(rd x s).2.o=s.o:=by cases x<;>rfl
theorem rd_l (x:Opd) (s:S):(rd x s).2.l=s.l:=by cases x<;>rfl
theorem rd_fly {g:G} {w:World} {n:Nat} {a:Act} {s:S} (h:SN g w n a.tmps s) {x:Operand} {x':Opd} (hm:MOpd x x') (j:Nat):
  ∃g',SN g' w n a.tmps (rd x' s).2∧RT g' w (flyL j) (a.eval x) (rd x' s).1∧Ext s.k g w g' w∧(∀j' y d,j'≠j->RT g w (flyL j') y d->RT g' w (flyL j') y d)∧g'.bx=g.bx∧(∀ℓ:Loc,4<=ℓ.k->Keep g w ℓ g' w ℓ):=by
 cases hm with
 |t m=>exact⟨g,h,(h.st.e m).strip _,Ext.refl _ _ _,fun _ _ _ _ h=>h,rfl,fun _ _=>Keep.refl _ _ _⟩
 |c x=>exact⟨g,h,rfl,Ext.refl _ _ _,fun _ _ _ _ h=>h,rfl,fun _ _=>Keep.refl _ _ _⟩
 |cn=>exact⟨g,h,.nl 0,Ext.refl _ _ _,fun _ _ _ _ h=>h,rfl,fun _ _=>Keep.refl _ _ _⟩
 |f m hn=>exact⟨g,h,⟨hn,#[],rfl,rfl,fun j d hj=>by simp at hj⟩,Ext.refl _ _ _,fun _ _ _ _ h=>h,rfl,fun _ _=>Keep.refl _ _ _⟩
 |m t=>
  refine⟨g.mv (relo (slotL s.k t) (flyL j)),⟨⟨h.st.inv.mv _,h.st.sb.mv _ fun f b c=>relo_fix fun i c' e=>by simp[boxL,slotL]at e,fun t'=>?_⟩,h.size⟩,?_,g.mv_ext w _ _ fun ℓ h0 hk=>relo_fix fun i c e=>by rw[e]at hk;simp[slotL]at hk,?_,rfl,fun ℓ hℓ=>g.mv_keep' w _ (relo_fix fun i c e=>by rw[e]at hℓ;simp[slotL]at hℓ)⟩
  ·show RT _ _ (slotL s.k t') _ (get t' ((t,(get t s.e).strip)::s.e))
   by_cases e:t'=t
   ·subst e
    simp only[get,if_true]
    exact((h.st.e t').keep fun i c=>g.mv_keep' w _ (relo_A (B:=flyL j) (fun _ _=>⟨rfl,rfl⟩) i c)).strip _
   ·simp only[get,if_neg e]
    exact(h.st.e t').keep fun i c=>g.mv_keep' w _ (relo_fix fun i' c' e'=>by simp[slotL]at e';exact e e'.1)
  ·exact(h.st.e t).keep fun i c=>g.mv_keep' w _ (relo_A (fun _ _=>⟨rfl,rfl⟩) i c)
  ·intro j' y d hj hy
   exact hy.keep fun i c=>g.mv_keep' w _ (relo_fix fun i' c' e'=>by simp[slotL,flyL]at e')
end Go.Proofs.Ytfopbiiffiickaa.Ev
