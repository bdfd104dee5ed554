/- A small language of regions and blocks over data, its evaluator, and the equations of the evaluator's limit. Conditions: none. -/
import Derived.CallsIn
import Derived.Laws.Sem
set_option linter.all false
namespace Go.Proofs.Ytlhjdikklmkihaa.Ev
open Go

inductive Mode where
  | nl | ro | app | mu
  deriving DecidableEq

/-- What a temporary or a cell holds, as data. -/
inductive D where
  | v (x : Value)
  | sl (m : Mode) (z : Nat) (xs : List D)
  | agg (cs : List D)
  | ptr (f s off : Nat)
  | ref (f s off n z : Nat)
  | fptr (cs : List D) (off : Nat)
  | clo (fn : Nat) (caps : List D)
  | yld (f s : Nat)
  | tup (ds : List D)
  | nb (cs : List D)
  | rcd (st jump rid : Nat) (ks : List Nat)
  | u
  deriving Inhabited

abbrev Bx := List (Nat × List D)
abbrev Env := List (Nat × D)

def D.cells : D → List D
  | .agg cs => cs
  | d => [d]
def D.tupB : D → Bool
  | .tup _ => true
  | _ => false
def D.aggB : D → Bool
  | .agg _ => true
  | _ => false

/-- A copy: who copies a list that is still being built may only read it. -/
def D.strip1 : D → D
  | .sl .app z xs => .sl .ro z xs
  | .sl .mu _ _ => .u
  | .nb _ => .u
  | .agg _ => .u
  | .tup _ => .u
  | d => d
def D.strip2 : D → D
  | .agg cs => .agg (cs.map D.strip1)
  | d => d.strip1
def D.strip : D → D
  | .tup ds => .tup (ds.map D.strip2)
  | d => d.strip2

/-- A list of one's own is only grown from here on. -/
def D.dwn1 : D → D
  | .sl .mu z xs => .sl .app z xs
  | d => d
/-- A zero cell: a list that is nil is told as such. -/
def zc : Value → D
  | .slice none 0 0 => .sl .nl 0 []
  | x => .v x

inductive Opd where
  | t (n : Nat)
  | m (n : Nat)
  | c (x : Value)
  | cn
  | f (n : Nat)

structure S where
  e : Env
  l : Bx
  o : List Bx

def get (t : Nat) : Env → D
  | [] => .u
  | (t', d) :: r => if t = t' then d else get t r
def put (t : Nat) (d : D) (s : S) : S := { s with e := (t, d) :: s.e }
def S.wl (s : S) (l : Bx) : S := { s with l := l }
def S.wo (s : S) (o : List Bx) : S := { s with o := o }
def putO : Option Nat → D → S → S
  | some t, d, s => put t d s
  | none, _, s => s
def lk (b : Nat) : Bx → Option (List D)
  | [] => none
  | (b', ds) :: r => if b = b' then some ds else lk b r
def sb (b : Nat) (ds : List D) : Bx → Bx
  | [] => []
  | (b', ds') :: r => if b = b' then (b', ds) :: r else (b', ds') :: sb b ds r

/-- A new variable, in the row of names. -/
def ins (b : Nat) (ds : List D) : Bx → Bx
  | [] => [(b, ds)]
  | (b', ds') :: r => if b ≤ b' then (b, ds) :: (b', ds') :: r else (b', ds') :: ins b ds r
def rd (x : Opd) (s : S) : D × S :=
  match x with
  | .t n => ((get n s.e).strip, s)
  | .m n => (get n s.e, put n (get n s.e).strip s)
  | .c x => (.v x, s)
  | .cn => (.sl .nl 0 [], s)
  | .f n => (.clo n [], s)
def rdL : List Opd → S → List D × S
  | [], s => ([], s)
  | x :: r, s => let a := rd x s; let b := rdL r a.2; (a.1 :: b.1, b.2)

/-- The cells of a variable that is pointed to. -/
def bx (f b : Nat) (s : S) : Option (List D) := if f = s.o.length then lk b s.l else (s.o[f]?).bind (lk b)
def sbx (f b : Nat) (ds : List D) (s : S) : S :=
  if f = s.o.length then s.wl (sb b ds s.l) else s.wo (s.o.modify f (sb b ds))

/-- What is read of cells: one, or n as a struct. -/
def pick (n : Option Nat) (ds : List D) (off : Nat) : Option D :=
  match n with
  | none => ds[off]?
  | some n => if off + n ≤ ds.length then some (.agg ((ds.drop off).take n)) else none
/-- Cells with some written over. -/
def over (ds : List D) (off : Nat) (cs : List D) : List D := ds.take off ++ cs ++ ds.drop (off + cs.length)

/-- Do all pointers lead to frames below? -/
def D.bnd1 (k : Nat) : D → Bool
  | .ptr f _ _ => f < k
  | .ref f _ _ _ _ => f < k
  | .clo _ caps => caps.all fun | .ptr f _ _ => f < k | .v _ => true | .fptr _ _ => true | _ => false
  | .yld f _ => f < k
  | .agg _ => false
  | .tup _ => false
  | .nb _ => false
  | _ => true
def D.bnd2 (k : Nat) : D → Bool
  | .agg cs => cs.all (D.bnd1 k)
  | d => d.bnd1 k
def D.bnd (k : Nat) : D → Bool
  | .tup ds => ds.all (D.bnd2 k)
  | d => d.bnd2 k

/-- What may be laid into a cell. -/
def D.sto1 : D → Bool
  | .v x => x.oneCell'
  | .sl _ _ _ => true
  | .ptr _ _ _ => true
  | .ref _ _ _ _ _ => true
  | .fptr _ _ => true
  | .clo _ _ => true
  | .yld _ _ => true
  | _ => false

inductive Bop where
  | add | sub | mul | quo | rem | and | or | xor | andNot | shl | shr | eql | neq | lss | leq | gtr | geq

def bz (op : Bop) (k : IntKind) (a b : Int) : Option Value :=
  match op with
  | .add => some (.int k (k.wrap (a + b)))
  | .sub => some (.int k (k.wrap (a - b)))
  | .mul => some (.int k (k.wrap (a * b)))
  | .eql => some (.bool (a == b))
  | .neq => some (.bool (a != b))
  | .lss => some (.bool (a < b))
  | .leq => some (.bool (a ≤ b))
  | .gtr => some (.bool (a > b))
  | .geq => some (.bool (a ≥ b))
  | .quo => if b = 0 then none else some (.int k (k.wrap (a.tdiv b)))
  | .rem => if b = 0 then none else some (.int k (a.tmod b))
  | .and => some (.int k (k.wrap (BitVec.ofInt k.bits a &&& BitVec.ofInt k.bits b).toNat))
  | .or => some (.int k (k.wrap (BitVec.ofInt k.bits a ||| BitVec.ofInt k.bits b).toNat))
  | .xor => some (.int k (k.wrap (BitVec.ofInt k.bits a ^^^ BitVec.ofInt k.bits b).toNat))
  | .andNot => some (.int k (k.wrap (BitVec.ofInt k.bits a &&& ~~~(BitVec.ofInt k.bits b)).toNat))
  | _ => none
/-- A shift. -/
def bsh (op : Bop) (k : IntKind) (a b : Int) : Option Value :=
  if b < 0 then none else match op with
  | .shl => some (.int k (k.wrap (a * 2 ^ (min b.toNat k.bits))))
  | .shr => some (.int k (a.fdiv (2 ^ (min b.toNat k.bits))))
  | _ => none
/-- Bools, numbers and strings held against each other, by an example of their type. -/
def veq : Value → Value → Value → Option Bool
  | .bool _, .bool a, .bool b => some (a == b)
  | .string _, .string a, .string b => some (a.toList == b.toList)
  | .int k _, .int k1 a, .int k2 b => if k1 = k ∧ k2 = k then some (a == b) else none
  | _, _, _ => none
/-- Structs of plain cells held against each other. -/
def veqs : List Value → List D → List D → Option Bool
  | [], [], [] => some true
  | z :: zs, .v x :: r, .v y :: r' => match veq z x y, veqs zs r r' with
    | some a, some b => some (a && b)
    | _, _ => none
  | _, _, _ => none
def D.rf1 : D → Bool
  | .v x => x.oneCell'
  | .sl .nl _ _ => true
  | .sl .ro _ _ => true
  | _ => false
/-- What a closure may hold. -/
def D.capB : D → Bool
  | .v _ => true
  | .ptr _ _ _ => true
  | .fptr _ _ => true
  | _ => false
/-- Cells with parts laid over them. -/
def lay (s : S) : List D → List (Nat × Nat × Opd) → Option (List D)
  | cs, [] => some cs
  | cs, (off, sz, x) :: r =>
    if (rd x s).1.cells.length = sz ∧ off + sz ≤ cs.length ∧ (rd x s).1.cells.all D.sto1 = true ∧ (rd x s).1.cells.all (fun d => d.strip1.sto1) = true then lay s (over cs off ((rd x s).1.cells.map D.strip1)) r else none
def optI (s : S) (dflt : Int) : Option Opd → Option Int
  | none => some dflt
  | some x => match (rd x s).1 with
    | .v (.int _ i) => some i
    | _ => none
def rds (s : S) : List Opd → List D
  | [] => []
  | x :: r => (rd x s).1 :: rds s r
def mnm (mx : Bool) (k : IntKind) (a : Int) (s : S) : List Opd → Option Int
  | [] => some a
  | x :: r => match (rd x s).1 with
    | .v (.int _ b) => mnm mx k (if mx then (if b > a then b else a) else (if b < a then b else a)) s r
    | _ => none

inductive Op where
  | mv (x : Opd)
  | pk (c a b : Opd)
  | al (z : List Value)
  | bx (x : Opd)
  | bs (z : Nat) (parts : List Opd)
  | ld (n : Option Nat) (p : Opd)
  | ldm (n : Option Nat) (p : Opd)
  | st (n : Nat) (p x : Opd)
  | bin (op : Bop) (x y : Opd)
  | no (x : Opd)
  | un (xr : Bool) (x : Opd)
  | fa (x : Opd) (off : Nat)
  | ia (x i : Opd) (z : Nat)
  | ext (x : Opd) (i : Nat)
  | call (f : Nat) (args : List Opd)
  | cv (f : Opd) (args : List Opd)
  | calf (f : Nat) (args : List Opd)
  | len (x : Opd)
  | lns (x : Opd)
  | ap (w : Bool) (z by_ : Nat) (x y : Opd)
  | mk (z by_ : Nat) (ze : D) (n c : Opd)
  | bd (z : List Value) (parts : List (Nat × Nat × Opd))
  | slc (z : Nat) (x : Opd) (lo hi : Option Opd)
  | eqn (ne : Bool) (x : Opd)
  | eqs (ne : Bool) (x y : Opd)
  | eqb (ne : Bool) (x y : Opd)
  | eqa (ne : Bool) (z : List Value) (x y : Opd)
  | sh (op : Bop) (x y : Opd)
  | ci (k : IntKind) (x : Opd)
  | mm (mx : Bool) (x : Opd) (r : List Opd)
  | mf (f : Nat) (caps : List Opd)
  | nck (x : Opd)

abbrev Caller := Nat → List D → List Bx → Option (D × List Bx)

def unsnoc {α : Type} : List α → Option (List α × α)
  | [] => none
  | [x] => some ([], x)
  | x :: y :: r => (unsnoc (y :: r)).map fun p => (x :: p.1, p.2)

def doCall (call : Caller) (f : Nat) (ds : List D) (s : S) : Option (D × S) :=
  match call f ds (s.o ++ [s.l]) with
  | none => none
  | some (d, o') => match unsnoc o' with
    | some (o, l) => some (d, (s.wo o).wl l)
    | none => none

def elemPtr (d : D) : List D := d.cells

def evOp (call : Caller) (t : Option Nat) : Op → S → Option (D × S)
  | .mv x, s => let a := rd x s; some a
  | .pk c a b, s => match (rd c s).1 with
    | .v (.bool q) => some (if q then rd a s else rd b s)
    | _ => none
  | .al z, s => match t with
    | some t => match lk t s.l with
      | none => some (.ptr s.o.length t 0, s.wl (ins t (z.map zc) s.l))
      | some _ => none
    | none => none
  | .bx x, s => match t with
    | some t => match lk t s.l with
      | none => let a := rd x s
        if a.1.bnd2 (s.o.length + 1) = true ∧ a.1.cells.all D.sto1 = true then some (.ptr s.o.length t 0, a.2.wl (ins t a.1.cells a.2.l)) else none
      | some _ => none
    | none => none
  | .ld n p, s => match (rd p s).1 with
    | .ptr f b off => match bx f b s with
      | some ds => (pick n ds off).map fun d => (d.strip, s)
      | none => none
    | .fptr cs off => (pick n cs off).map fun d => (d, s)
    | _ => none
  | .ldm n p, s => match (rd p s).1 with
    | .ptr f b off => match bx f b s with
      | some ds => (pick n ds off).map fun d => (d, sbx f b (over ds off d.strip.cells) s)
      | none => none
    | _ => none
  | .st n p x, s => match (rd p s).1 with
    | .ptr f b off => let a := rd x s
      match bx f b s with
      | some ds => if a.1.cells.length = n ∧ off + n ≤ ds.length ∧ a.1.bnd2 (f + 1) = true ∧ a.1.cells.all D.sto1 = true then some (.u, sbx f b (over ds off a.1.cells) a.2) else none
      | none => none
    | _ => none
  | .bin op x y, s => match (rd x s).1, (rd y s).1 with
    | .v (.int k a), .v (.int k' b) => if k = k' then (bz op k a b).map fun v => (.v v, s) else none
    | _, _ => none
  | .no x, s => match (rd x s).1 with
    | .v (.bool b) => some (.v (.bool !b), s)
    | _ => none
  | .un xr x, s => match (rd x s).1 with
    | .v (.int k a) => (if xr then bz .xor k (if k.signed then -1 else k.max) a else bz .sub k 0 a).map fun v => (.v v, s)
    | _ => none
  | .fa x off, s => match (rd x s).1 with
    | .ptr f b o => some (.ptr f b (o + off), s)
    | .fptr cs o => some (.fptr cs (o + off), s)
    | _ => none
  | .ia x i z, s => match (rd x s).1, (rd i s).1 with
    | .sl m z' xs, .v (.int _ i) => if z = z' ∧ 0 ≤ i ∧ m ≠ .mu then (xs[i.toNat]?).map fun d => (.fptr d.cells 0, s) else none
    | .ref f b off n z', .v (.int _ i) => if z = z' ∧ 0 ≤ i ∧ i < n then some (.ptr f b (off + i.toNat * z), s) else none
    | _, _ => none
  | .ext x i, s => match x with
    | .m n => match get n s.e with
      | .tup ds => (ds[i]?).map fun d => (d, put n (.tup (ds.set i d.strip2)) s)
      | _ => none
    | x => match (rd x s).1 with
      | .tup ds => (ds[i]?).map fun d => (d, s)
      | _ => none
  | .call f args, s => let a := rdL args s; doCall call f a.1 a.2
  | .cv x args, s => match (rd x s).1 with
    | .clo f caps => let a := rdL args s; doCall call f (a.1 ++ caps) a.2
    | .yld f b => match bx f b s with
      | some (.rcd _ _ rid _ :: _) => let a := rdL args s; doCall call rid (.yld f b :: a.1) a.2
      | _ => none
    | _ => none
  | .calf f args, s => let a := rdL args s; match doCall call f a.1 a.2 with
    | some (.agg cs, s') => some (.agg (cs.map D.dwn1), s')
    | r => r
  | .len x, s => match (rd x s).1 with
    | .sl _ _ xs => some (.v (.int .i64 xs.length), s)
    | .ref _ _ _ n _ => some (.v (.int .i64 n), s)
    | _ => none
  | .lns x, s => match (rd x s).1 with
    | .v (.string b) => some (.v (.int .i64 b.size), s)
    | _ => none
  | .bs z parts, s =>
    let xs := rds s parts
    if xs.all (fun d => d.cells.length = z && d.cells.all D.rf1) = true then some (.sl .app z xs, s) else none
  | .ap w z by_ x y, s => let a := rd x s
    match a.1, (rd y s).1 with
    | .sl .nl _ _, .sl m z' ys => if (z = z' ∨ ys.isEmpty = true) ∧ m ≠ .mu ∧ m ≠ .app ∧ ys.length * by_ ≤ 140737488355328 then some (if ys.isEmpty then .sl .nl 0 [] else .sl (if w then .mu else .app) z ys, a.2) else none
    | .sl .mu z1 xs, .sl m z' ys => if z = z1 ∧ (z = z' ∨ ys.isEmpty = true) ∧ m ≠ .mu ∧ m ≠ .app ∧ (xs.length + ys.length) * by_ ≤ 140737488355328 then some (.sl .mu z (xs ++ ys), a.2) else none
    | .sl .app z1 xs, .sl m z' ys => if z = z1 ∧ (z = z' ∨ ys.isEmpty = true) ∧ m ≠ .mu ∧ m ≠ .app ∧ (xs.length + ys.length) * by_ ≤ 140737488355328 then some (.sl .app z (xs ++ ys), a.2) else none
    | _, _ => none
  | .mk z by_ ze n c, s => match (rd n s).1, (rd c s).1 with
    | .v (.int _ n), .v (.int _ c) => if 0 ≤ n ∧ n ≤ c ∧ by_ * c ≤ 140737488355328 then some (.sl .app z (List.replicate n.toNat ze), s) else none
    | _, _ => none
  | .bd z parts, s => (lay s (z.map zc) parts).map fun cs => (.agg cs, s)
  | .slc z x lo hi, s => match (rd x s).1 with
    | .sl m z' xs =>
      match optI s 0 lo, optI s xs.length hi with
      | some l, some h => if (z = z' ∨ xs.isEmpty = true) ∧ 0 ≤ l ∧ l ≤ h ∧ h ≤ xs.length then (match m with
        | .nl => some (.sl .nl 0 [], s)
        | .ro => some (.sl .ro z ((xs.take h.toNat).drop l.toNat), s)
        | _ => none) else none
      | _, _ => none
    | .ref f b off n z' =>
      match optI s 0 lo, optI s n hi with
      | some l, some h => if z = z' ∧ 0 ≤ l ∧ l ≤ h ∧ h ≤ n then some (.ref f b (off + l.toNat * z) (h.toNat - l.toNat) z, s) else none
      | _, _ => none
    | _ => none
  | .eqn ne x, s => match (rd x s).1 with
    | .sl .nl _ _ => some (.v (.bool !ne), s)
    | .sl _ _ _ => some (.v (.bool ne), s)
    | .ref _ _ _ _ _ => some (.v (.bool ne), s)
    | _ => none
  | .eqs ne x y, s => match (rd x s).1, (rd y s).1 with
    | .v (.string a), .v (.string b) => some (.v (.bool ((a.toList == b.toList) != ne)), s)
    | _, _ => none
  | .eqb ne x y, s => match (rd x s).1, (rd y s).1 with
    | .v (.bool a), .v (.bool b) => some (.v (.bool ((a == b) != ne)), s)
    | _, _ => none
  | .eqa ne z x y, s => match (rd x s).1, (rd y s).1 with
    | .agg xs, .agg ys => (veqs z xs ys).map fun q => (.v (.bool (q != ne)), s)
    | _, _ => none
  | .sh op x y, s => match (rd x s).1, (rd y s).1 with
    | .v (.int k a), .v (.int _ b) => (bsh op k a b).map fun v => (.v v, s)
    | _, _ => none
  | .ci k x, s => match (rd x s).1 with
    | .v (.int _ a) => some (.v (.int k (k.wrap a)), s)
    | _ => none
  | .mm mx x r, s => match (rd x s).1 with
    | .v (.int k a) => (mnm mx k a s r).map fun v => (.v (.int k v), s)
    | _ => none
  | .mf f caps, s => let ds := rds s caps
    if ds.all D.capB = true then some (.clo f ds, s) else none
  | .nck x, s => match (rd x s).1 with
    | .ptr f b o => some (.ptr f b o, s)
    | .fptr cs o => some (.fptr cs o, s)
    | _ => none

/-! ### Regions and blocks -/
structure Stp where
  t : Option Nat
  g : Option (Nat × Bool)
  op : Op

def evStp (call : Caller) (p : Stp) (s : S) : Option S :=
  match p.g with
  | none => (evOp call p.t p.op s).map fun r => putO p.t r.1 r.2
  | some (q, want) => match get q s.e with
    | .v (.bool b) => if b = want then (evOp call p.t p.op s).map fun r => putO p.t r.1 r.2 else some (putO p.t (.v undef) s)
    | .v _ => some (putO p.t (.v undef) s)
    | _ => none
def evOps (call : Caller) : List Stp → S → Option S
  | [], s => some s
  | p :: r, s => (evStp call p s).bind (evOps call r)

/-! ### Steps that may be taken in another order -/
open Classical in
/-- What a call gives, whatever the variables are: it leaves them alone. -/
noncomputable def qv (c : Caller) (f : Nat) (ds : List D) : Option D := if h : ∃ d, ∀ B, c f ds B = some (d, B) then some h.choose else none
inductive Ba where
  | no
  | rd (f b : Nat)
  | wr (f b off : Nat) (cs : List D)
  | al (t : Nat) (ds : List D)
structure Ins where
  d : D
  mv : Option Nat
  a : Ba
def Ba.ap : Ba → S → S
  | .no, s => s
  | .rd _ _, s => s
  | .wr f b off cs, s => sbx f b (over ((bx f b s).getD []) off cs) s
  | .al t ds, s => s.wl (ins t ds s.l)
def moved : Option Nat → S → S
  | none, s => s
  | some n, s => put n (get n s.e).strip s
def Ins.ap (i : Ins) (t : Option Nat) (s : S) : S := putO t i.d (moved i.mv (i.a.ap s))

def Opd.rs : Opd → List Nat
  | .t n => [n]
  | .m n => [n]
  | _ => []
def Opd.ms : Opd → Option Nat
  | .m n => some n
  | _ => none
def Opd.ot : Opd → Bool
  | .m _ => false
  | _ => true
def Oop : Option Opd → List Nat
  | none => []
  | some x => x.rs
/-- What a step looks at. -/
def Op.rs : Op → List Nat
  | .mv x | .bx x | .ld _ x | .ldm _ x | .no x | .un _ x | .fa x _ | .ext x _ | .len x | .lns x | .eqn _ x | .ci _ x | .nck x => x.rs
  | .pk c a b => c.rs ++ a.rs ++ b.rs
  | .st _ x y | .bin _ x y | .ia x y _ | .ap _ _ _ x y | .mk _ _ _ x y | .eqs _ x y | .eqb _ x y | .eqa _ _ x y | .sh _ x y => x.rs ++ y.rs
  | .al _ => []
  | .bs _ xs | .call _ xs | .calf _ xs | .mf _ xs => xs.flatMap Opd.rs
  | .cv x xs | .mm _ x xs => x.rs ++ xs.flatMap Opd.rs
  | .bd _ ps => ps.flatMap fun p => p.2.2.rs
  | .slc _ x lo hi => x.rs ++ Oop lo ++ Oop hi
/-- What it moves out. -/
def Op.ms : Op → Option Nat
  | .mv x => x.ms
  | .ap _ _ _ x _ => x.ms
  | .st _ _ x => x.ms
  | _ => none
/-- Does it look at slots alone? -/
def Op.neut : Op → Bool
  | .mv _ => true
  | .pk _ a b => a.ot && b.ot
  | .ext x _ => x.ot
  | .bin .. | .no _ | .un .. | .fa .. | .ia .. | .len _ | .lns _ | .ap .. | .mk .. | .bd .. | .slc .. | .bs .. | .eqn .. | .eqs .. | .eqb .. | .eqa .. | .sh .. | .ci .. | .mm .. | .mf .. | .nck _ => true
  | _ => false

/-- What a call gives whose lists are handed on at once. -/
def dwnA : D → D
  | .agg cs => .agg (cs.map D.dwn1)
  | d => d
noncomputable def inst (c : Caller) (t : Option Nat) (p : Op) (s : S) : Option Ins :=
  match p with
  | .ld n x => match (rd x s).1 with
    | .ptr f b off => match bx f b s with
      | some ds => (pick n ds off).map fun d => ⟨d.strip, none, .rd f b⟩
      | none => none
    | .fptr cs off => (pick n cs off).map fun d => ⟨d, none, .no⟩
    | _ => none
  | .ldm n x => match (rd x s).1 with
    | .ptr f b off => match bx f b s with
      | some ds => (pick n ds off).map fun d => ⟨d, none, .wr f b off d.strip.cells⟩
      | none => none
    | _ => none
  | .st n x y => match (rd x s).1 with
    | .ptr f b off => match bx f b s with
      | some ds => if (rd y s).1.cells.length = n ∧ off + n ≤ ds.length ∧ (rd y s).1.bnd2 (f + 1) = true ∧ (rd y s).1.cells.all D.sto1 = true then some ⟨.u, y.ms, .wr f b off (rd y s).1.cells⟩ else none
      | none => none
    | _ => none
  | .al z => match t with
    | some t => match lk t s.l with
      | none => some ⟨.ptr s.o.length t 0, none, .al t (z.map zc)⟩
      | some _ => none
    | none => none
  | .call f xs => if xs.all Opd.ot = true then (qv c f (rds s xs)).map fun d => ⟨d, none, .no⟩ else none
  | .calf f xs => if xs.all Opd.ot = true then (qv c f (rds s xs)).map fun d => ⟨dwnA d, none, .no⟩ else none
  | p => if p.neut = true then (evOp c t p s).map fun r => ⟨r.1, p.ms, .no⟩ else none
noncomputable def instS (c : Caller) (p : Stp) (s : S) : Option Ins :=
  match p.g with
  | none => inst c p.t p.op s
  | some (q, want) => match get q s.e with
    | .v (.bool b) => if b = want then inst c p.t p.op s else some ⟨.v undef, none, .no⟩
    | .v _ => some ⟨.v undef, none, .no⟩
    | _ => none

def Stp.rs (p : Stp) : List Nat := (match p.g with | some (q, _) => [q] | none => []) ++ p.op.rs
def Ba.loc (k : Nat) : Ba → Option (Nat × Nat)
  | .no => none
  | .rd f b => some (f, b)
  | .wr f b _ _ => some (f, b)
  | .al t _ => some (k, t)
def Ba.w : Ba → Bool
  | .wr _ _ _ _ => true
  | .al _ _ => true
  | _ => false
/-- Two that leave each other alone. -/
def Ba.co (k : Nat) (a b : Ba) : Bool := match a.loc k, b.loc k with
  | some x, some y => !(a.w || b.w) || !(x.1 == y.1 && x.2 == y.2)
  | _, _ => true
/-- The steps of a region that draws its order: each with those that stand ahead of it in the text and may yet come behind it. -/
noncomputable def evDr (c : Caller) : List (Stp × List Nat) → List Ba → S → Option S
  | [], _, s => some s
  | (p, un) :: r, acts, s => match instS c p s with
    | some i => if un.all (fun m => (acts.getD m .no).co s.o.length i.a) = true then evDr c r (acts ++ [i.a]) (i.ap p.t s) else none
    | none => none

abbrev I (n : Int) : Opd := .c (.int .i64 n)
def s_ (t : Nat) (op : Op) : Stp := ⟨some t, none, op⟩
def n_ (op : Op) : Stp := ⟨none, none, op⟩
def g_ (q : Nat) (w : Bool) (t : Nat) (op : Op) : Stp := ⟨some t, some (q, w), op⟩

/-- What is told otherwise from here on, while nothing happens. -/
inductive Gc where
  | th (b c id : Nat)
  | fz (id : Nat)
  | dg (b c : Nat)
inductive Cd where
  | sk
  | rg (l : List Stp)
  | sq (a b : Cd)
  | ff (c : Opd) (a b : Cd)
  | bl (id : Nat) (c : Cd)
  | lp (ks bs : List Nat) (c : Cd)
  | rf (x : Opd) (b rid : Nat) (ks : List Nat)
  | dr (l : List (Stp × List Nat))
  | gs (l : List Gc) (c : Cd)
  | drt (l : List (Stp × List Nat)) (tl : List Stp)
  | ex (id : Nat)
  | rt
inductive Ex where
  | nm
  | ex (id : Nat)
  | rt
  deriving DecidableEq

/-- Does what is pointed to outlive a round? -/
def D.in1 (k : Nat) (bs : List Nat) : D → Bool
  | .ptr f s _ => f < k || (f == k && bs.contains s)
  | .ref f s _ _ _ => f < k || (f == k && bs.contains s)
  | .clo _ caps => caps.all fun | .ptr f s _ => f < k || (f == k && bs.contains s) | .v _ => true | .fptr _ _ => true | _ => false
  | .v _ => true
  | .sl _ _ _ => true
  | .fptr _ _ => true
  | .yld f _ => f < k
  | .u => true
  | _ => false
def D.in2 (k : Nat) (bs : List Nat) : D → Bool
  | .agg cs => cs.all (D.in1 k bs)
  | d => d.in1 k bs
def D.inn (k : Nat) (bs : List Nat) : D → Bool
  | .tup ds => ds.all (D.in2 k bs)
  | d => d.in2 k bs
def carE (k : Nat) (bs : List Nat) (e : Env) : List Nat → Option Env
  | [] => some []
  | t :: r => if (get t e).inn k bs then (carE k bs e r).map fun q => (t, get t e) :: q else none
def carL (k : Nat) (bs : List Nat) (l : Bx) : List Nat → Option Bx
  | [] => some []
  | b :: r => match lk b l with
    | some ds => if ds.all (D.in1 k bs) then (carL k bs l r).map fun q => (b, ds) :: q else none
    | none => none
/-- What a round leaves to the next one: some temporaries, some variables. -/
def carry (ks bs : List Nat) (s : S) : Option S :=
  match carE s.o.length bs s.e ks, carL s.o.length bs s.l bs with
  | some e, some l => some ⟨e, l, s.o⟩
  | _, _ => none

def iter (body : S → Option (Ex × S)) (cr : S → Option S) : Nat → S → Option (Ex × S)
  | 0, _ => none
  | n + 1, s => match cr s with
    | none => none
    | some s1 => match body s1 with
      | none => none
      | some (.nm, s2) => iter body cr n s2
      | some (x, s2) => some (x, s2)

open Classical in
noncomputable def lim {α : Type} (f : Nat → Option α) : Option α := if h : ∃ n r, f n = some r then some (h.choose_spec.choose) else none

def Ex.code : Ex → Nat
  | .nm => 0
  | .rt => 1
  | .ex id => id + 2
def exOf : Nat → Ex
  | 0 => .nm
  | 1 => .rt
  | n + 2 => .ex n
/-- What a round may see of the frame around it. -/
def D.cap (k : Nat) (d : D) : Bool := !d.aggB && !d.tupB && d.bnd1 k
/-- A loop over a function: its record is the variable b. -/
def evR (call : Caller) (x : Opd) (b rid : Nat) (ks : List Nat) (s : S) : Option (Ex × S) :=
  match (rd x s).1 with
  | .clo fn caps0 =>
    if (lk b s.l).isNone = true ∧ ((ks.map fun t => (get t s.e).strip).all (D.cap (s.o.length + 1))) = true then
      match doCall call fn (.yld s.o.length b :: caps0) (s.wl (ins b (.rcd 0 0 rid ks :: ks.map fun t => (get t s.e).strip) s.l)) with
      | some (_, s2) => match lk b s2.l with
        | some (.rcd st jm rid2 ks2 :: caps2) => if st = 1 then none else some (exOf jm, s2.wl (sb b (.rcd 3 jm rid2 ks2 :: caps2) s2.l))
        | _ => none
      | none => none
    else none
  | _ => none

def mkEl : List D → D
  | [d] => d
  | l => .agg l
/-- Cells, as elements of so many cells each. -/
def chunks (z : Nat) : Nat → List D → List D
  | 0, _ => []
  | n + 1, cs => mkEl (cs.take z) :: chunks z n (cs.drop z)
/-- What a function hands out that points to its own variables: these are never written again. -/
def D.frzP (k : Nat) (l : Bx) : D → D
  | .ptr f b off => if f = k then (match lk b l with
    | some cs => if cs.all D.rf1 = true then .fptr cs off else .ptr f b off
    | none => .ptr f b off) else .ptr f b off
  | .ref f b off n z => if f = k then (match lk b l with
    | some cs => if cs.all D.rf1 = true then (if off + n * z ≤ cs.length then .sl .ro z (chunks z n (cs.drop off)) else .u) else .ref f b off n z
    | none => .ref f b off n z) else .ref f b off n z
  | d => d
def D.frz1 (k : Nat) (l : Bx) : D → D
  | .clo fn caps => .clo fn (caps.map (D.frzP k l))
  | d => d.frzP k l
def D.frz2 (k : Nat) (l : Bx) : D → D
  | .agg cs => .agg (cs.map (D.frz1 k l))
  | d => d.frz1 k l
def D.frz3 (k : Nat) (l : Bx) : D → D
  | .tup ds => .tup (ds.map (D.frz2 k l))
  | d => d.frz2 k l
def rmL (b : Nat) : Bx → Bx
  | [] => []
  | (b', ds) :: r => if b = b' then rmL b r else (b', ds) :: rmL b r
def frzE (k : Nat) (l : Bx) (e : Env) : Env := e.map fun p => (p.1, p.2.frz3 k l)
def frzL (k : Nat) (l : Bx) (B : Bx) : Bx := B.map fun p => (p.1, p.2.map (D.frz1 k l))
def evG1 : Gc → S → Option S
  | .th b c id, s => match lk b s.l with
    | some ds => match ds[c]? with
      | some (.sl .mu z xs) => if (lk id s.l).isNone = true ∧ xs.all (fun d => d.cells.all D.rf1) = true then some (s.wl (ins id (xs.flatMap D.cells) (sb b (ds.set c (.ref s.o.length id 0 xs.length z)) s.l))) else none
      | some _ => some s
      | none => none
    | none => none
  | .fz id, s => match lk id s.l with
    | some cs => if cs.all D.rf1 = true then some ⟨frzE s.o.length [(id, cs)] s.e, frzL s.o.length [(id, cs)] (rmL id s.l), s.o⟩ else none
    | none => some s
  | .dg b c, s => match lk b s.l with
    | some ds => match ds[c]? with
      | some (.sl .mu z xs) => some (s.wl (sb b (ds.set c (.sl .app z xs)) s.l))
      | some _ => some s
      | none => none
    | none => none
def evG : List Gc → S → Option S
  | [], s => some s
  | p :: r, s => (evG1 p s).bind (evG r)

noncomputable def evC (call : Caller) : Cd → S → Option (Ex × S)
  | .sk, s => some (.nm, s)
  | .rg l, s => (evOps call l s).map fun s => (.nm, s)
  | .sq a b, s => match evC call a s with
    | some (.nm, s) => evC call b s
    | r => r
  | .ff c a b, s => match (rd c s).1 with
    | .v (.bool q) => if q then evC call a s else evC call b s
    | _ => none
  | .bl id c, s => match evC call c s with
    | some (.ex i, s) => if i = id then some (.nm, s) else some (.ex i, s)
    | r => r
  | .lp ks bs c, s => lim fun n => iter (evC call c) (carry ks bs) n s
  | .rf x b rid ks, s => evR call x b rid ks s
  | .dr l, s => (evDr call l [] s).map fun s => (.nm, s)
  | .drt l tl, s => ((evDr call l [] s).bind (evOps call tl)).map fun s => (.nm, s)
  | .gs l c, s => match evG l s with
    | some s => evC call c s
    | none => none
  | .ex id, s => some (.ex id, s)
  | .rt, s => some (.rt, s)

inductive Res where
  | t (n : Nat)
  | c (n : Nat) (q : Option Nat)
structure Fn where
  nt : Nat
  keep : Bool
  res : List Res
  rnd : Option (List Nat × Cd)
  body : Cd

def argE : Nat → List D → Env
  | _, [] => []
  | i, d :: r => (i, d) :: argE (i + 1) r
def res1 (call : Caller) (r : Res) (s : S) : Option (D × S) :=
  match r with
  | .t n => some (rd (.m n) s)
  | .c n q => evOp call none (.ldm q (.t n)) s
def resL (call : Caller) : List Res → S → Option (List D × S)
  | [], s => some ([], s)
  | r :: rs, s => (res1 call r s).bind fun a => (resL call rs a.2).map fun b => (a.1 :: b.1, b.2)
def mkRes : List D → D
  | [d] => d
  | ds => .tup ds
def envR : List Nat → List D → Env → Env
  | p :: ps, d :: ds, e => envR ps ds ((p, d.strip) :: e)
  | _, _, e => e
def envC : List Nat → List D → Env
  | t :: ts, d :: ds => (t, d.strip) :: envC ts ds
  | _, _ => []
/-- A round of a loop over a function. -/
noncomputable def runR (call : Caller) (F : Fn) (ps : List Nat) (asg : Cd) (rid : Nat) (f b : Nat) (args : List D) (B : List Bx) : Option (D × List Bx) :=
  match bx f b ⟨[], [], B⟩ with
  | some (.rcd 0 0 rid0 ks :: caps) =>
    if rid0 = rid ∧ f < B.length ∧ args.length = ps.length ∧ args.all (fun d => !d.tupB) = true then
      match evC call asg ⟨envR ps args (envC ks caps), [], B⟩ with
      | some (.nm, s1) => match bx f b s1 with
        | some (.rcd 0 j1 rid1 ks1 :: caps1) => match evC call F.body (sbx f b (.rcd 1 j1 rid1 ks1 :: caps1) s1) with
          | some (x, s2) => match bx f b s2 with
            | some (.rcd _ _ rid2 ks2 :: caps2) => some (.v (.bool (x.code == 0)), (sbx f b (.rcd (if x.code = 0 then 0 else 2) x.code rid2 ks2 :: caps2) s2).o)
            | _ => none
          | none => none
        | _ => none
      | _ => none
    else none
  | _ => none
noncomputable def runF (prog : Nat → Option Fn) (call : Caller) : Caller := fun f ds B =>
  match prog f with
  | none => none
  | some F => match F.rnd with
    | none => if ds.length ≤ F.nt ∧ ds.all (fun d => !d.tupB) = true then match evC call F.body ⟨argE 0 ds, [], B⟩ with
      | some (.ex _, _) => none
      | some (_, s) => (resL call F.res s).bind fun a =>
        let ds := a.1.map (D.frz2 B.length a.2.l)
        if ds.all (D.bnd2 B.length) then some (if F.keep then mkRes ds else (mkRes ds).strip, a.2.o) else none
      | none => none
      else none
    | some (ps, asg) => match ds with
      | .yld f' b :: args => runR call F ps asg f f' b args B
      | _ => none
/-- What the evaluator answers: the least that its equation bears. -/
inductive EFr (prog : Nat → Option Fn) : Nat → List D → List Bx → D × List Bx → Prop
  | mk {f : Nat} {ds : List D} {B : List Bx} {r : D × List Bx} (c : Caller) (h : ∀ f ds B r, c f ds B = some r → EFr prog f ds B r) (he : runF prog c f ds B = some r) : EFr prog f ds B r
open Classical in
/-- The evaluator. -/
noncomputable def EF (prog : Nat → Option Fn) : Caller := fun f ds B => if h : ∃ r, EFr prog f ds B r then some h.choose else none
theorem EF_r {prog : Nat → Option Fn} {f : Nat} {ds : List D} {B : List Bx} {r : D × List Bx} (h : EF prog f ds B = some r) : EFr prog f ds B r := by
  unfold EF at h
  split at h
  · rename_i hx; injection h with h; rw [← h]; exact hx.choose_spec
  · cases h
end Go.Proofs.Ytlhjdikklmkihaa.Ev
