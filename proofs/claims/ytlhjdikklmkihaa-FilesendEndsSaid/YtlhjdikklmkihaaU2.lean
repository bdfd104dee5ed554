/- What typed values say of data. Conditions: none. -/
import Derived.Test.YtlhjdikklmkihaaEvC
import Derived.Test.YtlhjdikklmkihaaEvT
import Derived.Test.YtlhjdikklmkihaaEvG
import Derived.Test.YtlhjdikklmkihaaEvY
set_option linter.all false
namespace Go.Proofs.Ytlhjdikklmkihaa.Ev.U
open Go
inductive Ty where
 | i (k : IntKind)
 | b
 | s
 | l (m : Mode) (t : Ty)
 | p (a r : Ty)
 | g (r : Ty)
 | t (a r : Ty)
 | n
 | o (a b : Ty)
 | fn (a r : Ty)
 | cl (f : Nat) (r : Ty)
 deriving DecidableEq
@[reducible] def Ty.T : Ty -> Type
 | .i _ => Int
 | .b => Bool
 | .s => List Int
 | .l _ e => List e.T
 | .p a r => a.T × r.T
 | .g r => r.T
 | .t a r => a.T × r.T
 | .n => Unit
 | .o a c => a.T ⊕ c.T
 | .fn a r => a.T -> Option r.T
 | .cl _ r => r.T
def dflt : (τ : Ty) -> Option τ.T
 | .i _ => some (0 : Int)
 | .b => some false
 | .s => some ([] : List Int)
 | .l _ t => some ([] : List t.T)
 | .p a r => (dflt a).bind fun x => (dflt r).map fun y => (x, y)
 | .g r => dflt r
 | .t a r => (dflt a).bind fun x => (dflt r).map fun y => (x, y)
 | .n => some ()
 | .o a b => none
 | .fn a r => some fun _ => none
 | .cl _ _ => none
def castT (a b : Ty) (x : a.T) : Option b.T := if h : a = b then some (h ▸ x) else none
inductive PB where
 | own (b : Nat)
 | ext (i : Nat)
 deriving DecidableEq
inductive W where
 | u (τ : Ty) (x : τ.T)
 | nil
 | np
 | un
 | pt (b : PB) (off : Nat)
 | fp (ws : List W) (off : Nat)
 | clo (fn : Nat) (caps : List W)
 | ag (ws : List W)
 | tp (ws : List W)
 | gd (p : List (Nat × Bool)) (c : Bool) (w : W)
 | lb (τ : Ty) (m : Int) (xs : List τ.T)
 | rs (b : Nat) (τ : Ty) (lo : Option Int) (n : Int)
 | ep (b : Nat) (τ : Ty) (i : Int) (off : Nat)
def uStrip : (τ : Ty) -> τ.T -> W
 | .l .app t, x => .u (.l .ro t) x
 | .l .mu t, x => .un
 | τ, x => .u τ x
def W.strip1 : W -> W
 | .u τ x => uStrip τ x
 | .ag _ => .un
 | .tp _ => .un
 | .gd _ _ _ => .un
 | w => w
def W.strip2 : W -> W
 | .ag ws => .ag (ws.map W.strip1)
 | w => w.strip1
def W.strip : W -> W
 | .tp ws => .tp (ws.map W.strip2)
 | w => w.strip2
def uDwn : (τ : Ty) -> τ.T -> W
 | .l .mu t, x => .u (.l .app t) x
 | τ, x => .u τ x
def W.dwn1 : W -> W
 | .u τ x => uDwn τ x
 | w => w
def dwnW : W -> W
 | .ag ws => .ag (ws.map W.dwn1)
 | w => w.dwn1
def W.cells : W -> List W
 | .ag ws => ws
 | w => [w]
def Ty.one : Ty -> Bool
 | .i _ => true
 | .b => true
 | .s => true
 | .l _ _ => true
 | .fn _ _ => true
 | .cl _ _ => true
 | _ => false
def Ty.rowk : Ty -> Bool
 | .p _ _ => true
 | τ => τ.one
def Ty.val : Ty -> Bool
 | .g _ => true
 | τ => τ.one
def Ty.tupk : Ty -> Bool
 | .t _ _ => true
 | .n => true
 | τ => τ.val
def cellsW : (r : Ty) -> r.T -> List W
 | .p a r, x => .u a x.1 :: cellsW r x.2
 | τ, x => [.u τ x]
def valW : (τ : Ty) -> τ.T -> W
 | .g r, x => .ag (cellsW r x)
 | τ, x => .u τ x
def tupW : (τ : Ty) -> τ.T -> List W
 | .t a r, x => valW a x.1 :: tupW r x.2
 | .n, _ => []
 | τ, x => [valW τ x]
def resW : (τ : Ty) -> τ.T -> W
 | .t a r, x => .tp (tupW (.t a r) x)
 | .n, _ => .tp []
 | τ, x => valW τ x
def nilT : (τ : Ty) -> Option τ.T
 | .l _ t => some ([] : List t.T)
 | _ => none
def oneT (τ : Ty) : W -> Option τ.T
 | .u τ' x => castT τ' τ x
 | .nil => nilT τ
 | _ => none
def rowT : (r : Ty) -> List W -> Option r.T
 | .p a r, w :: ws => (oneT a w).bind fun x => (rowT r ws).map fun y => (x, y)
 | τ, [w] => oneT τ w
 | _, _ => none
def valT : (τ : Ty) -> W -> Option τ.T
 | .g r, .ag ws => rowT r ws
 | τ, w => oneT τ w
def elT : (t : Ty) -> List W -> Option t.T
 | .g r, ws => rowT r ws
 | τ, [w] => oneT τ w
 | _, _ => none
def tupT : (τ : Ty) -> List W -> Option τ.T
 | .t a r, w :: ws => (valT a w).bind fun x => (tupT r ws).map fun y => (x, y)
 | .n, [] => some ()
 | .n, _ :: _ => none
 | τ, [w] => valT τ w
 | _, _ => none
def resT : (τ : Ty) -> W -> Option τ.T
 | .t a r, .tp ws => tupT (.t a r) ws
 | .n, .tp [] => some ()
 | τ, w => valT τ w
def tyOf : List Ty -> Ty
 | [] => .n
 | [a] => a
 | a :: b :: r => .t a (tyOf (b :: r))
def rowLen : Ty -> Nat
 | .p _ r => rowLen r + 1
 | _ => 1
def csz : Ty -> Nat
 | .g r => rowLen r
 | _ => 1
def elW : (t : Ty) -> t.T -> List W
 | .g r, x => cellsW r x
 | τ, x => [.u τ x]
def XTy : List Ty -> Ty
 | [] => .n
 | [a] => a
 | a :: b :: r => .o a (XTy (b :: r))
def injX : (l : List Ty) -> Nat -> (τ : Ty) -> τ.T -> Option (XTy l).T
 | [] => fun _ _ _ => none
 | [a] => fun i τ x => match i with
  | 0 => castT τ a x
  | _ + 1 => none
 | a :: b :: r => fun i τ x => match i with
  | 0 => (castT τ a x).map Sum.inl
  | i + 1 => (injX (b :: r) i τ x).map Sum.inr
def dspX {ρ : Type} : (l : List Ty) -> (XTy l).T -> (Nat -> (τ : Ty) -> τ.T -> Option ρ) -> Option ρ
 | [], _, _ => none
 | [a], x, h => h 0 a x
 | a :: b :: r, x, h => match x with
  | Sum.inl y => h 0 a y
  | Sum.inr z => dspX (b :: r) z fun i => h (i + 1)
inductive AK where
 | v (τ : Ty)
 | x (r : Ty)
 | o (r : Ty)
def AK.ty : AK -> Ty
 | .v τ => τ
 | .x r => .g r
 | .o r => .g r
def xsOf : List AK -> List Ty
 | [] => []
 | .x r :: l => .g r :: xsOf l
 | _ :: l => xsOf l
structure Sg where
 ak : List AK
 res : Ty
def Sg.aT (s : Sg) : Ty := tyOf (s.ak.map AK.ty)
def oTy : Ty -> List Ty -> Ty
 | r, [] => r
 | .n, l => tyOf l
 | r, l => .t r (tyOf l)
def Sg.oT (s : Sg) : Ty := oTy s.res (xsOf s.ak)
def outW : (r : Ty) -> (l : List Ty) -> (oTy r l).T -> W × List W
 | r, [], y => (resW r y, [])
 | .n, a :: l, y => (.tp [], tupW (tyOf (a :: l)) y)
 | .t p q, a :: l, y => (resW (.t p q) y.1, tupW (tyOf (a :: l)) y.2)
 | .i k, a :: l, y => (resW (.i k) y.1, tupW (tyOf (a :: l)) y.2)
 | .b, a :: l, y => (resW .b y.1, tupW (tyOf (a :: l)) y.2)
 | .s, a :: l, y => (resW .s y.1, tupW (tyOf (a :: l)) y.2)
 | .l m t, a :: l, y => (resW (.l m t) y.1, tupW (tyOf (a :: l)) y.2)
 | .p c d, a :: l, y => (resW (.p c d) y.1, tupW (tyOf (a :: l)) y.2)
 | .g c, a :: l, y => (resW (.g c) y.1, tupW (tyOf (a :: l)) y.2)
 | .o c d, a :: l, y => (resW (.o c d) y.1, tupW (tyOf (a :: l)) y.2)
 | .fn c d, a :: l, y => (resW (.fn c d) y.1, tupW (tyOf (a :: l)) y.2)
 | .cl c d, a :: l, y => (resW (.cl c d) y.1, tupW (tyOf (a :: l)) y.2)
def outT : (r : Ty) -> (l : List Ty) -> W -> List W -> Option (oTy r l).T
 | r, [], w, _ => resT r w
 | .n, a :: l, w, ws => (resT .n w).bind fun _ => tupT (tyOf (a :: l)) ws
 | .t p q, a :: l, w, ws => (resT (.t p q) w).bind fun x => (tupT (tyOf (a :: l)) ws).map fun y => (x, y)
 | .i k, a :: l, w, ws => (resT (.i k) w).bind fun x => (tupT (tyOf (a :: l)) ws).map fun y => (x, y)
 | .b, a :: l, w, ws => (resT .b w).bind fun x => (tupT (tyOf (a :: l)) ws).map fun y => (x, y)
 | .s, a :: l, w, ws => (resT .s w).bind fun x => (tupT (tyOf (a :: l)) ws).map fun y => (x, y)
 | .l m t, a :: l, w, ws => (resT (.l m t) w).bind fun x => (tupT (tyOf (a :: l)) ws).map fun y => (x, y)
 | .p c d, a :: l, w, ws => (resT (.p c d) w).bind fun x => (tupT (tyOf (a :: l)) ws).map fun y => (x, y)
 | .g c, a :: l, w, ws => (resT (.g c) w).bind fun x => (tupT (tyOf (a :: l)) ws).map fun y => (x, y)
 | .o c d, a :: l, w, ws => (resT (.o c d) w).bind fun x => (tupT (tyOf (a :: l)) ws).map fun y => (x, y)
 | .fn c d, a :: l, w, ws => (resT (.fn c d) w).bind fun x => (tupT (tyOf (a :: l)) ws).map fun y => (x, y)
 | .cl c d, a :: l, w, ws => (resT (.cl c d) w).bind fun x => (tupT (tyOf (a :: l)) ws).map fun y => (x, y)
inductive TF where
 | par (sg : Sg) (f : sg.aT.T -> Option sg.oT.T)
 | tot (sg : Sg) (f : sg.aT.T -> sg.oT.T)
 | gen (a r : Ty) (h : r.T -> Option (List a.T))
def TF.sg : TF -> Sg
 | .par s _ => s
 | .tot s _ => s
 | .gen _ _ _ => ⟨[], .n⟩
def TF.f : (t : TF) -> t.sg.aT.T -> Option t.sg.oT.T
 | .par _ f => f
 | .tot _ f => fun x => some (f x)
 | .gen _ _ _ => fun _ => none
abbrev Tab := Nat -> Option TF
structure SU where
 e : List (Nat × W)
 l : List (Nat × List W)
 m : List Nat
 x : List (List W)
 w : List Bool
def getW (t : Nat) : List (Nat × W) -> W
 | [] => .un
 | (t', w) :: r => bif Nat.beq t t' then w else getW t r
def lkW (b : Nat) : List (Nat × List W) -> Option (List W)
 | [] => none
 | (b', ws) :: r => bif Nat.beq b b' then some ws else lkW b r
def sbW (b : Nat) (ws : List W) : List (Nat × List W) -> List (Nat × List W)
 | [] => []
 | (b', ws') :: r => bif Nat.beq b b' then (b', ws) :: r else (b', ws') :: sbW b ws r
def hasN (n : Nat) : List Nat -> Bool
 | [] => false
 | m :: r => bif Nat.beq n m then true else hasN n r
abbrev Path := List (Nat × Bool)
def hasP (x : Nat × Bool) : Path -> Bool
 | [] => false
 | y :: r => bif Nat.beq x.1 y.1 && (x.2 == y.2) then true else hasP x r
def subP (q p : Path) : Bool := q.all fun x => hasP x p
def namesP (t : Nat) (q : Path) : Bool := q.any fun x => Nat.beq t x.1
def opn (p : Path) : W -> W
 | .gd q _ w => bif subP q p then w else .un
 | w => w
def clr (t : Nat) (e : List (Nat × W)) : List (Nat × W) := e.map fun x => match x.2 with
 | .gd q c w => bif namesP t q then (x.1, .un) else x
 | _ => x
def putW (t : Nat) (w : W) (s : SU) : SU := { s with e := (t, w) :: clr t s.e }
def putWO : Option Nat -> W -> SU -> SU
 | some t, w, s => putW t w s
 | none, _, s => s
def notLb : List W -> Option (List W)
 | [.lb _ _ _] => none
 | ws => some ws
def getBx (b : PB) (s : SU) : Option (List W) := match b with
 | .own b => (lkW b s.l).bind notLb
 | .ext i => s.x[i]?
def setBx (b : PB) (ws : List W) (s : SU) : Option SU := match b with
 | .own b => some { s with l := sbW b ws s.l }
 | .ext i => match s.w[i]? with
  | some true => some { s with x := s.x.set i ws }
  | _ => none
def overW (ws : List W) (off : Nat) (cs : List W) : List W := ws.take off ++ cs ++ ws.drop (off + cs.length)
def inK (k : IntKind) (n : Int) : Bool := match k with
 | .i8 => decide (-128 <= n ∧ n <= 127)
 | .i16 => decide (-32768 <= n ∧ n <= 32767)
 | .i32 => decide (-2147483648 <= n ∧ n <= 2147483647)
 | .i64 => decide (-9223372036854775808 <= n ∧ n <= 9223372036854775807)
 | .u8 => decide (0 <= n ∧ n <= 255)
 | .u16 => decide (0 <= n ∧ n <= 65535)
 | .u32 => decide (0 <= n ∧ n <= 4294967295)
 | .u64 => decide (0 <= n ∧ n <= 18446744073709551615)
def strI (s : ByteArray) : List Int := s.data.toList.map fun c => (c.toNat : Int)
def cW : Value -> W
 | .int k n => bif inK k n then .u (.i k) n else .un
 | .bool b => .u .b b
 | .string s => bif Nat.ble s.size 1000000 then .u .s (strI s) else .un
 | .slice none 0 0 => .nil
 | .pointer none => .np
 | _ => .un
def cV : Value -> W
 | .slice _ _ _ => .un
 | v => cW v
def rdW (p : Path) (x : Opd) (s : SU) : W × SU := match x with
 | .t n => ((opn p (getW n s.e)).strip, s)
 | .m n => match p with
  | [] => (opn [] (getW n s.e), putW n (opn [] (getW n s.e)).strip s)
  | _ => (.un, s)
 | .c v => (cV v, s)
 | .cn => (.nil, s)
 | .f n => (.clo n [], s)
def rdLW (p : Path) : List Opd -> SU -> List W × SU
 | [], s => ([], s)
 | x :: r, s => ((rdW p x s).1 :: (rdLW p r (rdW p x s).2).1, (rdLW p r (rdW p x s).2).2)
def rdsW (p : Path) (s : SU) : List Opd -> List W
 | [] => []
 | x :: r => (rdW p x s).1 :: rdsW p s r
def noUn : Option W -> Option W
 | some .un => none
 | x => x
def pickW (q : Option Nat) (ws : List W) (off : Nat) : Option W := match q with
 | none => noUn ws[off]?
 | some n => if off + n <= ws.length then some (.ag ((ws.drop off).take n)) else none
def uSto : Ty -> Bool
 | .i _ => true
 | .b => true
 | .s => true
 | .l _ _ => true
 | _ => false
def W.sto : W -> Bool
 | .u τ _ => uSto τ
 | .nil => true
 | .np => true
 | .pt _ _ => true
 | .fp _ _ => true
 | .clo _ _ => true
 | .rs _ _ _ _ => true
 | .ep _ _ _ _ => true
 | _ => false
def W.stoX : W -> Bool
 | .u τ _ => uSto τ
 | .nil => true
 | .np => true
 | .fp _ _ => true
 | _ => false
def stoB (b : PB) (w : W) : Bool := match b with
 | .own _ => true
 | .ext _ => w.cells.all W.stoX
def idx {α : Type} (xs : List α) (i : Int) : Option α := if 0 <= i then xs[i.toNat]? else none
def cut {α : Type} (xs : List α) (lo hi : Int) : Option (List α) := if 0 <= lo ∧ lo <= hi ∧ hi <= (xs.length : Int) then some ((xs.take hi.toNat).drop lo.toNat) else none
def apd {α : Type} (by_ : Nat) (xs ys : List α) : Option (List α) := if (xs.length + ys.length) * by_ <= 140737488355328 then some (xs ++ ys) else none
def mkl {α : Type} (by_ : Nat) (n c : Int) (x : α) : Option (List α) := if 0 <= n ∧ n <= c ∧ (by_ : Int) * c <= 140737488355328 then some (List.replicate n.toNat x) else none
def quo (k : IntKind) (a b : Int) : Option Int := if b = 0 then none else some (k.wrap (a.tdiv b))
def rem (a b : Int) : Option Int := if b = 0 then none else some (a.tmod b)
def andI (k : IntKind) (a b : Int) : Int := k.wrap (BitVec.ofInt k.bits a &&& BitVec.ofInt k.bits b).toNat
def orI (k : IntKind) (a b : Int) : Int := k.wrap (BitVec.ofInt k.bits a ||| BitVec.ofInt k.bits b).toNat
def xorI (k : IntKind) (a b : Int) : Int := k.wrap (BitVec.ofInt k.bits a ^^^ BitVec.ofInt k.bits b).toNat
def andN (k : IntKind) (a b : Int) : Int := k.wrap (BitVec.ofInt k.bits a &&& ~~~(BitVec.ofInt k.bits b)).toNat
def shlI (k : IntKind) (a b : Int) : Int := k.wrap (a * 2 ^ (min b.toNat k.bits))
def shrI (k : IntKind) (a b : Int) : Int := a.fdiv (2 ^ (min b.toNat k.bits))
def chkI (m n : Int) : Option Unit := if 0 <= m ∧ m < n then some () else none
def chkS (l h n : Int) : Option Unit := if 0 <= l ∧ l <= h ∧ h <= n then some () else none
def eqI (m n : Int) : Option Unit := if m = n then some () else none
def plusO (l : Option Int) (i : Int) : Int := match l with
 | none => i
 | some l => l + i
def nilq {α : Type} (xs : List α) (ne : Bool) : Option Bool := if xs.isEmpty then none else some ne
inductive Cm (α : Type) where
 | f
 | r (a : α)
 | b (τ : Ty) (o : Option τ.T) (d : Option τ.T) (k : τ.T -> α)
def Cm.map {α β : Type} (g : α -> β) : Cm α -> Cm β
 | .f => .f
 | .r a => .r (g a)
 | .b τ o d k => .b τ o d fun x => g (k x)
def cmO {α : Type} : Option α -> Cm α
 | none => .f
 | some a => .r a
def merge1 (q : Bool) : W -> W -> Option W
 | .u τ x, .u τ' y => (castT τ' τ y).map fun y => .u τ (if q then x else y)
 | .u τ x, .nil => (nilT τ).map fun y => .u τ (if q then x else y)
 | .nil, .u τ y => (nilT τ).map fun x => .u τ (if q then x else y)
 | .nil, .nil => some .nil
 | .np, .np => some .np
 | .pt b o, .pt b' o' => if b = b' ∧ o = o' then some (.pt b o) else none
 | _, _ => none
def mergeL (q : Bool) : List W -> List W -> Option (List W)
 | [], [] => some []
 | x :: xs, y :: ys => (merge1 q x y).bind fun z => (mergeL q xs ys).map fun zs => z :: zs
 | _, _ => none
def mergeW (q : Bool) : W -> W -> Option W
 | .ag xs, .ag ys => (mergeL q xs ys).map .ag
 | x, y => merge1 q x y
def binW (op : Bop) (nz : Bool) (k : IntKind) (x y : Int) : Cm W := match op with
 | .add => .r (.u (.i k) (k.wrap (x + y)))
 | .sub => .r (.u (.i k) (k.wrap (x - y)))
 | .mul => .r (.u (.i k) (k.wrap (x * y)))
 | .eql => .r (.u .b (x == y))
 | .neq => .r (.u .b (x != y))
 | .lss => .r (.u .b (decide (x < y)))
 | .leq => .r (.u .b (decide (x <= y)))
 | .gtr => .r (.u .b (decide (x > y)))
 | .geq => .r (.u .b (decide (x >= y)))
 | .quo => bif nz then .r (.u (.i k) (k.wrap (x.tdiv y))) else .b (.i k) (quo k x y) (some (0 : Int)) fun z => .u (.i k) z
 | .rem => bif nz then .r (.u (.i k) (x.tmod y)) else .b (.i k) (rem x y) (some (0 : Int)) fun z => .u (.i k) z
 | .and => .r (.u (.i k) (andI k x y))
 | .or => .r (.u (.i k) (orI k x y))
 | .xor => .r (.u (.i k) (xorI k x y))
 | .andNot => .r (.u (.i k) (andN k x y))
 | _ => .f
def nzO : Opd -> Bool
 | .c (.int _ (.ofNat (n + 1))) => true
 | .c (.int _ (.negSucc _)) => true
 | _ => false
def nnO : Opd -> Bool
 | .c (.int _ (.ofNat _)) => true
 | _ => false
def shW (op : Bop) (nn : Bool) (k : IntKind) (x y : Int) : Cm W :=
 let go := fun v : Int => bif nn then Cm.r (W.u (.i k) v) else Cm.b (.i k) (if y < 0 then none else some v) (some (0 : Int)) fun z => .u (.i k) z
 match op with
 | .shl => go (shlI k x y)
 | .shr => go (shrI k x y)
 | _ => .f
def veqW : List W -> List W -> Option Bool
 | [], [] => some true
 | .u (.i k) x :: r, .u (.i k') y :: r' => if k = k' then (veqW r r').map fun b => (x == y) && b else none
 | .u .b x :: r, .u .b y :: r' => (veqW r r').map fun b => (x == y) && b
 | .u .s x :: r, .u .s y :: r' => (veqW r r').map fun b => decide (x = y) && b
 | _, _ => none
def zOk : List Value -> List W -> Bool
 | [], [] => true
 | .int k _ :: z, .u (.i k') _ :: r => if k = k' then zOk z r else false
 | .bool _ :: z, .u .b _ :: r => zOk z r
 | .string _ :: z, .u .s _ :: r => zOk z r
 | _, _ => false
def mmW (mx : Bool) (k : IntKind) (a : Int) : List W -> Option Int
 | [] => some a
 | .u (.i k') y :: r => if k = k' then mmW mx k (if mx then (if y > a then y else a) else (if y < a then y else a)) r else none
 | _ => none
def zElT (a : Ty) : D -> Option a.T
 | .agg ds => valT a (.ag (ds.map fun | .v x => cV x | .sl .nl _ [] => .nil | _ => .un))
 | .v x => valT a (cV x)
 | .sl .nl _ [] => valT a .nil
 | _ => none
def layW (p : Path) (s : SU) : List W -> List (Nat × Nat × Opd) -> Option (List W)
 | cs, [] => some cs
 | cs, (off, sz, x) :: r =>
  if (rdW p x s).1.cells.length = sz ∧ off + sz <= cs.length ∧ ((rdW p x s).1.cells.all fun w => w.sto && w.strip1.sto) = true then layW p s (overW cs off ((rdW p x s).1.cells.map W.strip1)) r else none
def allT (t : Ty) : List W -> Option (List t.T)
 | [] => some []
 | w :: r => (valT t w).bind fun x => (allT t r).map fun y => x :: y
def elOk : Ty -> Bool
 | .i _ => true
 | .b => true
 | .s => true
 | .l .ro t => true
 | _ => false
def rowOk : Ty -> Bool
 | .p a r => elOk a && rowOk r
 | τ => elOk τ
def eleOk : Ty -> Bool
 | .g r => rowOk r
 | τ => elOk τ
def distP : List (Bool × PB) -> Bool
 | [] => true
 | (x, b) :: r => (r.all fun y => !(x || y.1) || !(decide (b = y.2))) && distP r
def capPts : List W -> List PB
 | [] => []
 | .pt b _ :: r => b :: capPts r
 | _ :: r => capPts r
def ptsX : List AK -> List W -> List (Bool × PB)
 | .x _ :: ak, .pt b _ :: ws => (true, b) :: ptsX ak ws
 | .o _ :: ak, .pt b _ :: ws => (false, b) :: ptsX ak ws
 | _ :: ak, _ :: ws => ptsX ak ws
 | _, _ => []
def ptsC : List W -> List PB
 | [] => []
 | .clo _ caps :: ws => capPts caps ++ ptsC ws
 | _ :: ws => ptsC ws
def distOk (ak : List AK) (ws : List W) : Bool := distP (ptsX ak ws) && (ptsX ak ws).all fun x => !x.1 || (ptsC ws).all fun y => !(decide (x.2 = y))
def W.pf0 : W -> Bool
 | .u _ _ => true
 | .nil => true
 | _ => false
def W.pf1 : W -> Bool
 | .ag ws => ws.all W.pf0
 | w => w.pf0
def W.pf2 : W -> Bool
 | .tp ws => ws.all W.pf1
 | w => w.pf1
def wrB (s : SU) : PB -> Bool
 | .own _ => true
 | .ext i => match s.w[i]? with
  | some true => true
  | _ => false
def chk1 (w : W) : Option W := bif w.pf1 then some w else none
def arg0 (s : SU) : AK -> W -> Option W
 | .v τ, w => chk1 w
 | .x r, .pt b off => bif wrB s b then (getBx b s).bind fun ws => (pickW (some (rowLen r)) ws off).bind chk1 else none
 | .o r, .pt b off => (getBx b s).bind fun ws => (pickW (some (rowLen r)) ws off).bind chk1
 | _, _ => none
def args0 (s : SU) : List AK -> List W -> Option (List W)
 | [], [] => some []
 | a :: ak, w :: ws => (arg0 s a w).bind fun x => (args0 s ak ws).map fun y => x :: y
 | _, _ => none
def Ty.fo : Ty -> Bool
 | .fn _ _ => false
 | .l _ e => e.fo
 | .p a r => a.fo && r.fo
 | .g r => r.fo
 | .t a r => a.fo && r.fo
 | .o a r => a.fo && r.fo
 | .cl _ r => r.fo
 | _ => true
def Sg.ok (s : Sg) : Bool := s.res.fo && s.res.tupk && s.ak.all fun
 | .v τ => τ.val
 | .x r => r.rowk && r.fo
 | .o r => r.rowk && r.fo
def tupOk : Ty -> Bool
 | .t a r => a.val && tupOk r
 | .n => true
 | τ => τ.val
def capW : W -> Bool
 | .pt _ _ => true
 | .fp _ _ => true
 | .u (.i _) _ => true
 | .u .b _ => true
 | .u .s _ => true
 | _ => false
def capIn (s : SU) : W -> Bool
 | .pt b _ => (getBx b s).isSome
 | _ => true
def cloF (C : Tab) (s : SU) (fn : Nat) (caps : List W) (a r : Ty) : Option (a.T -> Option r.T) := match C fn with
 | none => none
 | some tf => match xsOf tf.sg.ak, a.fo && r.fo && a.tupk && tupOk r && tf.sg.ok && caps.all (capIn s) && caps.all capW with
  | [], true => some fun x => (args0 s tf.sg.ak (tupW a x ++ caps)).bind fun ws => (tupT tf.sg.aT ws).bind fun y => (tf.f y).bind fun z => castT _ r z
  | _, _ => none
def argF (C : Tab) (s : SU) : AK -> W -> Option W
 | .v (.fn a r), .clo fn caps => (cloF C s fn caps a r).map fun φ => .u (.fn a r) φ
 | a, w => arg0 s a w
def argsF (C : Tab) (s : SU) : List AK -> List W -> Option (List W)
 | [], [] => some []
 | a :: ak, w :: ws => (argF C s a w).bind fun x => (argsF C s ak ws).map fun y => x :: y
 | _, _ => none
def backW : List AK -> List W -> List W -> SU -> Option SU
 | [], _, _, s => some s
 | .x r :: ak, .pt b off :: ws, y :: ys, s => (getBx b s).bind fun cs => if off + y.cells.length <= cs.length then (setBx b (overW cs off y.cells) s).bind fun s' => backW ak ws ys s' else none
 | .x _ :: _, _, _, _ => none
 | .v _ :: ak, _ :: ws, ys, s => backW ak ws ys s
 | .o _ :: ak, _ :: ws, ys, s => backW ak ws ys s
 | _, _, _, _ => none
def callW (C : Tab) (f : Nat) (ws : List W) (s : SU) : Cm (Option (W × SU)) := match C f with
 | none => .f
 | some (.par sg g) => match (argsF C s sg.ak ws).bind (tupT sg.aT), distOk sg.ak ws && sg.ok with
  | some a, true => .b sg.oT (g a) (dflt sg.oT) fun y => (backW sg.ak ws (outW sg.res (xsOf sg.ak) y).2 s).map fun s' => ((outW sg.res (xsOf sg.ak) y).1, s')
  | _, _ => .f
 | some (.tot sg g) => match (argsF C s sg.ak ws).bind (tupT sg.aT), distOk sg.ak ws && sg.ok with
  | some a, true => .r ((backW sg.ak ws (outW sg.res (xsOf sg.ak) (g a)).2 s).map fun s' => ((outW sg.res (xsOf sg.ak) (g a)).1, s'))
  | _, _ => .f
 | some (.gen _ _ _) => .f
def okQ (T : Tab) (f : Nat) : Bool := match T f with
 | some tf => tf.sg.ak.all fun
  | .v τ => τ.fo
  | _ => false
 | none => false
def apM (w : Bool) : Mode := if w then .mu else .app
def snpW1 (s : SU) : W -> Option (List (Int × Int) × W)
 | .u (.i k) x => some ([], .u (.i k) x)
 | .u .b x => some ([], .u .b x)
 | .u .s x => some ([], .u .s x)
 | .u (.l m t) x => if t.fo = true ∧ m ≠ .nl then some ([], .u (.l .ro t) x) else none
 | .nil => some ([], .nil)
 | .rs b τ none n => match lkW b s.l with
  | some [.lb τ' m xs] => match castT (.l .mu τ') (.l .mu τ) xs with
   | some xs => if τ.fo = true then some ([(n, m)], .u (.l .ro τ) xs) else none
   | none => none
  | _ => none
 | _ => none
def snpWL (s : SU) : List W -> Option (List (Int × Int) × List W)
 | [] => some ([], [])
 | w :: ws => match snpW1 s w, snpWL s ws with
  | some a, some b => some (a.1 ++ b.1, a.2 :: b.2)
  | _, _ => none
def snpW (s : SU) : W -> Option (List (Int × Int) × W)
 | .ag ws => (snpWL s ws).map fun q => (q.1, .ag q.2)
 | w => snpW1 s w
def rdRW (x : Opd) (s : SU) : W := match x with
 | .t n => getW n s.e
 | x => (rdW [] x s).1
def snpAW (s : SU) : List Opd -> Option (List (Int × Int) × List W)
 | [] => some ([], [])
 | x :: r => match snpW s (rdRW x s), snpAW s r with
  | some a, some b => some (a.1 ++ b.1, a.2 :: b.2)
  | _, _ => none
def chkL {α : Type} : List (Int × Int) -> Option α -> Option α
 | [], o => o
 | (a, b) :: r, o => (eqI a b).bind fun _ => chkL r o
def scal : Ty -> Bool
 | .i _ => true
 | .b => true
 | .s => true
 | _ => false
def cpyL {α : Type} (xs : List α) (lo n : Int) (ys : List α) : Option (List α) := if lo.toNat + n.toNat <= xs.length then some (xs.take lo.toNat ++ ys.take n.toNat ++ xs.drop (lo.toNat + min ys.length n.toNat)) else none
def liO (p : Path) (s : SU) (d : Int) : Option Opd -> Option Int
 | none => some d
 | some x => match (rdW p x s).1 with
  | .u (.i _) n => some n
  | _ => none
def evOpW (C : Tab) (p : Path) (t : Option Nat) (a : Ty) (op : Op) (s : SU) : Cm (Option (W × SU)) := match op with
 | .mv x => .r (some (rdW p x s))
 | .pk c x y => match (rdW p c s).1 with
  | .u .b q =>
   let n := match c with | .t n => some n | _ => none
   let ext := fun w : Bool => match n with | some n => (n, w) :: p | none => p
   match x.ot && y.ot, mergeW q (rdW (ext true) x s).1 (rdW (ext false) y s).1 with
   | true, some w => .r (some (w, s))
   | _, _ => .f
  | _ => .f
 | .al z => match t, p with
  | some t, [] => bif hasN t s.m then .f else .r (some (.pt (.own t) 0, { s with l := (t, z.map cW) :: s.l, m := t :: s.m }))
  | _, _ => .f
 | .bx x => match t, p with
  | some t, [] => bif hasN t s.m || !((rdW p x s).1.cells.all W.sto) then .f else .r (some (.pt (.own t) 0, { (rdW p x s).2 with l := (t, (rdW p x s).1.cells) :: (rdW p x s).2.l, m := t :: s.m }))
  | _, _ => .f
 | .ld q x => match (rdW p x s).1 with
  | .pt b off => match (getBx b s).bind fun ws => pickW q ws off with
   | some w => .r (some (w.strip, s))
   | none => .f
  | .fp ws off => match pickW q ws off with
   | some w => .r (some (w, s))
   | none => .f
  | .ep b τ i off => match lkW b s.l with
   | some [.lb τ' _ xs] => match castT (.l .mu τ') (.l .mu τ) xs with
    | some xs => .b τ (idx (α := τ.T) xs i) (dflt τ) fun x => (pickW q (elW τ x) off).map fun w => (w.strip, s)
    | none => .f
   | _ => .f
  | _ => .f
 | .ldm q x => match (rdW p x s).1, p with
  | .pt b off, [] => match getBx b s with
   | some ws => match pickW q ws off with
    | some w => .r ((setBx b (overW ws off w.strip.cells) s).map fun s' => (w, s'))
    | none => .f
   | none => .f
  | _, _ => .f
 | .st n x y => match (rdW p x s).1, p with
  | .pt b off, [] => match getBx b s with
   | some ws => if (rdW p y s).1.cells.length = n ∧ off + n <= ws.length ∧ (rdW p y s).1.cells.all W.sto = true ∧ stoB b (rdW p y s).1 = true then .r ((setBx b (overW ws off (rdW p y s).1.cells) (rdW p y s).2).map fun s' => (.un, s')) else .f
   | none => .f
  | .ep b τ i off, [] => match lkW b s.l with
   | some [.lb τ' m xs] => match castT (.l .mu τ') (.l .mu τ) xs with
    | some xs => if (rdW p y s).1.cells.length = n ∧ off + n <= csz τ ∧ (rdW p y s).1.cells.all W.sto = true then .b τ (idx (α := τ.T) xs i) none fun x => (elT τ (overW (elW τ x) off (rdW p y s).1.cells)).map fun x' => (.un, { (rdW p y s).2 with l := sbW b [.lb τ m (List.set (α := τ.T) xs i.toNat x')] (rdW p y s).2.l }) else .f
    | none => .f
   | _ => .f
  | _, _ => .f
 | .bin o x y => match (rdW p x s).1, (rdW p y s).1 with
  | .u (.i k) m, .u (.i k') n => if k = k' then (binW o (nzO y) k m n).map fun w => some (w, s) else .f
  | _, _ => .f
 | .no x => match (rdW p x s).1 with
  | .u .b q => .r (some (.u .b (!q), s))
  | _ => .f
 | .un xr x => match (rdW p x s).1 with
  | .u (.i k) n => .r (some (.u (.i k) (if xr then xorI k (if k.signed then -1 else k.max) n else k.wrap (0 - n)), s))
  | _ => .f
 | .fa x off => match (rdW p x s).1 with
  | .pt b o => .r (some (.pt b (o + off), s))
  | .fp ws o => .r (some (.fp ws (o + off), s))
  | .ep b τ i o => .r (some (.ep b τ i (o + off), s))
  | _ => .f
 | .ia x j z => match (rdW p x s).1, (rdW p j s).1 with
  | .u (.l m t) xs, .u (.i _) n => if csz t = z ∧ m ≠ .mu ∧ m ≠ .app ∧ t.val = true then .b t (idx xs n) (dflt t) fun x => some (.fp (elW t x) 0, s) else .f
  | .nil, .u (.i _) n => .b .n none (some ()) fun _ => some (.un, s)
  | .rs b τ lo m, .u (.i _) n => if csz τ = z then .b .n (chkI n m) (some ()) fun _ => some (.ep b τ (plusO lo n) 0, s) else .f
  | _, _ => .f
 | .ext x i => match x, p with
  | .m n, [] => match getW n s.e with
   | .tp ws => match ws[i]? with
    | some w => .r (some (w, putW n (.tp (ws.set i w.strip2)) s))
    | none => .f
   | _ => .f
  | .m _, _ => .f
  | x, _ => match (rdW p x s).1 with
   | .tp ws => match ws[i]? with
    | some w => .r (some (w, s))
    | none => .f
   | _ => .f
 | .call f xs => match xs.all Opd.ot || p.isEmpty with
  | true => callW C f (rdLW p xs s).1 (rdLW p xs s).2
  | false => .f
 | .calf f xs => match xs.all Opd.ot || p.isEmpty with
  | true => (callW C f (rdLW p xs s).1 (rdLW p xs s).2).map fun r => r.map fun q => (dwnW q.1, q.2)
  | false => .f
 | .cv x xs => match xs.all Opd.ot || p.isEmpty, (rdW p x s).1 with
  | true, .clo f caps => callW C f ((rdLW p xs s).1 ++ caps) (rdLW p xs s).2
  | true, .u (.fn a r) φ => match (tupT a (rdLW p xs s).1), a.fo && r.tupk with
   | some y, true => .b r (φ y) (dflt r) fun z => some (resW r z, (rdLW p xs s).2)
   | _, _ => .f
  | _, _ => .f
 | .len x => match (rdW p x s).1 with
  | .u (.l _ t) xs => .r (some (.u (.i .i64) ((List.length (α := t.T) xs : Nat) : Int), s))
  | .nil => .r (some (.u (.i .i64) 0, s))
  | .rs _ _ _ n => .r (some (.u (.i .i64) n, s))
  | _ => .f
 | .six _ _ => .f
 | .bxo _ _ => .f
 | .mkm => .f
 | .lns x => match (rdW p x s).1 with
  | .u .s xs => .r (some (.u (.i .i64) ((List.length (α := Int) xs : Nat) : Int), s))
  | _ => .f
 | .ap w z by_ x y => match p, (rdW p x s).1, (rdW p y s).1 with
  | [], .nil, .nil => .r (some (.nil, (rdW p x s).2))
  | [], .nil, .u (.l .ro t) ys => if csz t = z ∧ 0 < by_ then .b (.l .ro t) (apd by_ [] ys) none fun r => some (.u (.l (apM w) t) r, (rdW p x s).2) else .f
  | [], .u (.l m t) xs, .u (.l .ro t') ys => if csz t = z ∧ 0 < by_ ∧ m = apM w then (match castT (.l .ro t') (.l .ro t) ys with
   | some ys => .b (.l m t) (apd by_ xs ys) none fun r => some (.u (.l m t) r, (rdW p x s).2)
   | none => .f) else .f
  | _, _, _ => .f
 | .bs w z xs => match eleOk a, allT a (rdsW p s xs) with
  | true, some l => if csz a = z ∧ a.val = true ∧ xs.length <= 1000000 then .r (some (.u (.l (apM w) a) l, s)) else .f
  | _, _ => .f
 | .mk w z by_ ze n c => match eleOk a, zElT a ze, (rdW p n s).1, (rdW p c s).1 with
  | true, some q, .u (.i _) n, .u (.i _) c => if csz a = z ∧ 0 < by_ then .b (.l (apM w) a) (mkl by_ n c q) none fun r => some (.u (.l (apM w) a) r, s) else .f
  | _, _, _, _ => .f
 | .bd z ps => match layW p s (z.map cW) ps with
  | some cs => .r (some (.ag cs, s))
  | none => .f
 | .slc z x lo hi => match (rdW p x s).1 with
  | .u (.l .ro t) xs => match liO p s 0 lo, liO p s ((List.length (α := t.T) xs : Nat) : Int) hi with
   | some l, some h => if csz t = z then .b (.l .ro t) (cut (α := t.T) xs l h) (some ([] : List t.T)) fun r => some (.u (.l .ro t) r, s) else .f
   | _, _ => .f
  | .rs b τ lo' n => match liO p s 0 lo, liO p s n hi with
   | some l, some h => if csz τ = z then .b .n (chkS l h n) (some ()) fun _ => some (.rs b τ (some (plusO lo' l)) (h - l), s) else .f
   | _, _ => .f
  | _ => .f
 | .eqn ne x => match (rdW p x s).1 with
  | .u (.l .ro t) xs => .b .b (nilq (α := t.T) xs ne) (some false) fun r => some (.u .b r, s)
  | .nil => .r (some (.u .b (!ne), s))
  | _ => .f
 | .eqs ne x y => match (rdW p x s).1, (rdW p y s).1 with
  | .u .s a, .u .s b => .r (some (.u .b (if ne then !(decide (a = b)) else decide (a = b)), s))
  | _, _ => .f
 | .eqb ne x y => match (rdW p x s).1, (rdW p y s).1 with
  | .u .b a, .u .b b => .r (some (.u .b ((a == b) != ne), s))
  | _, _ => .f
 | .eqa ne z x y => match (rdW p x s).1, (rdW p y s).1 with
  | .ag xs, .ag ys => match zOk z xs, veqW xs ys with
   | true, some q => .r (some (.u .b (if ne then !q else q), s))
   | _, _ => .f
  | _, _ => .f
 | .sh o x y => match (rdW p x s).1, (rdW p y s).1 with
  | .u (.i k) m, .u (.i _) n => (shW o (nnO y) k m n).map fun w => some (w, s)
  | _, _ => .f
 | .ci k x => match (rdW p x s).1 with
  | .u (.i _) n => .r (some (.u (.i k) (k.wrap n), s))
  | _ => .f
 | .mm mx x r => match (rdW p x s).1 with
  | .u (.i k) n => match mmW mx k n (rdsW p s r) with
   | some v => .r (some (.u (.i k) v, s))
   | none => .f
  | _ => .f
 | .mf f caps => if (rdsW p s caps).all capW = true then .r (some (.clo f (rdsW p s caps), s)) else .f
 | .nck x => match (rdW p x s).1 with
  | .pt b o => .r (some (.pt b o, s))
  | .fp ws o => .r (some (.fp ws o, s))
  | .ep b τ i o => .r (some (.ep b τ i o, s))
  | _ => .f
 | .bst x => match (rdW p x s).1 with
  | .u (.l .ro (.i .u8)) xs => .r (some (.u .s xs, s))
  | .nil => .r (some (.u .s ([] : List Int), s))
  | _ => .f
 | .cpy x y => match p, (rdW p x s).1 with
  | [], .rs b τ lo n => match lkW b s.l, oneT (.l .ro τ) (rdW p y s).1 with
   | some [.lb τ' m xs], some ys => match castT (.l .mu τ') (.l .mu τ) xs with
    | some xs => if τ.one = true then .b (.l .mu τ) (cpyL (α := τ.T) xs (lo.getD 0) n ys) none fun r => some (.u (.i .i64) ((min (List.length (α := τ.T) ys) n.toNat : Nat) : Int), { s with l := sbW b [.lb τ m r] s.l }) else .f
    | none => .f
   | _, _ => .f
  | _, _ => .f
 | .pcal f xs => match p, snpAW s xs, C f with
  | [], some (q, ws), some tf => match okQ C f && tf.sg.ok && scal tf.sg.res && Nat.beq tf.sg.ak.length ws.length, tupT tf.sg.aT ws with
   | true, some a => .b tf.sg.oT (chkL q (tf.f a)) none fun y => some ((outW tf.sg.res (xsOf tf.sg.ak) y).1, s)
   | _, _ => .f
  | _, _, _ => .f
structure TStp where
 t : Option Nat
 g : Option (Nat × Bool)
 op : Op
 a : Ty := .n
def TStp.er (q : TStp) : Stp := ⟨q.t, q.g, q.op⟩
def cnd (x want : Bool) : Bool := if want then x else !x
def pathOf (q : Nat) (want : Bool) (s : SU) : Option (Path × Bool) := match getW q s.e with
 | .u .b x => some ([(q, want)], cnd x want)
 | .gd p c (.u .b x) => some ((q, want) :: p, c && cnd x want)
 | _ => none
def okG : Op -> Bool
 | .mv _ | .pk _ _ _ | .ld _ _ | .bin _ _ _ | .no _ | .un _ _ | .fa _ _ | .ia _ _ _ | .len _ | .lns _ | .slc _ _ _ _ | .eqs _ _ _ | .eqb _ _ _ | .eqa _ _ _ _ | .sh _ _ _ | .ci _ _ | .mm _ _ _ | .nck _ | .bs _ _ _ | .bd _ _ | .mf _ _ | .ext _ _ | .bst _ => true
 | _ => false
def okC (C : Tab) : Op -> Bool
 | .call f _ => match C f with
  | some tf => (xsOf tf.sg.ak).isEmpty
  | none => false
 | .calf f _ => match C f with
  | some tf => (xsOf tf.sg.ak).isEmpty
  | none => false
 | .cv _ _ => false
 | _ => false
def stepW (C : Tab) (q : TStp) (s : SU) : Cm (Option SU) := match q.g with
 | none => (evOpW C [] q.t q.a q.op s).map fun r => r.map fun r => putWO q.t r.1 r.2
 | some (g, want) => match pathOf g want s, (okG q.op || okC C q.op) && q.op.ms.isNone with
  | some (p, c), true => bif (match q.t with | some t => namesP t p | none => true) then .f else match evOpW C p q.t q.a q.op s with
   | .f => .f
   | .r r => .r (r.map fun r => putWO q.t (.gd p c r.1) s)
   | .b τ o (some d) k => .b τ (if c then o else some d) none fun x => (k x).map fun r => putWO q.t (.gd p c r.1) s
   | .b _ _ none _ => .f
  | _, _ => .f
def evS {ρ : Type} (C : Tab) : List TStp -> SU -> (SU -> Option ρ) -> Option ρ
 | [], s, K => K s
 | q :: r, s, K => match stepW C q s with
  | .f => none
  | .r none => none
  | .r (some s') => evS C r s' K
  | .b τ o _ k => o.bind fun x => match k x with
   | some s' => evS C r s' K
   | none => none
inductive BaW where
 | no
 | rd (b : PB)
 | wr (b : PB)
 deriving DecidableEq
def actW (T : Tab) (s : SU) (q : TStp) : Option BaW := match q.op with
 | .ld _ x => match x with
  | .t n => match getW n s.e with
   | .pt b _ => some (.rd b)
   | .gd _ _ (.pt b _) => some (.rd b)
   | .fp _ _ => some .no
   | .gd _ _ (.fp _ _) => some .no
   | .ep b _ _ _ => some (.rd (.own b))
   | .gd _ _ (.ep b _ _ _) => some (.rd (.own b))
   | _ => none
  | _ => none
 | .ldm _ x => match (rdW [] x s).1 with
  | .pt b _ => some (.wr b)
  | _ => none
 | .st _ x _ => match (rdW [] x s).1 with
  | .pt b _ => some (.wr b)
  | .ep b _ _ _ => some (.wr (.own b))
  | _ => none
 | .al _ => match q.t with
  | some t => some (.wr (.own t))
  | none => none
 | .bx _ => none
 | .cv x xs => match x with
  | .t n => match getW n s.e with
   | .clo f _ => if xs.all Opd.ot = true ∧ okQ T f = true then some .no else none
   | _ => none
  | _ => none
 | .pcal _ _ => none
 | .cpy x _ => match (rdW [] x s).1 with
  | .rs b _ _ _ => some (.wr (.own b))
  | _ => none
 | .call f xs => if xs.all Opd.ot = true ∧ okQ T f = true then some .no else none
 | .calf f xs => if xs.all Opd.ot = true ∧ okQ T f = true then some .no else none
 | .ext x _ => if x.ot = true then some .no else none
 | .bxo _ _ => none
 | .mkm => none
 | _ => some .no
def BaW.co : BaW -> BaW -> Bool
 | .rd b, .wr b' => !decide (b = b')
 | .wr b, .rd b' => !decide (b = b')
 | .wr b, .wr b' => !decide (b = b')
 | _, _ => true
def evD {ρ : Type} (C : Tab) : List (TStp × List Nat) -> List BaW -> SU -> (SU -> Option ρ) -> Option ρ
 | [], _, s, K => K s
 | (q, un) :: r, acts, s, K => match actW C s q with
  | none => none
  | some i => if un.all (fun m => (acts.getD m .no).co i) = true then (match stepW C q s with
   | .f => none
   | .r none => none
   | .r (some s') => evD C r (acts ++ [i]) s' K
   | .b τ o _ k => o.bind fun x => match k x with
    | some s' => evD C r (acts ++ [i]) s' K
    | none => none) else none
inductive Kd where
 | v (τ : Ty)
 | w (w : W)
structure Sh where
 ks : List (Nat × Kd)
 bs : List (Nat × List Kd)
 ms : List Nat
 xs : List (List Kd)
 ws : List Bool := []
def Kd.ty : Kd -> List Ty
 | .v τ => [τ]
 | .w _ => []
def Sh.tys (h : Sh) : List Ty := (h.ks.flatMap fun x => x.2.ty) ++ (h.bs.flatMap fun x => x.2.flatMap Kd.ty) ++ (h.xs.flatMap fun x => x.flatMap Kd.ty)
def Sh.ty (h : Sh) : Ty := tyOf h.tys
def sameW0 : W -> W -> Bool
 | .pt b o, .pt b' o' => decide (b = b' ∧ o = o')
 | .np, .np => true
 | .nil, .nil => true
 | .un, _ => true
 | _, _ => false
def sameL : List W -> List W -> Bool
 | [], [] => true
 | .pt b o :: xs, .pt b' o' :: ys => decide (b = b' ∧ o = o') && sameL xs ys
 | _, _ => false
def sameW : W -> W -> Bool
 | .clo f xs, .clo f' ys => Nat.beq f f' && sameL xs ys
 | x, y => sameW0 x y
def Kd.take : Kd -> W -> Option (List W)
 | .v _, y => some [y]
 | .w x, y => if sameW x y = true then some [] else none
def takeL : List Kd -> List W -> Option (List W)
 | [], [] => some []
 | k :: ks, w :: ws => (k.take w).bind fun x => (takeL ks ws).map fun y => x ++ y
 | _, _ => none
def takeE (s : SU) : List (Nat × Kd) -> Option (List W)
 | [] => some []
 | (n, k) :: r => (k.take (getW n s.e)).bind fun x => (takeE s r).map fun y => x ++ y
def takeB (s : SU) : List (Nat × List Kd) -> Option (List W)
 | [] => some []
 | (b, ks) :: r => (((lkW b s.l).bind notLb).bind (takeL ks)).bind fun x => (takeB s r).map fun y => x ++ y
def takeX : List (List Kd) -> List (List W) -> Option (List W)
 | [], [] => some []
 | ks :: r, ws :: q => (takeL ks ws).bind fun x => (takeX r q).map fun y => x ++ y
 | _, _ => none
def Kd.oneB : Kd -> Bool
 | .v τ => τ.one
 | .w _ => true
def Sh.ok (h : Sh) : Bool := h.tys.all Ty.val && (h.bs.all fun x => x.2.all Kd.oneB) && (h.xs.all fun x => x.all Kd.oneB)
def Sh.pack0 (h : Sh) (s : SU) : Option h.ty.T :=
 if s.w = h.ws ∧ h.ok = true then (takeE s h.ks).bind fun a => (takeB s h.bs).bind fun b => (takeX h.xs s.x).bind fun c => tupT h.ty (a ++ b ++ c) else none
def Sh.pack (h : Sh) (s : SU) : Option h.ty.T := bif s.m.all fun b => hasN b h.ms then h.pack0 s else none
def Kd.fill : Kd -> List W -> W × List W
 | .v _, y :: ws => (y, ws)
 | .v _, [] => (.un, [])
 | .w y, ws => (y, ws)
def fillL : List Kd -> List W -> List W × List W
 | [], ws => ([], ws)
 | k :: ks, ws => ((k.fill ws).1 :: (fillL ks (k.fill ws).2).1, (fillL ks (k.fill ws).2).2)
def fillE : List (Nat × Kd) -> List W -> List (Nat × W) × List W
 | [], ws => ([], ws)
 | (n, k) :: r, ws => ((n, (k.fill ws).1) :: (fillE r (k.fill ws).2).1, (fillE r (k.fill ws).2).2)
def fillB : List (Nat × List Kd) -> List W -> List (Nat × List W) × List W
 | [], ws => ([], ws)
 | (b, ks) :: r, ws => ((b, (fillL ks ws).1) :: (fillB r (fillL ks ws).2).1, (fillB r (fillL ks ws).2).2)
def fillX : List (List Kd) -> List W -> List (List W) × List W
 | [], ws => ([], ws)
 | ks :: r, ws => ((fillL ks ws).1 :: (fillX r (fillL ks ws).2).1, (fillX r (fillL ks ws).2).2)
def Sh.fill (h : Sh) (x : h.ty.T) : SU :=
 let ws := tupW h.ty x
 let a := fillE h.ks ws
 let b := fillB h.bs a.2
 let c := fillX h.xs b.2
 ⟨a.1, b.1, h.ms, c.1, h.ws⟩
def inW0 (bs : List Nat) : W -> Bool
 | .u _ _ => true
 | .nil => true
 | .np => true
 | .pt (.own b) _ => hasN b bs
 | .pt (.ext _) _ => true
 | .fp _ _ => true
 | _ => false
def inW1 (bs : List Nat) : W -> Bool
 | .clo _ ws => ws.all (inW0 bs)
 | w => inW0 bs w
def inW (bs : List Nat) : W -> Bool
 | .ag ws => ws.all (inW1 bs)
 | w => inW1 bs w
def lokS (h : Sh) (s : SU) : Bool := (s.e.all fun p => inW (h.bs.map (·.1)) p.2) && (s.l.all fun p => p.2.all (inW1 (h.bs.map (·.1)))) && (h.bs.all fun x => hasN x.1 h.ms)
inductive Tc where
 | sk
 | rg (l : List TStp)
 | nq (l : List TStp) (t : Nat) (x : Opd) (ne : Bool) (tl : List TStp)
 | sq (a b : Tc)
 | ff (c : Opd) (a b : Tc)
 | bl (id : Nat) (c : Tc)
 | lp (h : Sh) (ex : List (Nat × Sh)) (rt : Bool) (c : Tc)
 | jn (h : Sh) (ex : List (Nat × Sh)) (rt : Bool) (c : Tc)
 | dr (l : List (TStp × List Nat))
 | drt (l : List (TStp × List Nat)) (tl : List TStp)
 | gs (l : List Gc) (c : Tc)
 | ex (id : Nat)
 | rt
 | rtx
 | rf (h : Sh) (ex : List (Nat × Sh)) (x : Opd) (b rid : Nat) (ks ps : List Nat) (asg body : Tc)
def Tc.er : Tc -> Cd
 | .sk => .sk
 | .rg l => .rg (l.map TStp.er)
 | .nq l t x ne tl => .rg (l.map TStp.er ++ ⟨some t, none, .eqn ne x⟩ :: tl.map TStp.er)
 | .sq a b => .sq a.er b.er
 | .ff c a b => .ff c a.er b.er
 | .bl id c => .bl id c.er
 | .lp h _ _ c => .lp (h.ks.map (·.1)) (h.bs.map (·.1)) c.er
 | .jn _ _ _ c => c.er
 | .dr l => .dr (l.map fun q => (q.1.er, q.2))
 | .drt l tl => .drt (l.map fun q => (q.1.er, q.2)) (tl.map TStp.er)
 | .gs l c => .gs l c.er
 | .ex id => .ex id
 | .rt => .rt
 | .rtx => .rt
 | .rf _ _ x b rid ks _ _ _ => .rf x b rid ks
def itU {σ ξ : Type} (body : σ -> Option (σ ⊕ ξ)) : Nat -> σ -> Option ξ
 | 0, _ => none
 | n + 1, s => match body s with
  | none => none
  | some (.inl s') => itU body n s'
  | some (.inr x) => some x
noncomputable def lpU {σ ξ : Type} (body : σ -> Option (σ ⊕ ξ)) (s : σ) : Option ξ := lim fun n => itU body n s
def foldU {α σ ξ : Type} (body : α -> σ -> Option (σ ⊕ ξ)) : List α -> σ -> Option (σ ⊕ ξ)
 | [], s => some (.inl s)
 | x :: r, s => match body x s with
  | none => none
  | some (.inl s') => foldU body r s'
  | some (.inr z) => some (.inr z)
structure RS where
 res : List Res
 keep : Bool
 sg : Sg
def resLW : List Res -> SU -> Option (List W × SU)
 | [], s => some ([], s)
 | .t n :: r, s => (resLW r (rdW [] (.m n) s).2).map fun q => ((rdW [] (.m n) s).1 :: q.1, q.2)
 | .c n q :: r, s => match evOpW (fun _ => none) [] none .n (.ldm q (.t n)) s with
  | .r (some (w, s')) => (resLW r s').map fun q => (w :: q.1, q.2)
  | _ => none
def mkResW : List W -> W
 | [w] => w
 | ws => .tp ws
def W.okR : W -> Bool
 | .u (.fn _ _) _ => false
 | .u (.cl _ _) _ => false
 | .u _ _ => true
 | .nil => true
 | _ => false
def W.okR2 : W -> Bool
 | .ag ws => ws.all W.okR
 | w => w.okR
def RS.pack (r : RS) (s : SU) : Option r.sg.oT.T := (resLW r.res s).bind fun q =>
 if q.1.all W.okR2 = true then outT r.sg.res (xsOf r.sg.ak) (if r.keep then mkResW q.1 else (mkResW q.1).strip) (xRows r.sg.ak q.2.x) else none
where
 xRows : List AK -> List (List W) -> List W
  | .x _ :: ak, ws :: r => .ag ws :: xRows ak r
  | .o _ :: ak, _ :: r => xRows ak r
  | .v _ :: ak, r => xRows ak r
  | _, _ => []
def W.toId (id : Nat) : W -> Bool
 | .pt (.own b) _ => Nat.beq b id
 | _ => false
def W.kl0 (id : Nat) : W -> W
 | .pt (.own b) o => bif Nat.beq b id then .un else .pt (.own b) o
 | .clo f ws => bif ws.any (W.toId id) then .un else .clo f ws
 | .rs b τ lo n => bif Nat.beq b id then .un else .rs b τ lo n
 | .ep b τ i o => bif Nat.beq b id then .un else .ep b τ i o
 | w => w
def W.kl1 (id : Nat) : W -> W
 | .ag ws => .ag (ws.map (W.kl0 id))
 | w => w.kl0 id
def W.kl2 (id : Nat) : W -> W
 | .tp ws => .tp (ws.map (W.kl1 id))
 | w => w.kl1 id
def W.kl3 (id : Nat) : W -> W
 | .gd p c w => .gd p c (w.kl2 id)
 | w => w.kl2 id
def klEW (id : Nat) (e : List (Nat × W)) : List (Nat × W) := e.map fun x => (x.1, x.2.kl3 id)
def rmW (id : Nat) : List (Nat × List W) -> List (Nat × List W)
 | [] => []
 | (b, ws) :: r => bif Nat.beq b id then rmW id r else (b, ws.map (W.kl0 id)) :: rmW id r
def mkOk : Ty -> Bool
 | .g r => !(Nat.beq (rowLen r) 1)
 | _ => true
def ghW : Gc -> SU -> Cm SU
 | .dg b c, s => match (lkW b s.l).bind notLb with
  | some ws => match ws[c]? with
   | some w => .r { s with l := sbW b (ws.set c w.dwn1) s.l }
   | none => .f
  | none => .f
 | .ths t id, s => match getW t s.e with
  | .u (.l .mu τ) xs => bif hasN id s.m || !(eleOk τ && τ.val && mkOk τ) then .f else .r { s with e := (t, .rs id τ none ((List.length (α := τ.T) xs : Nat) : Int)) :: clr t s.e, l := (id, [.lb τ ((List.length (α := τ.T) xs : Nat) : Int) xs]) :: s.l, m := id :: s.m }
  | _ => .f
 | .ufs t id, s => match getW t s.e, lkW id s.l with
  | .rs b τ none n, some [.lb τ' m xs] => match castT (.l .mu τ') (.l .mu τ) xs with
   | some xs => if b = id then .b .n (eqI n m) none fun _ => { s with e := (t, .u (.l .mu τ) xs) :: clr t (klEW id s.e), l := rmW id s.l } else .f
   | none => .f
  | _, _ => .f
 | .th b c id, s => match (lkW b s.l).bind notLb with
  | some ws => match ws[c]? with
   | some (.u (.l .mu τ) xs) => bif hasN id s.m || Nat.beq b id || !(eleOk τ && τ.val && mkOk τ) then .f else .r { s with l := (id, [.lb τ ((List.length (α := τ.T) xs : Nat) : Int) xs]) :: sbW b (ws.set c (.rs id τ none ((List.length (α := τ.T) xs : Nat) : Int))) s.l, m := id :: s.m }
   | _ => .f
  | none => .f
 | .ufc b c id, s => match (lkW b s.l).bind notLb, lkW id s.l with
  | some ws, some [.lb τ' m xs] => match ws[c]? with
   | some (.rs b' τ none n) => match castT (.l .mu τ') (.l .mu τ) xs with
    | some xs => if b' = id ∧ b ≠ id then .b .n (eqI n m) none fun _ => { s with e := klEW id s.e, l := sbW b ((ws.map (W.kl0 id)).set c (.u (.l .mu τ) xs)) (rmW id s.l) } else .f
    | none => .f
   | _ => .f
  | _, _ => .f
 | _, _ => .f
def evGs {ρ : Type} : List Gc -> SU -> (SU -> Option ρ) -> Option ρ
 | [], s, K => K s
 | p :: r, s, K => match ghW p s with
  | .f => none
  | .r s' => evGs r s' K
  | .b τ o _ k => o.bind fun x => evGs r (k x) K
def fEx (i : Nat) : List (Nat × Sh) -> Nat -> Option (Nat × Sh)
 | [], _ => none
 | (j, h) :: r, k => bif Nat.beq i j then some (k, h) else fEx i r (k + 1)
def exTys (rs : RS) (ex : List (Nat × Sh)) (rt : Bool) : List Ty := ex.map (fun x => x.2.ty) ++ (bif rt then [rs.sg.oT] else [])
def exE {X : Type} (l : List Ty) (ex : List (Nat × Sh)) (k : Nat) (w : (XTy l).T -> X) (i : Nat) (s : SU) : Option X := match fEx i ex 0 with
 | some (j, h) => (h.pack s).bind fun γ => (injX l (j + k) h.ty γ).map w
 | none => none
def exR {X : Type} (rs : RS) (l : List Ty) (ex : List (Nat × Sh)) (rt : Bool) (k : Nat) (w : (XTy l).T -> X) (r : rs.sg.oT.T) : Option X := bif rt then (injX l (ex.length + k) rs.sg.oT r).map w else none
def exD {ρ : Type} (rs : RS) (ex : List (Nat × Sh)) (E : Nat -> SU -> Option ρ) (R : rs.sg.oT.T -> Option ρ) (i : Nat) (τ : Ty) (x : τ.T) : Option ρ := match ex[i]? with
 | some (id, h) => (castT τ h.ty x).bind fun γ => E id (h.fill γ)
 | none => (castT τ rs.sg.oT x).bind R
def trTy : Ty -> Bool
 | .i _ => true
 | .b => true
 | .s => true
 | .l .ro _ => true
 | _ => false
def posN (b : Nat) : List Nat -> Nat -> Option Nat
 | [], _ => none
 | c :: r, j => bif Nat.beq b c then some j else posN b r (j + 1)
def trW (bs : List Nat) : W -> Option W
 | .u τ x => bif trTy τ then some (.u τ x) else none
 | .pt (.own b) off => (posN b bs 0).map fun j => .pt (.ext j) off
 | .nil => some .nil
 | .np => some .np
 | _ => none
def capsR (bs : List Nat) (s : SU) : List Nat -> Option (List (Nat × W))
 | [] => some []
 | t :: r => (trW bs (getW t s.e)).bind fun w => (capsR bs s r).map fun q => (t, w) :: q
def nodupN : List Nat -> Bool
 | [] => true
 | b :: r => !(hasN b r) && nodupN r
def rowsPf (L : List (Nat × List W)) : Bool := L.all fun x => x.2.all W.pf0
def toR (ps ks : List Nat) (b : Nat) (w : W) (s : SU) : Option SU := match ps with
 | [p] => bif rowsPf s.l && nodupN (s.l.map (·.1)) && !(hasN b (s.l.map (·.1))) && s.x.isEmpty then
   (capsR (s.l.map (·.1)) s ks).map fun e => ⟨(p, w) :: e, [], [], s.l.map (·.2), s.l.map fun _ => true⟩ else none
 | _ => none
def zipR : List (Nat × List W) -> List (List W) -> Option (List (Nat × List W))
 | [], [] => some []
 | (b, _) :: r, ws :: q => bif ws.all W.pf0 then (zipR r q).map fun z => (b, ws) :: z else none
 | _, _ => none
def fromR (s s3 : SU) : Option SU := (zipR s.l s3.x).map fun l => { s with l := l }
open Classical in
noncomputable def amb {ρ : Type} (e ne : Bool) (f : Bool -> Option ρ) : Option ρ := if e = true then (if f true = f false then f true else none) else f ne
noncomputable def evT (C : Tab) (rs : RS) : Tc -> {ρ : Type} -> SU -> (SU -> Option ρ) -> (Nat -> SU -> Option ρ) -> (rs.sg.oT.T -> Option ρ) -> Option ρ
 | .sk, _, s, K, _, _ => K s
 | .rg l, _, s, K, _, _ => evS C l s K
 | .nq l t x ne tl, _, s, K, _, _ => evS C l s fun s' => match (rdW [] x s').1 with
  | .u (.l .ro τ) xs => amb (List.isEmpty (α := τ.T) xs) ne fun b => evS C tl (putW t (.u .b b) s') K
  | _ => none
 | .sq a b, _, s, K, E, R => evT C rs a s (fun s' => evT C rs b s' K E R) E R
 | .ff c a b, _, s, K, E, R => match (rdW [] c s).1 with
  | .u .b q => if q then evT C rs a s K E R else evT C rs b s K E R
  | _ => none
 | .bl id c, _, s, K, E, R => evT C rs c s K (fun i s' => bif Nat.beq i 999999 then E i s' else bif Nat.beq i id then K s' else E i s') R
 | .lp h ex rt c, _, s, K, E, R => match h.pack0 s with
  | none => none
  | some x => (lpU (fun x => bif !(lokS h (h.fill x)) then none else evT C rs c (h.fill x) (fun s' => (h.pack0 s').map Sum.inl) (exE (exTys rs ex rt) ex 0 Sum.inr) (exR rs (exTys rs ex rt) ex rt 0 Sum.inr)) x).bind fun y => dspX (exTys rs ex rt) y (exD rs ex E R)
 | .jn h ex rt c, _, s, K, E, R =>
  (evT C rs c s (fun s' => (h.pack s').bind fun γ => injX (h.ty :: exTys rs ex rt) 0 h.ty γ) (exE (h.ty :: exTys rs ex rt) ex 1 id) (exR rs (h.ty :: exTys rs ex rt) ex rt 1 id)).bind fun y =>
   dspX (h.ty :: exTys rs ex rt) y fun
    | 0, τ, x => (castT τ h.ty x).bind fun γ => K (h.fill γ)
    | i + 1, τ, x => exD rs ex E R i τ x
 | .dr l, _, s, K, _, _ => evD C l [] s K
 | .drt l tl, _, s, K, _, _ => evD C l [] s fun s' => evS C tl s' K
 | .gs l c, _, s, K, E, R => evGs l s fun s' => evT C rs c s' K E R
 | .ex id, _, s, _, E, _ => bif Nat.beq id 999999 then none else E id s
 | .rt, _, s, _, _, R => (rs.pack s).bind R
 | .rtx, _, s, _, E, _ => E 999999 s
 | .rf h ex x b rid ks ps asg body, _, s, K, E, R => match (rdW [] x s).1 with
  | .u (.cl f r) v => match C f with
   | some (.gen a r' g) => (castT r r' v).bind fun v => bif hasN b s.m || !(a.val && a.fo && r.fo && s.x.isEmpty && (lkW b s.l).isNone) then none else (g v).bind fun L => (h.pack { s with m := b :: s.m }).bind fun σ0 => (toR ps ks b .un (h.fill σ0)).bind fun _ =>
    (foldU (fun y σ => (toR ps ks b (valW a y) (h.fill σ)).bind fun sr => evT C rs asg sr (fun s2 => evT C rs body s2
      (fun s3 => (fromR (h.fill σ) s3).bind fun s4 => (h.pack s4).map Sum.inl)
      (fun i s3 => (fromR (h.fill σ) s3).bind fun s4 => exE (exTys rs ex false) ex 0 Sum.inr i s4) (fun _ => none)) (fun _ _ => none) (fun _ => none)) L σ0).bind fun z => match z with
     | .inl σ => K (h.fill σ)
     | .inr z => dspX (exTys rs ex false) z (exD rs ex (fun i s => bif Nat.beq i 999999 then (rs.pack s).bind R else E i s) (fun _ => none))
   | _ => none
  | _ => none
def su0 : List AK -> List W -> Nat -> Nat -> List (Nat × W) × List (List W)
 | .v _ :: ak, w :: ws, i, j => ((i, w) :: (su0 ak ws (i + 1) j).1, (su0 ak ws (i + 1) j).2)
 | .x _ :: ak, w :: ws, i, j => ((i, .pt (.ext j) 0) :: (su0 ak ws (i + 1) (j + 1)).1, w.cells :: (su0 ak ws (i + 1) (j + 1)).2)
 | .o _ :: ak, w :: ws, i, j => ((i, .pt (.ext j) 0) :: (su0 ak ws (i + 1) (j + 1)).1, w.cells :: (su0 ak ws (i + 1) (j + 1)).2)
 | _, _, _, _ => ([], [])
def wrs : List AK -> List Bool
 | [] => []
 | .v _ :: ak => wrs ak
 | .x _ :: ak => true :: wrs ak
 | .o _ :: ak => false :: wrs ak
noncomputable def evFn (C : Tab) (rs : RS) (T : Tc) (a : rs.sg.aT.T) : Option rs.sg.oT.T :=
 let q := su0 rs.sg.ak (match rs.sg.ak with | [] => [] | _ => tupW rs.sg.aT a) 0 0
 evT C rs T ⟨q.1, [], [], q.2, wrs rs.sg.ak⟩ rs.pack (fun _ _ => none) some
end Go.Proofs.Ytlhjdikklmkihaa.Ev.U
namespace Go.Proofs.Ytlhjdikklmkihaa.Ev.U
open Go
def All2 {α β : Type} (R : α -> β -> Prop) : List α -> List β -> Prop
 | [], [] => True
 | x :: xs, y :: ys => R x y ∧ All2 R xs ys
 | _, _ => False
section
variable {α β : Type} {R : α -> β -> Prop}
theorem All2.length : ∀ {xs : List α} {ys : List β}, All2 R xs ys -> xs.length = ys.length
 | [], [], _ => rfl
 | x :: xs, y :: ys, h => by simp only [List.length_cons]; rw [All2.length h.2]
 | [], _ :: _, h => h.elim
 | _ :: _, [], h => h.elim
theorem All2.get : ∀ {xs : List α} {ys : List β}, All2 R xs ys -> ∀ {i : Nat} {x : α}, xs[i]? = some x -> ∃ y, ys[i]? = some y ∧ R x y
 | [], [], _, i, x, h => by simp at h
 | x :: xs, y :: ys, h, 0, z, hx => by simp at hx; subst hx; exact ⟨y, rfl, h.1⟩
 | x :: xs, y :: ys, h, i + 1, z, hx => by simp at hx; obtain ⟨w, h1, h2⟩ := All2.get h.2 hx; exact ⟨w, by simpa using h1, h2⟩
 | [], _ :: _, h, _, _, _ => h.elim
 | _ :: _, [], h, _, _, _ => h.elim
theorem All2.mono {R' : α -> β -> Prop} : ∀ {xs : List α} {ys : List β}, (∀ x y, x ∈ xs -> R x y -> R' x y) -> All2 R xs ys -> All2 R' xs ys
 | [], [], _, _ => trivial
 | x :: xs, y :: ys, f, h => ⟨f x y (by simp) h.1, All2.mono (fun a b ha => f a b (by simp [ha])) h.2⟩
 | [], _ :: _, _, h => h.elim
 | _ :: _, [], _, h => h.elim
theorem All2.map {α' β' : Type} {R' : α' -> β' -> Prop} {f : α -> α'} {g : β -> β'} : ∀ {xs : List α} {ys : List β}, (∀ x y, x ∈ xs -> R x y -> R' (f x) (g y)) -> All2 R xs ys -> All2 R' (xs.map f) (ys.map g)
 | [], [], _, _ => trivial
 | x :: xs, y :: ys, q, h => ⟨q x y (by simp) h.1, All2.map (fun a b ha => q a b (by simp [ha])) h.2⟩
 | [], _ :: _, _, h => h.elim
 | _ :: _, [], _, h => h.elim
theorem All2.app : ∀ {xs xs' : List α} {ys ys' : List β}, All2 R xs ys -> All2 R xs' ys' -> All2 R (xs ++ xs') (ys ++ ys')
 | [], _, [], _, _, h => h
 | x :: xs, _, y :: ys, _, h, h' => ⟨h.1, All2.app h.2 h'⟩
 | [], _, _ :: _, _, h, _ => h.elim
 | _ :: _, _, [], _, h, _ => h.elim
theorem All2.take : ∀ {xs : List α} {ys : List β} (n : Nat), All2 R xs ys -> All2 R (xs.take n) (ys.take n)
 | [], [], n, _ => by simp [All2]
 | x :: xs, y :: ys, 0, h => trivial
 | x :: xs, y :: ys, n + 1, h => ⟨h.1, All2.take n h.2⟩
 | [], _ :: _, _, h => h.elim
 | _ :: _, [], _, h => h.elim
theorem All2.drop : ∀ {xs : List α} {ys : List β} (n : Nat), All2 R xs ys -> All2 R (xs.drop n) (ys.drop n)
 | [], [], n, _ => by simp [All2]
 | x :: xs, y :: ys, 0, h => h
 | x :: xs, y :: ys, n + 1, h => by simp only [List.drop_succ_cons]; exact All2.drop n h.2
 | [], _ :: _, _, h => h.elim
 | _ :: _, [], _, h => h.elim
theorem All2.set : ∀ {xs : List α} {ys : List β} (i : Nat) {x : α} {y : β}, All2 R xs ys -> R x y -> All2 R (xs.set i x) (ys.set i y)
 | [], [], i, _, _, h, _ => trivial
 | _ :: _, _ :: _, 0, _, _, h, hr => ⟨hr, h.2⟩
 | _ :: _, _ :: _, i + 1, _, _, h, hr => ⟨h.1, All2.set i h.2 hr⟩
 | [], _ :: _, _, _, _, h, _ => h.elim
 | _ :: _, [], _, _, _, h, _ => h.elim
theorem All2.rep {x : α} {y : β} (h : R x y) : ∀ n, All2 R (List.replicate n x) (List.replicate n y)
 | 0 => trivial
 | n + 1 => ⟨h, All2.rep h n⟩
theorem All2.nil_l {ys : List β} (h : All2 R [] ys) : ys = [] := by cases ys with | nil => rfl | cons => exact h.elim
theorem All2.nil_r {xs : List α} (h : All2 R xs []) : xs = [] := by cases xs with | nil => rfl | cons => exact h.elim
theorem All2.cons_l {x : α} {xs : List α} {ys : List β} (h : All2 R (x :: xs) ys) : ∃ y q, ys = y :: q ∧ R x y ∧ All2 R xs q := by
 cases ys with
 | nil => exact h.elim
 | cons y q => exact ⟨y, q, rfl, h.1, h.2⟩
theorem All2.all_r {p : β -> Bool} : ∀ {xs : List α} {ys : List β}, (∀ x y, x ∈ xs -> R x y -> p y = true) -> All2 R xs ys -> ys.all p = true
 | [], [], _, _ => rfl
 | x :: xs, y :: ys, f, h => by simp only [List.all_cons, f x y (by simp) h.1, Bool.true_and]; exact All2.all_r (fun a b ha => f a b (by simp [ha])) h.2
 | [], _ :: _, _, h => h.elim
 | _ :: _, [], _, h => h.elim
end
structure Fx where
 f : Nat
 b : Nat
 o : Nat
 ys : List D
def Sat (F : List Fx) (B : List Bx) : Prop := ∀ x ∈ F, ∃ l cs, B[x.f]? = some l ∧ lk x.b l = some cs ∧ x.o + x.ys.length <= cs.length ∧ (cs.drop x.o).take x.ys.length = x.ys
theorem Sat.nil (B : List Bx) : Sat [] B := fun x h => by simp at h
def strV (x : List Int) : ByteArray := ⟨(x.map fun c => UInt8.ofNat c.toNat).toArray⟩
def maxLn : Nat := 9223372036854775807
def resD : Ty -> D -> List D -> Prop
 | .t _ _, d, ds => d = .tup ds
 | .n, d, ds => d = .tup ds
 | _, d, ds => ds = [d]
def capD (F : List Fx) : D -> Prop
 | .v _ => True
 | .fptr _ _ => True
 | .ptr f _ _ => ∃ x ∈ F, x.f = f
 | _ => False
theorem capD.up {F F' : List Fx} (h : ∀ x ∈ F, x ∈ F') {d : D} (hd : capD F d) : capD F' d := by
 cases d with
 | ptr f b o => obtain ⟨x, h1, h2⟩ := hd; exact ⟨x, h x h1, h2⟩
 | _ => exact hd
def RepL (P : Caller) : (τ : Ty) -> List Fx -> τ.T -> List D -> Prop
 | .i k, _, x, ds => ds = [.v (.int k x)] ∧ inK k x = true
 | .b, _, x, ds => ds = [.v (.bool x)]
 | .s, _, x, ds => ds = [.v (.string (strV x))] ∧ List.length (α := Int) x <= maxLn ∧ ∀ c : Int, List.Mem (α := Int) c x -> 0 <= c ∧ c < 256
 | .l m t, F, x, ds => List.length (α := t.T) x <= maxLn ∧ ∃ es, All2 (fun y e => RepL P t F y [e]) x es ∧ (ds = [.sl m (csz t) es] ∨ (es = [] ∧ ∃ z, ds = [.sl .nl z []]))
 | .p a r, F, x, ds => (a.one = true ∧ r.rowk = true) ∧ ∃ d q, ds = d :: q ∧ RepL P a F x.1 [d] ∧ RepL P r F x.2 q
 | .g r, F, x, ds => r.rowk = true ∧ ∃ cs, ds = [.agg cs] ∧ RepL P r F x cs
 | .t a r, F, x, ds => (a.val = true ∧ r.tupk = true) ∧ ∃ d q, ds = d :: q ∧ RepL P a F x.1 [d] ∧ RepL P r F x.2 q
 | .n, _, _, ds => ds = []
 | .o _ _, _, _, _ => False
 | .fn a r, F, φ, ds => ∃ f caps, ds = [.clo f caps] ∧ (∀ d ∈ caps, capD F d) ∧ ∀ (x : a.T) ak, RepL P a [] x ak -> ∀ y : r.T, φ x = some y -> ∀ n, (∀ x ∈ F, x.f < n) -> ∃ d q, resD r d q ∧ RepL P r [] y q ∧ ∀ B : List Bx, B.length = n -> Sat F B -> P f (ak ++ caps) B = some (d, B)
 | .cl f r, F, x, ds => r.rowk = true ∧ ∃ cs, ds = [.clo f [.fptr cs 0]] ∧ RepL P r F x cs
def RepR (P : Caller) (r : Ty) (F : List Fx) (y : r.T) (d : D) : Prop := ∃ q, resD r d q ∧ RepL P r F y q
theorem RepL.up {P : Caller} : ∀ {τ : Ty} {F F' : List Fx}, (∀ x ∈ F, x ∈ F') -> ∀ {x : τ.T} {ds : List D}, RepL P τ F x ds -> RepL P τ F' x ds
 | .i k, F, F', hF, x, ds, h => h
 | .b, F, F', hF, x, ds, h => h
 | .s, F, F', hF, x, ds, h => h
 | .l m t, F, F', hF, x, ds, h => by
  obtain ⟨hl, es, h1, h2⟩ := h
  exact ⟨hl, es, h1.mono fun _ _ _ q => RepL.up hF q, h2⟩
 | .p a r, F, F', hF, x, ds, h => by
  obtain ⟨h0, d, q, h1, h2, h3⟩ := h
  exact ⟨h0, d, q, h1, RepL.up hF h2, RepL.up hF h3⟩
 | .g r, F, F', hF, x, ds, h => by
  obtain ⟨h0, cs, h1, h2⟩ := h
  exact ⟨h0, cs, h1, RepL.up hF h2⟩
 | .t a r, F, F', hF, x, ds, h => by
  obtain ⟨h0, d, q, h1, h2, h3⟩ := h
  exact ⟨h0, d, q, h1, RepL.up hF h2, RepL.up hF h3⟩
 | .n, F, F', hF, x, ds, h => h
 | .o _ _, F, F', hF, x, ds, h => h
 | .fn a r, F, F', hF, φ, ds, h => by
  obtain ⟨f, caps, h1, h0, h2⟩ := h
  refine ⟨f, caps, h1, fun d hd => (h0 d hd).up hF, fun x ak ha y hy n hn => ?_⟩
  obtain ⟨d, q, a1, a2, a3⟩ := h2 x ak ha y hy n fun x hx => hn x (hF x hx)
  exact ⟨d, q, a1, a2, fun B hB hS => a3 B hB fun x hx => hS x (hF x hx)⟩
 | .cl f r, F, F', hF, x, ds, h => by
  obtain ⟨h0, cs, h1, h2⟩ := h
  exact ⟨h0, cs, h1, RepL.up (τ := r) hF h2⟩
theorem RepL.fo {P : Caller} : ∀ {τ : Ty}, τ.fo = true -> ∀ {F F' : List Fx} {x : τ.T} {ds : List D}, RepL P τ F x ds -> RepL P τ F' x ds
 | .i k, _, F, F', x, ds, h => h
 | .b, _, F, F', x, ds, h => h
 | .s, _, F, F', x, ds, h => h
 | .l m t, hf, F, F', x, ds, h => by
  obtain ⟨hl, es, h1, h2⟩ := h
  exact ⟨hl, es, h1.mono fun _ _ _ q => RepL.fo (τ := t) hf q, h2⟩
 | .p a r, hf, F, F', x, ds, h => by
  obtain ⟨h0, d, q, h1, h2, h3⟩ := h
  simp only [Ty.fo, Bool.and_eq_true] at hf
  exact ⟨h0, d, q, h1, RepL.fo hf.1 h2, RepL.fo hf.2 h3⟩
 | .g r, hf, F, F', x, ds, h => by
  obtain ⟨h0, cs, h1, h2⟩ := h
  exact ⟨h0, cs, h1, RepL.fo (τ := r) hf h2⟩
 | .t a r, hf, F, F', x, ds, h => by
  obtain ⟨h0, d, q, h1, h2, h3⟩ := h
  simp only [Ty.fo, Bool.and_eq_true] at hf
  exact ⟨h0, d, q, h1, RepL.fo hf.1 h2, RepL.fo hf.2 h3⟩
 | .n, _, F, F', x, ds, h => h
 | .o _ _, _, F, F', x, ds, h => h
 | .fn a r, hf, F, F', φ, ds, h => by cases hf
 | .cl f r, hf, F, F', x, ds, h => by
  obtain ⟨h0, cs, h1, h2⟩ := h
  exact ⟨h0, cs, h1, RepL.fo (τ := r) hf h2⟩
structure Rg where
 w : Bool
 f : Nat
 b : Nat
 o : Nat
 z : Nat
structure Cx where
 P : Caller
 F : List Fx
 n : Nat
 rg : List Rg
 K : Nat -> List D
structure Cx.ok (c : Cx) : Prop where
 lt : ∀ r ∈ c.rg, r.f < c.n
 dj : ∀ (i j : Nat) r q, c.rg[i]? = some r -> c.rg[j]? = some q -> i ≠ j -> r.w = true -> (r.f, r.b) ≠ (q.f, q.b)
 fd : ∀ x ∈ c.F, x.f < c.n ∧ ∀ r ∈ c.rg, r.w = true -> (x.f, x.b) ≠ (r.f, r.b)
section
variable (c : Cx)
def Rep0 : W -> D -> Prop
 | .u τ x, d => τ.one = true ∧ RepL c.P τ c.F x [d]
 | .nil, d => ∃ z, d = .sl .nl z []
 | .np, d => d = .v (.pointer none)
 | .un, _ => True
 | .pt (.own b) off, d => d = .ptr c.n b off
 | .pt (.ext i) off, d => ∃ r, c.rg[i]? = some r ∧ d = .ptr r.f r.b (r.o + off)
 | .rs b τ lo n, d => (0 <= n ∧ n <= (maxLn : Int) ∧ 0 <= lo.getD 0) ∧ (d = .ref c.n b ((lo.getD 0).toNat * csz τ) n.toNat (csz τ) ∨ (n = 0 ∧ ∃ z, d = .sl .nl z []))
 | .ep b τ i off, d => 0 <= i ∧ d = .ptr c.n b (i.toNat * csz τ + off)
 | _, _ => False
def Rep1 : W -> D -> Prop
 | .fp ws off, d => ∃ cs, d = .fptr cs off ∧ All2 (Rep0 c) ws cs
 | w, d => Rep0 c w d
def Rep2 : W -> D -> Prop
 | .clo f ws, d => ∃ cs, d = .clo f cs ∧ All2 (Rep1 c) ws cs ∧ ws.all capW = true
 | w, d => Rep1 c w d
def Rep3 : W -> D -> Prop
 | .ag ws, d => ∃ cs, d = .agg cs ∧ All2 (Rep2 c) ws cs
 | w, d => Rep2 c w d
def Rep4 : W -> D -> Prop
 | .tp ws, d => ∃ ds, d = .tup ds ∧ All2 (Rep3 c) ws ds
 | w, d => Rep3 c w d
def act (p : Path) (e : Env) : Prop := ∀ x ∈ p, get x.1 e = .v (.bool x.2)
def Rep5 (e : Env) : W -> D -> Prop
 | .gd p b w, d => (b = true ↔ act p e) ∧ (act p e -> Rep4 c w d) ∧ (¬ act p e -> d = .v undef)
 | w, d => Rep4 c w d
def BRep (ws : List W) (o : Option (List D)) : Prop := match ws with
 | [.lb τ m xs] => (eleOk τ = true ∧ τ.val = true) ∧ mkOk τ = true ∧ ((List.length (α := τ.T) xs : Nat) : Int) = m ∧ List.length (α := τ.T) xs <= maxLn ∧ ∃ es, All2 (fun y e => RepL c.P τ c.F y [e]) xs es ∧ (o = some (es.flatMap D.cells) ∨ (es = [] ∧ o = none))
 | ws => ∃ ds, o = some ds ∧ All2 (Rep2 c) ws ds
structure RepS (s : SU) (e : Env) (l : Bx) (Y : List (List D)) : Prop where
 env : ∀ t, Rep5 c e (getW t s.e) (get t e)
 box : ∀ b ws, lkW b s.l = some ws -> BRep c ws (lk b l)
 nm : ∀ b, lk b l ≠ none -> hasN b s.m = true
 ext : All2 (All2 (Rep2 c)) s.x Y
 wr : s.w = c.rg.map Rg.w
 len : Y.length = c.rg.length
 ro : ∀ (i : Nat) r ys, c.rg[i]? = some r -> Y[i]? = some ys -> ys.length = r.z ∧ (r.w = false -> ys = c.K i)
end
theorem BRep.all {c : Cx} {ws : List W} {o : Option (List D)} (h : BRep c ws o) {ws' : List W} (hn : notLb ws = some ws') : ws' = ws ∧ ∃ ds, o = some ds ∧ All2 (Rep2 c) ws ds := by
 unfold BRep at h
 split at h
 ·cases hn
 ·rename_i hne
  unfold notLb at hn
  split at hn
  ·cases hn
  ·injection hn with hn
   exact ⟨hn.symm, h⟩
theorem BRep.of {c : Cx} {ws : List W} {ds : List D} (h : All2 (Rep2 c) ws ds) : BRep c ws (some ds) := by
 unfold BRep
 split
 ·cases ds with
  | nil => exact h.elim
  | cons d r => exact h.1.elim
 ·exact ⟨ds, rfl, h⟩
theorem notLb_of {c : Cx} {ws : List W} {ds : List D} (h : All2 (Rep2 c) ws ds) : notLb ws = some ws := by
 unfold notLb
 split
 ·cases ds with
  | nil => exact h.elim
  | cons d r => exact h.1.elim
 ·rfl
def wrR (r : Rg) (ys : List D) (B : List Bx) : List Bx := B.modify r.f fun l => sb r.b (over ((lk r.b l).getD []) r.o ys) l
def upd : List Rg -> List (List D) -> List Bx -> List Bx
 | r :: rs, ys :: Y, B => bif r.w then upd rs Y (wrR r ys B) else upd rs Y B
 | _, _, B => B
def hasR (r : Rg) (B : List Bx) : Prop := ∃ l cs, B[r.f]? = some l ∧ lk r.b l = some cs ∧ r.o + r.z <= cs.length
structure Fam (c : Cx) (B : List Bx) : Prop where
 len : B.length = c.n
 sat : Sat c.F B
 rg : ∀ r ∈ c.rg, hasR r B
 ro : ∀ (i : Nat) r, c.rg[i]? = some r -> r.w = false -> ∃ l cs, B[r.f]? = some l ∧ lk r.b l = some cs ∧ r.o + r.z <= cs.length ∧ (cs.drop r.o).take r.z = c.K i
theorem lk_sb' {b b' : Nat} {ds : List D} {L : Bx} : lk b' (sb b ds L) = if b' = b then (lk b L).map fun _ => ds else lk b' L := lk_sb
theorem sb_sb {b : Nat} {x y : List D} : ∀ {l : Bx}, sb b x (sb b y l) = sb b x l
 | [] => rfl
 | (b', q) :: r => by
  by_cases h : b = b'
  ·simp only [sb, if_pos h]
  ·simp only [sb, if_neg h, sb_sb]
theorem sb_id {b : Nat} {x : List D} : ∀ {l : Bx}, lk b l = some x -> sb b x l = l
 | [], h => by cases h
 | (b', q) :: r, h => by
  by_cases e : b = b'
  ·simp only [lk, if_pos e] at h; injection h with h; simp only [sb, if_pos e]; rw [h]
  ·simp only [lk, if_neg e] at h; simp only [sb, if_neg e]; rw [sb_id h]
theorem over_len {cs ys : List D} {o : Nat} (h : o + ys.length <= cs.length) : (over cs o ys).length = cs.length := by simp [over]; omega
theorem over_over {cs ys zs : List D} {o : Nat} (h : o + ys.length <= cs.length) (e : ys.length = zs.length) : over (over cs o ys) o zs = over cs o zs := by
 have h1 : (cs.take o).length = o := by rw [List.length_take]; omega
 have h2 : List.drop (o + ys.length) (cs.take o ++ ys ++ cs.drop (o + ys.length)) = cs.drop (o + ys.length) := by
  rw [List.drop_append_of_le_length (by simp; omega), List.drop_of_length_le (by simp; omega), List.nil_append]
 unfold over
 rw [<- e, h2]
 have h3 : List.take o (cs.take o ++ ys ++ cs.drop (o + ys.length)) = cs.take o := by
  rw [List.append_assoc, List.take_append_of_le_length (by omega), List.take_of_length_le (by omega)]
 rw [h3]
theorem over_id {cs ys : List D} {o : Nat} (h : (cs.drop o).take ys.length = ys) (h2 : o + ys.length <= cs.length) : over cs o ys = cs := by
 unfold over
 have e : ys ++ cs.drop (o + ys.length) = cs.drop o := by
  rw [<- List.drop_drop]
  have := List.take_append_drop ys.length (cs.drop o)
  rwa [h] at this
 rw [List.append_assoc, e, List.take_append_drop]
theorem over_get {cs ys : List D} {o : Nat} (h2 : o + ys.length <= cs.length) : ((over cs o ys).drop o).take ys.length = ys := by
 unfold over
 have h1 : (cs.take o).length = o := by rw [List.length_take]; omega
 rw [List.append_assoc, List.drop_append_of_le_length (by omega), List.drop_of_length_le (by omega), List.nil_append, List.take_append_of_le_length (by omega), List.take_length]
theorem over_in {cs ys zs : List D} {o k : Nat} (h : o + ys.length <= cs.length) (e : k + zs.length <= ys.length) : over (over cs o ys) (o + k) zs = over cs o (over ys k zs) := by
 have h1 : (cs.take o).length = o := by rw [List.length_take]; omega
 have hl : (over ys k zs).length = ys.length := over_len e
 have a : List.take (o + k) (cs.take o ++ ys ++ cs.drop (o + ys.length)) = cs.take o ++ ys.take k := by
  rw [List.append_assoc, List.take_append, h1, List.take_of_length_le (by omega), show o + k - o = k by omega, List.take_append_of_le_length (by omega)]
 have b : List.drop (o + k + zs.length) (cs.take o ++ ys ++ cs.drop (o + ys.length)) = ys.drop (k + zs.length) ++ cs.drop (o + ys.length) := by
  rw [List.append_assoc, List.drop_append, h1, List.drop_of_length_le (by omega), List.nil_append, show o + k + zs.length - o = k + zs.length by omega, List.drop_append_of_le_length (by omega)]
 show List.take (o + k) (cs.take o ++ ys ++ cs.drop (o + ys.length)) ++ zs ++ List.drop (o + k + zs.length) (cs.take o ++ ys ++ cs.drop (o + ys.length)) = cs.take o ++ over ys k zs ++ cs.drop (o + (over ys k zs).length)
 rw [a, b, hl]
 simp only [over, List.append_assoc]
theorem wrR_len (r : Rg) (ys : List D) (B : List Bx) : (wrR r ys B).length = B.length := by simp [wrR]
theorem wrR_get {r : Rg} {ys : List D} {B : List Bx} {f : Nat} : (wrR r ys B)[f]? = if r.f = f then (B[f]?).map (fun l => sb r.b (over ((lk r.b l).getD []) r.o ys) l) else B[f]? := by
 unfold wrR
 rw [List.getElem?_modify]
 split
 ·rfl
 ·simp
theorem wrR_id {r : Rg} {ys : List D} {B : List Bx} {l : Bx} {cs : List D} (h1 : B[r.f]? = some l) (h2 : lk r.b l = some cs) (h3 : r.o + ys.length <= cs.length) (h4 : (cs.drop r.o).take ys.length = ys) : wrR r ys B = B := by
 apply List.ext_getElem?
 intro f
 rw [wrR_get]
 split
 ·rename_i e; subst e
  rw [h1, Option.map_some, h2, Option.getD_some, over_id h4 h3, sb_id h2]
 ·rfl
theorem wrR_wrR {r : Rg} {ys zs : List D} {B : List Bx} (h : hasR r B) (h1 : ys.length = r.z) (h2 : zs.length = r.z) : wrR r zs (wrR r ys B) = wrR r zs B := by
 obtain ⟨l, cs, a1, a2, a3⟩ := h
 apply List.ext_getElem?
 intro f
 rw [wrR_get, wrR_get, wrR_get]
 split
 ·rename_i e; subst e
  rw [a1]
  simp only [Option.map_some]
  rw [lk_sb, if_pos rfl, a2]
  simp only [Option.map_some, Option.getD_some]
  rw [sb_sb, over_over (by omega) (by omega)]
 ·rfl
theorem lk2_ne {r : Rg} {ys : List D} {B : List Bx} {f b : Nat} {l : Bx} {cs : List D} (h : (f, b) ≠ (r.f, r.b)) (h1 : B[f]? = some l) (h2 : lk b l = some cs) : ∃ l', (wrR r ys B)[f]? = some l' ∧ lk b l' = some cs := by
 rw [wrR_get]
 split
 ·rename_i e; subst e
  rw [h1]
  refine ⟨_, rfl, ?_⟩
  rw [lk_sb, if_neg (fun e => h (by rw [e])), h2]
 ·exact ⟨l, h1, h2⟩
theorem wrR_comm {r q : Rg} {ys zs : List D} {B : List Bx} (h : (r.f, r.b) ≠ (q.f, q.b)) : wrR r ys (wrR q zs B) = wrR q zs (wrR r ys B) := by
 apply List.ext_getElem?
 intro f
 rw [wrR_get, wrR_get, wrR_get, wrR_get]
 by_cases e : r.f = f
 ·by_cases e' : q.f = f
  ·have hb : r.b ≠ q.b := fun hb => h (by rw [e, e', hb])
   rw [if_pos e, if_pos e', if_pos e', if_pos e]
   cases B[f]? with
   | none => rfl
   | some l =>
    simp only [Option.map_some]
    rw [lk_sb, if_neg hb, lk_sb, if_neg (Ne.symm hb), sb_comm hb]
  ·rw [if_pos e, if_neg e', if_neg e', if_pos e]
 ·by_cases e' : q.f = f
  ·rw [if_neg e, if_pos e', if_pos e', if_neg e]
  ·rw [if_neg e, if_neg e', if_neg e', if_neg e]
theorem hasR_wr {r q : Rg} {ys : List D} {B : List Bx} (hq : hasR q B) (hy : ys.length = q.z) (h : hasR r B) : hasR r (wrR q ys B) := by
 obtain ⟨l, cs, a1, a2, a3⟩ := h
 obtain ⟨l2, cs2, b1, b2, b3⟩ := hq
 by_cases e : (r.f, r.b) = (q.f, q.b)
 ·injection e with e1 e2
  rw [e1, b1] at a1
  injection a1 with a1
  subst a1
  rw [e2, b2] at a2
  injection a2 with a2
  subst a2
  refine ⟨sb q.b (over cs2 q.o ys) l2, over cs2 q.o ys, ?_, ?_, ?_⟩
  ·rw [wrR_get, if_pos e1.symm, e1, b1, Option.map_some, b2]; rfl
  ·rw [lk_sb, if_pos e2, b2]; rfl
  ·rw [over_len (by omega)]; exact a3
 ·obtain ⟨l', h1, h2⟩ := lk2_ne (ys := ys) e a1 a2
  exact ⟨l', cs, h1, h2, a3⟩
theorem upd_len : ∀ {rs : List Rg} {Y : List (List D)} {B : List Bx}, (upd rs Y B).length = B.length
 | [], [], B => rfl
 | [], _ :: _, B => rfl
 | _ :: _, [], B => rfl
 | r :: rs, ys :: Y, B => by
  simp only [upd]
  cases r.w with
  | true => simp only [cond_true]; rw [upd_len, wrR_len]
  | false => exact upd_len
theorem upd_hasR : ∀ {rs : List Rg} {Y : List (List D)} {B : List Bx}, (∀ r ∈ rs, hasR r B) -> (∀ (i : Nat) r ys, rs[i]? = some r -> Y[i]? = some ys -> ys.length = r.z) -> ∀ {q : Rg}, hasR q B -> hasR q (upd rs Y B)
 | [], [], B, _, _, q, h => h
 | [], _ :: _, B, _, _, q, h => h
 | _ :: _, [], B, _, _, q, h => h
 | r :: rs, ys :: Y, B, h1, h2, q, h => by
  simp only [upd]
  have hr := h1 r (by simp)
  have hy := h2 0 r ys rfl rfl
  have h2' : ∀ (i : Nat) r ys, rs[i]? = some r -> Y[i]? = some ys -> ys.length = r.z := fun i r ys a b => h2 (i + 1) r ys (by simpa using a) (by simpa using b)
  cases r.w with
  | true => exact upd_hasR (fun x hx => hasR_wr hr hy (h1 x (by simp [hx]))) h2' (hasR_wr hr hy h)
  | false => exact upd_hasR (fun x hx => h1 x (by simp [hx])) h2' h
theorem upd_comm {q : Rg} {zs : List D} : ∀ {rs : List Rg} {Y : List (List D)} {B : List Bx}, (∀ r ∈ rs, r.w = true -> (r.f, r.b) ≠ (q.f, q.b)) -> wrR q zs (upd rs Y B) = upd rs Y (wrR q zs B)
 | [], [], B, _ => rfl
 | [], _ :: _, B, _ => rfl
 | _ :: _, [], B, _ => rfl
 | r :: rs, ys :: Y, B, h => by
  simp only [upd]
  have ih := fun B => upd_comm (q := q) (zs := zs) (rs := rs) (Y := Y) (B := B) fun x hx => h x (by simp [hx])
  cases hw : r.w with
  | true => simp only [cond_true]; rw [ih, wrR_comm (h r (by simp) hw).symm]
  | false => simp only [cond_false]; rw [ih]
def Dj (rs : List Rg) : Prop := ∀ (i j : Nat) r q, rs[i]? = some r -> rs[j]? = some q -> i ≠ j -> r.w = true -> (r.f, r.b) ≠ (q.f, q.b)
theorem Dj.tl {r : Rg} {rs : List Rg} (h : Dj (r :: rs)) : Dj rs := fun i j a b ha hb hij => h (i + 1) (j + 1) a b (by simpa using ha) (by simpa using hb) (by omega)
theorem upd_set : ∀ {rs : List Rg} {Y : List (List D)} {B : List Bx}, Dj rs -> (∀ r ∈ rs, hasR r B) -> (∀ (i : Nat) r ys, rs[i]? = some r -> Y[i]? = some ys -> ys.length = r.z) ->
  ∀ {i : Nat} {r : Rg} {ys zs : List D}, rs[i]? = some r -> r.w = true -> Y[i]? = some ys -> zs.length = r.z -> wrR r zs (upd rs Y B) = upd rs (Y.set i zs) B
 | [], Y, B, _, _, _, i, r, ys, zs, h, _, _, _ => by simp at h
 | r :: rs, [], B, _, _, _, i, q, ys, zs, h, _, h2, _ => by simp at h2
 | r :: rs, y :: Y, B, hd, hR, hl, 0, q, ys, zs, h, hw, h2, hz => by
  simp at h h2
  subst h h2
  simp only [upd, hw, cond_true, List.set_cons_zero]
  rw [upd_comm fun x hx hxw => ?_, wrR_wrR (hR r (by simp)) (hl 0 r y rfl rfl) hz]
  obtain ⟨j, hj⟩ := List.mem_iff_getElem?.1 hx
  exact hd (j + 1) 0 x r (by simpa using hj) rfl (by omega) hxw
 | r :: rs, y :: Y, B, hd, hR, hl, i + 1, q, ys, zs, h, hw, h2, hz => by
  simp at h h2
  have hl' : ∀ (i : Nat) r ys, rs[i]? = some r -> Y[i]? = some ys -> ys.length = r.z := fun i r ys a b => hl (i + 1) r ys (by simpa using a) (by simpa using b)
  simp only [upd, List.set_cons_succ]
  cases r.w with
  | true => exact upd_set hd.tl (fun x hx => hasR_wr (hR r (by simp)) (hl 0 r y rfl rfl) (hR x (by simp [hx]))) hl' h hw h2 hz
  | false => exact upd_set hd.tl (fun x hx => hR x (by simp [hx])) hl' h hw h2 hz
def atR (r : Rg) (ys : List D) (B : List Bx) : Prop := ∃ l cs, B[r.f]? = some l ∧ lk r.b l = some cs ∧ r.o + ys.length <= cs.length ∧ (cs.drop r.o).take ys.length = ys
theorem atR_wr {r q : Rg} {ys zs : List D} {B : List Bx} (h : (r.f, r.b) ≠ (q.f, q.b)) (ha : atR r ys B) : atR r ys (wrR q zs B) := by
 obtain ⟨l, cs, a1, a2, a3, a4⟩ := ha
 obtain ⟨l', b1, b2⟩ := lk2_ne (ys := zs) h a1 a2
 exact ⟨l', cs, b1, b2, a3, a4⟩
theorem atR_upd {r : Rg} {ys : List D} : ∀ {rs : List Rg} {Y : List (List D)} {B : List Bx}, (∀ q ∈ rs, q.w = true -> (r.f, r.b) ≠ (q.f, q.b)) -> atR r ys B -> atR r ys (upd rs Y B)
 | [], [], B, _, h => h
 | [], _ :: _, B, _, h => h
 | _ :: _, [], B, _, h => h
 | q :: rs, zs :: Y, B, hd, h => by
  simp only [upd]
  cases hw : q.w with
  | true => exact atR_upd (fun x hx => hd x (by simp [hx])) (atR_wr (hd q (by simp) hw) h)
  | false => exact atR_upd (fun x hx => hd x (by simp [hx])) h
theorem upd_at : ∀ {rs : List Rg} {Y : List (List D)} {B : List Bx}, Dj rs -> (∀ r ∈ rs, hasR r B) -> (∀ (i : Nat) r ys, rs[i]? = some r -> Y[i]? = some ys -> ys.length = r.z) ->
  (∀ (i : Nat) r ys, rs[i]? = some r -> r.w = false -> Y[i]? = some ys -> atR r ys B) -> ∀ {i : Nat} {r : Rg} {ys : List D}, rs[i]? = some r -> Y[i]? = some ys -> atR r ys (upd rs Y B)
 | [], Y, B, _, _, _, _, i, r, ys, h, _ => by simp at h
 | r :: rs, [], B, _, _, _, _, i, q, ys, h, h2 => by simp at h2
 | r :: rs, y :: Y, B, hd, hR, hl, hro, 0, q, ys, h, h2 => by
  simp at h h2
  subst h h2
  have hn : ∀ x ∈ rs, x.w = true -> (r.f, r.b) ≠ (x.f, x.b) := fun x hx hxw => by
   obtain ⟨j, hj⟩ := List.mem_iff_getElem?.1 hx
   exact (hd (j + 1) 0 x r (by simpa using hj) rfl (by omega) hxw).symm
  have hy := hl 0 r y rfl rfl
  simp only [upd]
  cases hw : r.w with
  | true =>
   refine atR_upd hn ?_
   obtain ⟨l, cs, a1, a2, a3⟩ := hR r (by simp)
   refine ⟨sb r.b (over cs r.o y) l, over cs r.o y, ?_, ?_, ?_, ?_⟩
   ·rw [wrR_get, if_pos rfl, a1, Option.map_some, a2]; rfl
   ·rw [lk_sb, if_pos rfl, a2]; rfl
   ·rw [over_len (by omega)]; omega
   ·exact over_get (by omega)
  | false => exact atR_upd hn (hro 0 r y rfl hw rfl)
 | r :: rs, y :: Y, B, hd, hR, hl, hro, i + 1, q, ys, h, h2 => by
  simp at h h2
  have hl' : ∀ (i : Nat) r ys, rs[i]? = some r -> Y[i]? = some ys -> ys.length = r.z := fun i r ys a b => hl (i + 1) r ys (by simpa using a) (by simpa using b)
  simp only [upd]
  cases hw : r.w with
  | true =>
   refine upd_at hd.tl (fun x hx => hasR_wr (hR r (by simp)) (hl 0 r y rfl rfl) (hR x (by simp [hx]))) hl' (fun j q ys a b d => ?_) h h2
   refine atR_wr ?_ (hro (j + 1) q ys (by simpa using a) b (by simpa using d))
   exact (hd 0 (j + 1) r q rfl (by simpa using a) (by omega) hw).symm
  | false => exact upd_at hd.tl (fun x hx => hR x (by simp [hx])) hl' (fun j q ys a b d => hro (j + 1) q ys (by simpa using a) b (by simpa using d)) h h2
theorem upd_id : ∀ {rs : List Rg} {Y : List (List D)} {B : List Bx}, (∀ (i : Nat) r ys, rs[i]? = some r -> Y[i]? = some ys -> r.w = true -> atR r ys B) -> upd rs Y B = B
 | [], [], B, _ => rfl
 | [], _ :: _, B, _ => rfl
 | _ :: _, [], B, _ => rfl
 | r :: rs, y :: Y, B, h => by
  simp only [upd]
  have ih : upd rs Y B = B := upd_id fun i q ys a b => h (i + 1) q ys (by simpa using a) (by simpa using b)
  cases hw : r.w with
  | true =>
   obtain ⟨l, cs, a1, a2, a3, a4⟩ := h 0 r y rfl rfl hw
   simp only [cond_true]
   rw [wrR_id a1 a2 a3 a4, ih]
  | false => exact ih
theorem Sat.wr {F : List Fx} {B : List Bx} {r : Rg} {ys : List D} (h : Sat F B) (hd : ∀ x ∈ F, (x.f, x.b) ≠ (r.f, r.b)) : Sat F (wrR r ys B) := fun x hx => by
 obtain ⟨l, cs, h1, h2, h3, h4⟩ := h x hx
 obtain ⟨l', q1, q2⟩ := lk2_ne (ys := ys) (hd x hx) h1 h2
 exact ⟨l', cs, q1, q2, h3, h4⟩
theorem Sat.upd {F : List Fx} : ∀ {rs : List Rg} {Y : List (List D)} {B : List Bx}, (∀ x ∈ F, ∀ r ∈ rs, r.w = true -> (x.f, x.b) ≠ (r.f, r.b)) -> Sat F B -> Sat F (upd rs Y B)
 | [], [], B, _, h => h
 | [], _ :: _, B, _, h => h
 | _ :: _, [], B, _, h => h
 | q :: rs, zs :: Y, B, hd, h => by
  simp only [U.upd]
  cases hw : q.w with
  | true => exact Sat.upd (fun x hx r hr => hd x hx r (by simp [hr])) (h.wr fun x hx => hd x hx q (by simp) hw)
  | false => exact Sat.upd (fun x hx r hr => hd x hx r (by simp [hr])) h
end Go.Proofs.Ytlhjdikklmkihaa.Ev.U
