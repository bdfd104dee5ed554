/- Rules for reckoning with the evaluator by 'simp only'. Conditions: none. -/
import Derived.Test.YtlhjdikklmkihaaEvK
import Derived.Attr
import Derived.IntWalk
set_option linter.all false
namespace Go.Proofs.Ytlhjdikklmkihaa.Ev
open Go

abbrev vi (n : Int) : D := .v (.int .i64 n)
abbrev vu (n : Int) : D := .v (.int .u32 n)
abbrev vb (b : Bool) : D := .v (.bool b)

section
variable {c : Caller} {s : S} {t n m k : Nat} {d d' : D} {e : Env} {l l' : Bx} {o o' : List Bx} {r : List Stp}
theorem r_nil : evOps c [] s = some s := rfl
theorem r_s {p : Op} : evOps c (s_ t p :: r) s = ((evOp c (some t) p s).map fun (q : D × S) => put t q.1 q.2).bind (evOps c r) := rfl
theorem r_n {p : Op} : evOps c (n_ p :: r) s = ((evOp c none p s).map fun (q : D × S) => q.2).bind (evOps c r) := rfl
/-- What an operation that leaves the state alone gives. -/
def evV (s : S) : Op → Option D
  | .mv x => some (rd x s).1
  | .pk c a b => match (rd c s).1 with
    | .v (.bool q) => some (if q then (rd a s).1 else (rd b s).1)
    | _ => none
  | .ld n p => match (rd p s).1 with
    | .ptr f b off => (bx f b s).bind fun ds => (pick n ds off).map fun d => d.strip
    | .fptr cs off => pick n cs off
    | _ => none
  | .bin op x y => match (rd x s).1, (rd y s).1 with
    | .v (.int k a), .v (.int k' b) => if k = k' then (bz op k a b).map .v else none
    | _, _ => none
  | .no x => match (rd x s).1 with
    | .v (.bool b) => some (.v (.bool !b))
    | _ => none
  | .fa x off => match (rd x s).1 with
    | .ptr f b o => some (.ptr f b (o + off))
    | .fptr cs o => some (.fptr cs (o + off))
    | _ => none
  | .ia x i z => match (rd x s).1, (rd i s).1 with
    | .sl m z' xs, .v (.int _ i) => if z = z' ∧ 0 ≤ i ∧ m ≠ .mu then (xs[i.toNat]?).map fun d => .fptr d.cells 0 else none
    | .ref f b off n z', .v (.int _ i) => if z = z' ∧ 0 ≤ i ∧ i < n then some (.ptr f b (off + i.toNat * z)) else none
    | _, _ => none
  | .ext x i => match (rd x s).1 with
    | .tup ds => ds[i]?
    | _ => none
  | .len x => match (rd x s).1 with
    | .sl _ _ xs => some (.v (.int .i64 xs.length))
    | .ref _ _ _ n _ => some (.v (.int .i64 n))
    | _ => none
  | .lns x => match (rd x s).1 with
    | .v (.string b) => some (.v (.int .i64 b.size))
    | _ => none
  | .un xr x => match (rd x s).1 with
    | .v (.int k a) => (if xr then bz .xor k (if k.signed then -1 else k.max) a else bz .sub k 0 a).map .v
    | _ => none
  | .eqn ne x => match (rd x s).1 with
    | .sl .nl _ _ => some (.v (.bool !ne))
    | .sl _ _ _ => some (.v (.bool ne))
    | .ref _ _ _ _ _ => some (.v (.bool ne))
    | _ => none
  | .eqs ne x y => match (rd x s).1, (rd y s).1 with
    | .v (.string a), .v (.string b) => some (.v (.bool ((a.toList == b.toList) != ne)))
    | _, _ => none
  | .eqb ne x y => match (rd x s).1, (rd y s).1 with
    | .v (.bool a), .v (.bool b) => some (.v (.bool ((a == b) != ne)))
    | _, _ => none
  | .eqa ne z x y => match (rd x s).1, (rd y s).1 with
    | .agg xs, .agg ys => (veqs z xs ys).map fun q => .v (.bool (q != ne))
    | _, _ => none
  | .sh op x y => match (rd x s).1, (rd y s).1 with
    | .v (.int k a), .v (.int _ b) => (bsh op k a b).map .v
    | _, _ => none
  | .ci k x => match (rd x s).1 with
    | .v (.int _ a) => some (.v (.int k (k.wrap a)))
    | _ => none
  | .nck x => match (rd x s).1 with
    | .ptr f b o => some (.ptr f b o)
    | .fptr cs o => some (.fptr cs o)
    | _ => none
  | .bs z parts => if (rds s parts).all (fun d => d.cells.length = z && d.cells.all D.rf1) = true then some (.sl .app z (rds s parts)) else none
  | .bd z parts => (lay s (z.map zc) parts).map .agg
  | .mf f caps => if (rds s caps).all D.capB = true then some (.clo f (rds s caps)) else none
  | .mm mx x r => match (rd x s).1 with
    | .v (.int k a) => (mnm mx k a s r).map fun v => .v (.int k v)
    | _ => none
  | .slc z x lo hi => match (rd x s).1 with
    | .sl m z' xs => (optI s 0 lo).bind fun l => (optI s xs.length hi).bind fun h => if (z = z' ∨ xs.isEmpty = true) ∧ 0 ≤ l ∧ l ≤ h ∧ h ≤ xs.length then (match m with
        | .nl => some (.sl .nl 0 [])
        | .ro => some (.sl .ro z ((xs.take h.toNat).drop l.toNat))
        | _ => none) else none
    | .ref f b off n z' => (optI s 0 lo).bind fun l => (optI s n hi).bind fun h => if z = z' ∧ 0 ≤ l ∧ l ≤ h ∧ h ≤ n then some (.ref f b (off + l.toNat * z) (h.toNat - l.toNat) z) else none
    | _ => none
  | .mk z by_ ze n c => match (rd n s).1, (rd c s).1 with
    | .v (.int _ n), .v (.int _ c) => if 0 ≤ n ∧ n ≤ c ∧ by_ * c ≤ 140737488355328 then some (.sl .app z (List.replicate n.toNat ze)) else none
    | _, _ => none
  | _ => none
def Opd.tt : Opd → Bool
  | .m _ => false
  | .t _ => true
  | .c _ => true
  | .cn => true
  | .f _ => true
def pure1 : Op → Bool
  | .mv x => x.tt
  | .pk _ a b => a.tt && b.tt
  | .ext x _ => x.tt
  | .ld _ _ => true
  | .bin _ _ _ => true
  | .no _ => true
  | .fa _ _ => true
  | .ia _ _ _ => true
  | .len _ => true
  | .lns _ => true
  | .un _ _ | .eqn _ _ | .eqs _ _ _ | .eqb _ _ _ | .eqa _ _ _ _ | .sh _ _ _ | .ci _ _ | .nck _ | .bs _ _ | .bd _ _ | .mf _ _ | .mm _ _ _ | .slc _ _ _ _ | .mk _ _ _ _ _ => true
  | _ => false
theorem rd_tt {x : Opd} (h : x.tt = true) : (rd x s).2 = s := by cases x <;> first | rfl | cases h
theorem ev_pure {p : Op} {t : Option Nat} (h : pure1 p = true) : evOp c t p s = (evV s p).map fun d => (d, s) := by
  cases p with
  | mv x => simp only [evOp, evV, Option.map_some]; exact congrArg some (Prod.ext rfl (rd_tt h))
  | pk q a b =>
    simp only [pure1, Bool.and_eq_true] at h
    simp only [evOp, evV]
    have ha := rd_tt (s := s) h.1
    have hb := rd_tt (s := s) h.2
    generalize hq : (rd q s).1 = dq
    cases dq with
    | v x => cases x with
      | bool v =>
        simp only [Option.map_some]
        cases v with
        | true => simp only [if_true]; exact congrArg some (Prod.ext rfl ha)
        | false => simp only [Bool.false_eq_true, if_false]; exact congrArg some (Prod.ext rfl hb)
      | _ => rfl
    | _ => rfl
  | ld n p =>
    simp only [evOp, evV]
    generalize (rd p s).1 = dq
    cases dq with
    | ptr f b off =>
      simp only
      cases bx f b s with
      | none => rfl
      | some ds => simp only [Option.bind_some]; rw [Option.map_map]; rfl
    | _ => rfl
  | bin op x y =>
    simp only [evOp, evV]
    generalize (rd x s).1 = d1
    generalize (rd y s).1 = d2
    cases d1 with
    | v x => cases x with
      | int k a => cases d2 with
        | v y => cases y with
          | int k' b =>
            simp only
            by_cases e : k = k'
            · simp only [if_pos e]; rw [Option.map_map]; rfl
            · simp only [if_neg e]; rfl
          | _ => rfl
        | _ => rfl
      | _ => rfl
    | _ => rfl
  | no x =>
    simp only [evOp, evV]
    generalize (rd x s).1 = d1
    cases d1 with
    | v x => cases x <;> rfl
    | _ => rfl
  | fa x off =>
    simp only [evOp, evV]
    generalize (rd x s).1 = d1
    cases d1 <;> rfl
  | ia x i z =>
    simp only [evOp, evV]
    generalize (rd x s).1 = d1
    generalize (rd i s).1 = d2
    cases d1 with
    | sl m z' xs => cases d2 with
      | v y => cases y with
        | int k i =>
          simp only
          by_cases e : z = z' ∧ 0 ≤ i ∧ m ≠ .mu
          · simp only [if_pos e]; rw [Option.map_map]; rfl
          · simp only [if_neg e]; rfl
        | _ => rfl
      | _ => rfl
    | ref f b off n z' => cases d2 with
      | v y => cases y with
        | int k i => simp only; split <;> rfl
        | _ => rfl
      | _ => rfl
    | _ => rfl
  | ext x i => cases x with
    | m n => cases h
    | t n =>
      simp only [evOp, evV]
      generalize (rd (.t n) s).1 = d1
      cases d1 <;> rfl
    | _ => rfl
  | len x =>
    simp only [evOp, evV]
    generalize (rd x s).1 = d1
    cases d1 <;> rfl
  | lns x =>
    simp only [evOp, evV]
    generalize (rd x s).1 = d1
    cases d1 with
    | v x => cases x <;> rfl
    | _ => rfl
  | un xr x =>
    simp only [evOp, evV]
    generalize (rd x s).1 = d1
    cases d1 <;> try rfl
    rename_i v1
    cases v1 <;> try rfl
    simp only [Option.map_map]; rfl
  | eqn ne x =>
    simp only [evOp, evV]
    generalize (rd x s).1 = d1
    cases d1 <;> try rfl
    rename_i m z xs
    cases m <;> rfl
  | eqs ne x y =>
    simp only [evOp, evV]
    generalize (rd x s).1 = d1
    cases d1 <;> try rfl
    rename_i v1
    cases v1 <;> try rfl
    generalize (rd y s).1 = d2
    cases d2 <;> try rfl
    rename_i v2
    cases v2 <;> try rfl
  | eqb ne x y =>
    simp only [evOp, evV]
    generalize (rd x s).1 = d1
    cases d1 <;> try rfl
    rename_i v1
    cases v1 <;> try rfl
    generalize (rd y s).1 = d2
    cases d2 <;> try rfl
    rename_i v2
    cases v2 <;> try rfl
  | eqa ne z x y =>
    simp only [evOp, evV]
    generalize (rd x s).1 = d1
    cases d1 <;> try rfl
    generalize (rd y s).1 = d2
    cases d2 <;> try rfl
    simp only [Option.map_map]; rfl
  | sh op x y =>
    simp only [evOp, evV]
    generalize (rd x s).1 = d1
    cases d1 <;> try rfl
    rename_i v1
    cases v1 <;> try rfl
    generalize (rd y s).1 = d2
    cases d2 <;> try rfl
    rename_i v2
    cases v2 <;> try rfl
    simp only [Option.map_map]; rfl
  | ci k x =>
    simp only [evOp, evV]
    generalize (rd x s).1 = d1
    cases d1 <;> try rfl
    rename_i v1
    cases v1 <;> try rfl
  | nck x =>
    simp only [evOp, evV]
    generalize (rd x s).1 = d1
    cases d1 <;> try rfl
  | bs z xs => simp only [evOp, evV]; split <;> rfl
  | mf f xs => simp only [evOp, evV]; split <;> rfl
  | bd z ps => simp only [evOp, evV]; rw [Option.map_map]; rfl
  | mm mx x r =>
    simp only [evOp, evV]
    generalize (rd x s).1 = d1
    cases d1 <;> try rfl
    rename_i v1
    cases v1 <;> try rfl
    simp only [Option.map_map]; rfl
  | mk z b e x y =>
    simp only [evOp, evV]
    generalize (rd x s).1 = d1
    cases d1 <;> try rfl
    rename_i v1
    cases v1 <;> try rfl
    generalize (rd y s).1 = d2
    cases d2 <;> try rfl
    rename_i v2
    cases v2 <;> try rfl
    simp only
    split <;> rfl
  | slc z x lo hi =>
    simp only [evOp, evV]
    generalize (rd x s).1 = d1
    cases d1 <;> try rfl
    · rename_i m z' xs
      simp only
      cases optI s 0 lo with
      | none => rfl
      | some l =>
        cases optI s xs.length hi with
        | none => rfl
        | some h =>
          simp only [Option.bind_some]
          split
          · cases m <;> rfl
          · rfl
    · rename_i f b off n z'
      simp only
      cases optI s 0 lo with
      | none => rfl
      | some l =>
        cases optI s n hi with
        | none => rfl
        | some h =>
          simp only [Option.bind_some]
          split <;> rfl
  | _ => cases h
/-- What a guard lets through. -/
def gdv (b w : Bool) (x : Option D) : Option D := if b = w then x else some (.v undef)
@[congr] theorem gdv_congr {b b' w : Bool} {x x' : Option D} (h : b = b') (h1 : b' = w → x = x') : gdv b w x = gdv b' w x' := by
  subst h
  unfold gdv
  split
  · rename_i e; exact h1 e
  · rfl
theorem gdv_some {b w : Bool} : gdv b w (some d) = some (if b = w then d else .v undef) := by unfold gdv; split <;> rfl
theorem gdv_tt {x : Option D} : gdv true true x = x := rfl
theorem gdv_tf {x : Option D} : gdv true false x = some (.v undef) := rfl
theorem gdv_ft {x : Option D} : gdv false true x = some (.v undef) := rfl
theorem gdv_ff {x : Option D} : gdv false false x = x := rfl
def gdB (b w : Bool) (x : Option (D × List Bx)) (B : List Bx) : Option (D × List Bx) := if b = w then x else some (.v undef, B)
@[congr] theorem gdB_congr {b b' w : Bool} {x x' : Option (D × List Bx)} {B B' : List Bx} (h : b = b') (h1 : b' = w → x = x') (h2 : B = B') : gdB b w x B = gdB b' w x' B' := by
  subst h h2
  unfold gdB
  split
  · rename_i e; exact h1 e
  · rfl
theorem gdB_some {b w : Bool} {B : List Bx} : gdB b w (some (d, B)) B = some (if b = w then d else .v undef, B) := by unfold gdB; split <;> rfl
theorem gdB_tt {x : Option (D × List Bx)} {B : List Bx} : gdB true true x B = x := rfl
theorem gdB_tf {x : Option (D × List Bx)} {B : List Bx} : gdB true false x B = some (.v undef, B) := rfl
theorem gdB_ft {x : Option (D × List Bx)} {B : List Bx} : gdB false true x B = some (.v undef, B) := rfl
theorem gdB_ff {x : Option (D × List Bx)} {B : List Bx} : gdB false false x B = x := rfl
/-- Behind a call. -/
def aft (t : Nat) (s : S) (q : D × List Bx) : Option S := (unsnoc q.2).map fun p => put t q.1 ((s.wo p.1).wl p.2)
def isB : D → Option Bool
  | .v (.bool b) => some b
  | _ => none
theorem r_p {p : Op} (h : pure1 p = true) : evOps c (s_ t p :: r) s = ((evV s p).map fun d => put t d s).bind (evOps c r) := by
  rw [r_s, ev_pure h, Option.map_map]; rfl
theorem r_gp {p : Op} {q : Nat} {w b : Bool} (h : pure1 p = true) (hb : get q s.e = .v (.bool b)) : evOps c (g_ q w t p :: r) s = ((gdv b w (evV s p)).map fun d => put t d s).bind (evOps c r) := by
  show (evStp c (g_ q w t p) s).bind _ = _
  simp only [evStp, g_, hb]
  congr 1
  unfold gdv
  split
  · rename_i e
    rw [ev_pure h, Option.map_map]; rfl
  · rfl
theorem rdL_tt {xs : List Opd} (h : xs.all Opd.tt = true) : (rdL xs s).2 = s := by
  induction xs generalizing s with
  | nil => rfl
  | cons x xs ih =>
    rw [List.all_cons, Bool.and_eq_true] at h
    simp only [rdL]
    rw [ih h.2, rd_tt h.1]
theorem doCall_eq {f : Nat} {ds : List D} : (doCall c f ds s).map (fun (q : D × S) => put t q.1 q.2) = (c f ds (s.o ++ [s.l])).bind (aft t s) := by
  unfold doCall aft
  cases c f ds (s.o ++ [s.l]) with
  | none => rfl
  | some q =>
    obtain ⟨d, o'⟩ := q
    simp only [Option.bind_some]
    cases unsnoc o' with
    | none => rfl
    | some p => rfl
theorem r_c {f : Nat} {xs : List Opd} (h : xs.all Opd.tt = true) : evOps c (s_ t (.call f xs) :: r) s = ((c f (rdL xs s).1 (s.o ++ [s.l])).bind (aft t s)).bind (evOps c r) := by
  rw [r_s]
  simp only [evOp]
  rw [rdL_tt h, doCall_eq]
theorem r_gc {f : Nat} {xs : List Opd} {q : Nat} {w b : Bool} (h : xs.all Opd.tt = true) (hb : get q s.e = .v (.bool b)) : evOps c (g_ q w t (.call f xs) :: r) s = ((gdB b w (c f (rdL xs s).1 (s.o ++ [s.l])) (s.o ++ [s.l])).bind (aft t s)).bind (evOps c r) := by
  show (evStp c (g_ q w t (.call f xs)) s).bind _ = _
  simp only [evStp, g_, hb, evOp]
  congr 1
  unfold gdB
  split
  · rename_i e
    rw [rdL_tt h]; exact doCall_eq
  · simp only [aft, Option.bind_some]
    have : ∀ (l : List Bx) (x : Bx), unsnoc (l ++ [x]) = some (l, x) := by
      intro l x
      induction l with
      | nil => rfl
      | cons y r ih =>
        cases hr : r ++ [x] with
        | nil => simp at hr
        | cons z q => rw [List.cons_append, hr, unsnoc, ← hr, ih]; rfl
    rw [this]; rfl

/-! ### A region's steps, by what they are -/
def kS (b : Bool) (c : Caller) (t : Nat) (p : Op) (s : S) : Option S := if b = true then (evV s p).map fun d => put t d s else (evOp c (some t) p s).map fun (q : D × S) => put t q.1 q.2
theorem kS_tt {p : Op} : kS true c t p s = (evV s p).map fun d => put t d s := rfl
theorem kS_ff {p : Op} : kS false c t p s = (evOp c (some t) p s).map fun (q : D × S) => put t q.1 q.2 := rfl
theorem R_p {p : Op} : evOps c (s_ t p :: r) s = (kS (pure1 p) c t p s).bind (evOps c r) := by
  unfold kS
  split
  · rename_i h; exact r_p h
  · exact r_s
def kC (b : Bool) (c : Caller) (t f : Nat) (xs : List Opd) (s : S) : Option S := if b = true then (c f (rdL xs s).1 (s.o ++ [s.l])).bind (aft t s) else (evOp c (some t) (.call f xs) s).map fun (q : D × S) => put t q.1 q.2
theorem kC_tt {f : Nat} {xs : List Opd} : kC true c t f xs s = (c f (rdL xs s).1 (s.o ++ [s.l])).bind (aft t s) := rfl
theorem kC_ff {f : Nat} {xs : List Opd} : kC false c t f xs s = (c f (rdL xs s).1 (s.o ++ [s.l])).bind (aft t (rdL xs s).2) := by
  have ho : (rdL xs s).2.o = s.o ∧ (rdL xs s).2.l = s.l := by
    induction xs generalizing s with
    | nil => exact ⟨rfl, rfl⟩
    | cons x xs ih =>
      simp only [rdL]
      have := ih (s := (rd x s).2)
      have h1 : (rd x s).2.o = s.o ∧ (rd x s).2.l = s.l := by cases x <;> exact ⟨rfl, rfl⟩
      exact ⟨this.1.trans h1.1, this.2.trans h1.2⟩
  show (evOp c (some t) (.call f xs) s).map (fun (q : D × S) => put t q.1 q.2) = _
  simp only [evOp]
  rw [doCall_eq, ho.1, ho.2]
theorem R_c {f : Nat} {xs : List Opd} : evOps c (s_ t (.call f xs) :: r) s = (kC (xs.all Opd.tt) c t f xs s).bind (evOps c r) := by
  unfold kC
  split
  · rename_i h; exact r_c h
  · exact r_s
/-- A guarded step. -/
def kG (x : Option Bool) (w : Bool) (c : Caller) (t : Nat) (p : Op) (s : S) : Option S := match x with
  | some b => (gdv b w (evV s p)).map fun d => put t d s
  | none => some (put t (.v undef) s)
def kH (x : Option Bool) (w : Bool) (c : Caller) (t f : Nat) (xs : List Opd) (s : S) : Option S := match x with
  | some b => (gdB b w (c f (rdL xs s).1 (s.o ++ [s.l])) (s.o ++ [s.l])).bind (aft t s)
  | none => some (put t (.v undef) s)
/-- A guard's value: none: it was not reckoned. -/
def gval : D → Option (Option Bool)
  | .v (.bool b) => some (some b)
  | .v _ => some none
  | _ => none
theorem gval_b {b : Bool} : gval (.v (.bool b)) = some (some b) := rfl
theorem gval_u : gval (.v undef) = some none := rfl
theorem gval_i {p : Prop} [Decidable p] {b : Bool} : gval (.v (if p then .bool b else undef)) = some (if p then some b else none) := by split <;> rfl
theorem G_p {p : Op} {q : Nat} {w : Bool} : evOps c (g_ q w t p :: r) s = (bif pure1 p then (gval (get q s.e)).bind fun x => (kG x w c t p s).bind (evOps c r) else (evStp c (g_ q w t p) s).bind (evOps c r)) := by
  cases h : pure1 p with
  | false => rfl
  | true =>
    simp only [cond_true]
    generalize hd : get q s.e = d
    cases d with
    | v x => cases x with
      | bool b => exact r_gp h hd
      | _ => show (evStp c (g_ q w t p) s).bind _ = _; simp only [evStp, g_, hd]; rfl
    | _ => show (evStp c (g_ q w t p) s).bind _ = _; simp only [evStp, g_, hd]; rfl
theorem G_c {f : Nat} {xs : List Opd} {q : Nat} {w : Bool} : evOps c (g_ q w t (.call f xs) :: r) s = (bif xs.all Opd.tt then (gval (get q s.e)).bind fun x => (kH x w c t f xs s).bind (evOps c r) else (evStp c (g_ q w t (.call f xs)) s).bind (evOps c r)) := by
  cases h : xs.all Opd.tt with
  | false => rfl
  | true =>
    simp only [cond_true]
    generalize hd : get q s.e = d
    cases d with
    | v x => cases x with
      | bool b => exact r_gc h hd
      | _ => show (evStp c (g_ q w t (.call f xs)) s).bind _ = _; simp only [evStp, g_, hd]; rfl
    | _ => show (evStp c (g_ q w t (.call f xs)) s).bind _ = _; simp only [evStp, g_, hd]; rfl
theorem kG_b {b w : Bool} {p : Op} : kG (some b) w c t p s = (gdv b w (evV s p)).map fun d => put t d s := rfl
theorem kG_n {w : Bool} {p : Op} : kG none w c t p s = some (put t (.v undef) s) := rfl
theorem kH_b {b w : Bool} {f : Nat} {xs : List Opd} : kH (some b) w c t f xs s = (gdB b w (c f (rdL xs s).1 (s.o ++ [s.l])) (s.o ++ [s.l])).bind (aft t s) := rfl
theorem kH_n {w : Bool} {f : Nat} {xs : List Opd} : kH none w c t f xs s = some (put t (.v undef) s) := rfl
/-! ### The operations that turn the state -/
def alO (x : Option (List D)) (t : Nat) (z : List Value) (s : S) : Option (D × S) := match x with
  | none => some (.ptr s.o.length t 0, s.wl (ins t (z.map zc) s.l))
  | some _ => none
theorem O_al {z : List Value} : evOp c (some t) (.al z) s = alO (lk t s.l) t z s := by simp only [evOp]; cases lk t s.l <;> rfl
theorem alO_n {z : List Value} : alO none t z s = some (.ptr s.o.length t 0, s.wl (ins t (z.map zc) s.l)) := rfl
def bxO (x : Option (List D)) (t : Nat) (d : D) (s : S) : Option (D × S) := match x with
  | none => if d.bnd2 (s.o.length + 1) = true ∧ d.cells.all D.sto1 = true then some (.ptr s.o.length t 0, s.wl (ins t d.cells s.l)) else none
  | some _ => none
theorem O_bx {x : Opd} : evOp c (some t) (.bx x) s = bxO (lk t s.l) t (rd x s).1 (rd x s).2 := by
  simp only [evOp]
  have ho : (rd x s).2.o = s.o := by cases x <;> rfl
  cases lk t s.l with
  | none => simp only [bxO, ho]
  | some _ => rfl
theorem bxO_n : bxO none t d s = if d.bnd2 (s.o.length + 1) = true ∧ d.cells.all D.sto1 = true then some (.ptr s.o.length t 0, s.wl (ins t d.cells s.l)) else none := rfl
def ldm2 (f b off : Nat) (n : Option Nat) (s : S) (ds : List D) : Option (D × S) := (pick n ds off).map fun d => (d, sbx f b (over ds off d.strip.cells) s)
def ldmO (d : D) (n : Option Nat) (s : S) : Option (D × S) := match d with
  | .ptr f b off => (bx f b s).bind (ldm2 f b off n s)
  | _ => none
theorem O_ldm {q : Option Nat} {p : Opd} {u : Option Nat} : evOp c u (.ldm q p) s = ldmO (rd p s).1 q s := by
  simp only [evOp]
  generalize (rd p s).1 = d
  cases d with
  | ptr f b off => simp only [ldmO]; cases bx f b s <;> rfl
  | _ => rfl
theorem ldmO_p {f b off : Nat} {q : Option Nat} : ldmO (.ptr f b off) q s = (bx f b s).bind (ldm2 f b off q s) := rfl
def st2 (f b off n : Nat) (d : D) (s : S) (ds : List D) : Option (D × S) := if d.cells.length = n ∧ off + n ≤ ds.length ∧ d.bnd2 (f + 1) = true ∧ d.cells.all D.sto1 = true then some (.u, sbx f b (over ds off d.cells) s) else none
def stO (p d : D) (n : Nat) (s : S) : Option (D × S) := match p with
  | .ptr f b off => (bx f b s).bind (st2 f b off n d s)
  | _ => none
theorem O_st {q : Nat} {p x : Opd} {u : Option Nat} : evOp c u (.st q p x) s = stO (rd p s).1 (rd x s).1 q (rd x s).2 := by
  simp only [evOp]
  generalize (rd p s).1 = d
  have ho : ∀ f b, bx f b (rd x s).2 = bx f b s := fun f b => by cases x <;> rfl
  cases d with
  | ptr f b off => simp only [stO, ho]; cases bx f b s <;> rfl
  | _ => rfl
theorem stO_p {f b off : Nat} {q : Nat} : stO (.ptr f b off) d q s = (bx f b s).bind (st2 f b off q d s) := rfl
def exO (x : Option D) (n i : Nat) (ds : List D) (s : S) : Option (D × S) := x.map fun d => (d, put n (.tup (ds.set i d.strip2)) s)
def ex2 (d : D) (n i : Nat) (s : S) : Option (D × S) := match d with
  | .tup ds => exO ds[i]? n i ds s
  | _ => none
theorem O_ext {i : Nat} {u : Option Nat} : evOp c u (.ext (.m n) i) s = ex2 (get n s.e) n i s := by
  simp only [evOp]
  generalize get n s.e = d
  cases d <;> rfl
theorem ex2_t {i : Nat} {ds : List D} : ex2 (.tup ds) n i s = exO ds[i]? n i ds s := rfl
theorem O_mv {u : Option Nat} : evOp c u (.mv (.m n)) s = some (get n s.e, put n (get n s.e).strip s) := rfl

theorem e_put : get n (put t d s).e = if n = t then d else get n s.e := rfl
theorem l_put : (put t d s).l = s.l := rfl
theorem o_put : (put t d s).o = s.o := rfl
theorem e_wl : (s.wl l).e = s.e := rfl
theorem l_wl : (s.wl l).l = l := rfl
theorem o_wl : (s.wl l).o = s.o := rfl
theorem e_wo : (s.wo o).e = s.e := rfl
theorem l_wo : (s.wo o).l = s.l := rfl
theorem o_wo : (s.wo o).o = o := rfl
theorem e_mk : (S.mk e l o).e = e := rfl
theorem l_mk : (S.mk e l o).l = l := rfl
theorem o_mk : (S.mk e l o).o = o := rfl
theorem wl_mk : (S.mk e l o).wl l' = S.mk e l' o := rfl
theorem wl_put : (put t d s).wl l = put t d (s.wl l) := rfl
theorem wo_put : (put t d s).wo o = put t d (s.wo o) := rfl
theorem wl_wl : (s.wl l).wl l' = s.wl l' := rfl
theorem wo_mk : (S.mk e l o).wo o' = S.mk e l o' := rfl
theorem wlwo_mk : ((S.mk e l o).wo o').wl l' = S.mk e l' o' := rfl
theorem e_nil : get n [] = .u := rfl
theorem e_cons : get n ((t, d) :: e) = if n = t then d else get n e := rfl
theorem ins_nil {ds : List D} : ins n ds [] = [(n, ds)] := rfl
theorem ins_cons {ds ds' : List D} : ins n ds ((t, ds') :: l) = if n ≤ t then (n, ds) :: (t, ds') :: l else (t, ds') :: ins n ds l := rfl
theorem lk_nil : lk n [] = none := rfl
theorem lk_cons {ds : List D} : lk n ((t, ds) :: l) = if n = t then some ds else lk n l := rfl
theorem sb_cons {ds ds' : List D} : sb n ds' ((t, ds) :: l) = if n = t then (t, ds') :: l else (t, ds) :: sb n ds' l := rfl
theorem bx_eq' {f b : Nat} : bx f b s = if f = s.o.length then lk b s.l else (s.o[f]?).bind (lk b) := rfl
theorem sbx_eq' {f b : Nat} {ds : List D} : sbx f b ds s = if f = s.o.length then s.wl (sb b ds s.l) else s.wo (s.o.modify f (sb b ds)) := rfl

theorem rd_t : rd (.t n) s = ((get n s.e).strip, s) := rfl
theorem rd_m : rd (.m n) s = (get n s.e, put n (get n s.e).strip s) := rfl
theorem rd_c {x : Value} : rd (.c x) s = (.v x, s) := rfl
theorem rd_cn : rd .cn s = (.sl .nl 0 [], s) := rfl
theorem rd_f : rd (.f n) s = (.clo n [], s) := rfl
theorem rdL_nil : rdL [] s = ([], s) := rfl
theorem rdL_cons {x : Opd} {xs : List Opd} : rdL (x :: xs) s = ((rd x s).1 :: (rdL xs (rd x s).2).1, (rdL xs (rd x s).2).2) := rfl

theorem st_v {x : Value} : (D.v x).strip = .v x := rfl
theorem st_u : D.u.strip = .u := rfl
theorem st_ptr {f s off : Nat} : (D.ptr f s off).strip = .ptr f s off := rfl
theorem st_fptr {cs : List D} {off : Nat} : (D.fptr cs off).strip = .fptr cs off := rfl
theorem st_clo {cs : List D} {f : Nat} : (D.clo f cs).strip = .clo f cs := rfl
theorem st_nl {z : Nat} {xs : List D} : (D.sl .nl z xs).strip = .sl .nl z xs := rfl
theorem st_ro {z : Nat} {xs : List D} : (D.sl .ro z xs).strip = .sl .ro z xs := rfl
theorem st_app {z : Nat} {xs : List D} : (D.sl .app z xs).strip = .sl .ro z xs := rfl
theorem st_agg {cs : List D} : (D.agg cs).strip = .agg (cs.map D.strip1) := rfl
theorem st_tup {cs : List D} : (D.tup cs).strip = .tup (cs.map D.strip2) := rfl
theorem st_ite {p : Prop} [Decidable p] : (if p then d else d').strip = if p then d.strip else d'.strip := by split <;> rfl
theorem s2_agg {cs : List D} : (D.agg cs).strip2 = .agg (cs.map D.strip1) := rfl
theorem s2_v {x : Value} : (D.v x).strip2 = .v x := rfl
theorem s2_nl {z : Nat} {xs : List D} : (D.sl .nl z xs).strip2 = .sl .nl z xs := rfl
theorem s2_ro {z : Nat} {xs : List D} : (D.sl .ro z xs).strip2 = .sl .ro z xs := rfl
theorem s2_app {z : Nat} {xs : List D} : (D.sl .app z xs).strip2 = .sl .ro z xs := rfl
theorem s2_ptr {f s off : Nat} : (D.ptr f s off).strip2 = .ptr f s off := rfl
theorem s2_clo {cs : List D} {f : Nat} : (D.clo f cs).strip2 = .clo f cs := rfl
theorem s1_v {x : Value} : (D.v x).strip1 = .v x := rfl
theorem s1_u : D.u.strip1 = .u := rfl
theorem s1_ptr {f s off : Nat} : (D.ptr f s off).strip1 = .ptr f s off := rfl
theorem s1_fptr {cs : List D} {off : Nat} : (D.fptr cs off).strip1 = .fptr cs off := rfl
theorem s1_clo {cs : List D} {f : Nat} : (D.clo f cs).strip1 = .clo f cs := rfl
theorem s1_nl {z : Nat} {xs : List D} : (D.sl .nl z xs).strip1 = .sl .nl z xs := rfl
theorem s1_ro {z : Nat} {xs : List D} : (D.sl .ro z xs).strip1 = .sl .ro z xs := rfl
theorem s1_app {z : Nat} {xs : List D} : (D.sl .app z xs).strip1 = .sl .ro z xs := rfl

theorem pick_none {ds : List D} {off : Nat} : pick none ds off = ds[off]? := rfl
theorem pick_some {ds : List D} {off n : Nat} : pick (some n) ds off = if off + n ≤ ds.length then some (.agg ((ds.drop off).take n)) else none := rfl
theorem over_eq {ds cs : List D} {off : Nat} : over ds off cs = ds.take off ++ cs ++ ds.drop (off + cs.length) := rfl

theorem ite_v {p : Prop} [Decidable p] {x y : Value} : (if p then D.v x else D.v y) = D.v (if p then x else y) := by split <;> rfl
theorem ite_b {p : Prop} [Decidable p] {x y : Bool} : (if p then Value.bool x else Value.bool y) = Value.bool (if p then x else y) := by split <;> rfl
theorem ite_ite {α : Type} {p : Prop} [Decidable p] {x y z : α} : (if p then (if p then x else y) else z) = if p then x else z := by split <;> rfl

theorem ite_and {b c : Bool} : (if b = true then c else false) = (b && c) := by cases b <;> rfl
theorem ite_or {b c : Bool} : (if b = true then true else c) = (b || c) := by cases b <;> rfl
theorem ite_pair {p : Prop} [Decidable p] {x y : D} : (if p then (x, s) else (y, s)) = ((if p then x else y), s) := by split <;> rfl
/-! ### Blocks: what stands behind is not looked into before it is come to -/
def qC (x : Option (Ex × S)) (k : S → Option (Ex × S)) : Option (Ex × S) := match x with
  | some (.nm, s) => k s
  | r => r
def iC (d : D) (x y : S → Option (Ex × S)) (s : S) : Option (Ex × S) := match d with
  | .v (.bool q) => if q then x s else y s
  | _ => none
def bC (id : Nat) (x : Option (Ex × S)) : Option (Ex × S) := match x with
  | some (.ex i, s) => if i = id then some (.nm, s) else some (.ex i, s)
  | r => r
def lC (x : Option S) (body next : S → Option (Ex × S)) : Option (Ex × S) := match x with
  | none => none
  | some s1 => match body s1 with
    | none => none
    | some (.nm, s2) => next s2
    | some (x, s2) => some (x, s2)
def rC (x : Option S) : Option (Ex × S) := x.map fun s => (.nm, s)
theorem c_sk : evC c .sk s = some (.nm, s) := rfl
theorem c_rg {ps : List Stp} : evC c (.rg ps) s = rC (evOps c ps s) := rfl
theorem c_sq {a b : Cd} : evC c (.sq a b) s = qC (evC c a s) (evC c b) := rfl
theorem c_ff {q : Opd} {a b : Cd} : evC c (.ff q a b) s = iC (rd q s).1 (evC c a) (evC c b) s := rfl
theorem c_bl {id : Nat} {a : Cd} : evC c (.bl id a) s = bC id (evC c a s) := rfl
theorem c_ex {id : Nat} : evC c (.ex id) s = some (.ex id, s) := rfl
theorem c_rt : evC c .rt s = some (.rt, s) := rfl
theorem c_lp {ks bs : List Nat} {a : Cd} : evC c (.lp ks bs a) s = qC (rC (carry ks bs s)) fun s1 => match evC c a s1 with
      | none => none
      | some (.nm, s2) => evC c (.lp ks bs a) s2
      | some (x, s2) => some (x, s2) := by
  rw [evC_lp]
  cases carry ks bs s <;> rfl
theorem rC_s : rC (some s) = some (.nm, s) := rfl
theorem rC_n : rC none = none := rfl
theorem rC_i {p : Prop} [Decidable p] {x y : Option S} : rC (if p then x else y) = if p then rC x else rC y := by split <;> rfl
theorem qC_nm {k : S → Option (Ex × S)} : qC (some (.nm, s)) k = k s := rfl
theorem qC_rt {k : S → Option (Ex × S)} : qC (some (.rt, s)) k = some (.rt, s) := rfl
theorem qC_ex {id : Nat} {k : S → Option (Ex × S)} : qC (some (.ex id, s)) k = some (.ex id, s) := rfl
theorem qC_n {k : S → Option (Ex × S)} : qC none k = none := rfl
theorem qC_i {p : Prop} [Decidable p] {x y : Option (Ex × S)} {k : S → Option (Ex × S)} : qC (if p then x else y) k = if p then qC x k else qC y k := by split <;> rfl
theorem iC_b {q : Bool} {x y : S → Option (Ex × S)} : iC (.v (.bool q)) x y s = if q = true then x s else y s := rfl
theorem bC_nm {id : Nat} : bC id (some (.nm, s)) = some (.nm, s) := rfl
theorem bC_rt {id : Nat} : bC id (some (.rt, s)) = some (.rt, s) := rfl
theorem bC_ex {id i : Nat} : bC id (some (.ex i, s)) = if i = id then some (.nm, s) else some (.ex i, s) := rfl
theorem bC_n {id : Nat} : bC id none = none := rfl
theorem bC_i {id : Nat} {p : Prop} [Decidable p] {x y : Option (Ex × S)} : bC id (if p then x else y) = if p then bC id x else bC id y := by split <;> rfl
/-- A function's end. -/
def fA (F : Fn) (B : List Bx) (ds : List D) (o : List Bx) : Option (D × List Bx) := if ds.all (D.bnd2 B.length) = true then some (if F.keep then mkRes ds else (mkRes ds).strip, o) else none
def fB (F : Fn) (B : List Bx) (a : List D × S) : Option (D × List Bx) := fA F B (a.1.map (D.frz2 B.length a.2.l)) a.2.o
def fC (F : Fn) (B : List Bx) (x : Option (Ex × S)) : Option (D × List Bx) := match x with
  | some (.ex _, _) => none
  | some (_, s) => (resL (fun _ _ _ => none) F.res s).bind (fB F B)
  | none => none
theorem fC_nm {F : Fn} {B : List Bx} : fC F B (some (.nm, s)) = (resL (fun _ _ _ => none) F.res s).bind (fB F B) := rfl
theorem fC_rt {F : Fn} {B : List Bx} : fC F B (some (.rt, s)) = (resL (fun _ _ _ => none) F.res s).bind (fB F B) := rfl
theorem fC_i {F : Fn} {B : List Bx} {p : Prop} [Decidable p] {x y : Option (Ex × S)} : fC F B (if p then x else y) = if p then fC F B x else fC F B y := by split <;> rfl
/-- The call of a function of the table. -/
theorem EF_call {prog : Nat → Option Fn} {f : Nat} {F : Fn} {ds : List D} {B : List Bx} (h : prog f = some F) (h0 : F.rnd = none) (h1 : ds.length ≤ F.nt) (h2 : ds.all (fun d => !d.tupB) = true) : EF prog f ds B = fC F B (evC (EF prog) F.body ⟨argE 0 ds, [], B⟩) := by
  rw [EF_eq]
  unfold runF
  simp only [h, h0]
  rw [if_pos ⟨h1, h2⟩]
  unfold fC
  cases evC (EF prog) F.body ⟨argE 0 ds, [], B⟩ with
  | none => rfl
  | some p =>
    obtain ⟨x, s⟩ := p
    cases x with
    | ex id => rfl
    | nm => simp only [resL_same (c := EF prog) (c' := fun _ _ _ => none)]; rfl
    | rt => simp only [resL_same (c := EF prog) (c' := fun _ _ _ => none)]; rfl
theorem ob_i {α β : Type} {p : Prop} [Decidable p] {x y : Option α} {k : α → Option β} : (if p then x else y).bind k = if p then x.bind k else y.bind k := by split <;> rfl
theorem om_i {α β : Type} {p : Prop} [Decidable p] {x y : Option α} {k : α → β} : (if p then x else y).map k = if p then x.map k else y.map k := by split <;> rfl

theorem un_snoc {α : Type} (l : List α) (x : α) : unsnoc (l ++ [x]) = some (l, x) := by
  induction l with
  | nil => rfl
  | cons y r ih =>
    cases hr : r ++ [x] with
    | nil => simp at hr
    | cons z q => rw [List.cons_append, hr, unsnoc, ← hr, ih]; rfl
/-- A call of which the answer is known. -/
theorem do_call {f : Nat} {ds : List D} (h : c f ds (s.o ++ [s.l]) = some (d, o ++ [l])) : doCall c f ds s = some (d, (s.wo o).wl l) := by
  unfold doCall
  rw [h]
  simp only [un_snoc]
theorem wo_self : s.wo s.o = s := rfl
theorem wl_self : s.wl s.l = s := rfl
end
attribute [go_sem] r_nil r_n gdv_some gdv_tt gdv_tf gdv_ft gdv_ff gdB_some gdB_tt gdB_tf gdB_ft gdB_ff kS_tt kS_ff R_p kC_tt kC_ff gval_b gval_u gval_i G_p kG_b kG_n kH_b kH_n O_al alO_n O_bx bxO_n O_ldm ldmO_p O_st stO_p O_ext ex2_t O_mv e_put l_put o_put e_wl l_wl o_wl e_wo l_wo o_wo e_mk l_mk o_mk wl_mk wl_put wo_put wl_wl wo_mk wlwo_mk e_nil e_cons ins_nil ins_cons lk_nil lk_cons sb_cons bx_eq' sbx_eq' rd_t rd_m rd_c rd_cn rd_f rdL_nil rdL_cons st_v st_u st_ptr st_fptr st_clo st_nl st_ro st_app st_agg st_tup st_ite s2_agg s2_v s2_nl s2_ro s2_app s2_ptr s2_clo s1_v s1_u s1_ptr s1_fptr s1_clo s1_nl s1_ro s1_app pick_none pick_some over_eq ite_v ite_b ite_ite ite_and ite_or ite_pair c_sk c_rg c_sq c_ff c_bl c_ex c_rt rC_s rC_n rC_i qC_nm qC_rt qC_ex qC_n qC_i iC_b bC_nm bC_rt bC_ex bC_n bC_i fC_nm fC_rt fC_i ob_i om_i un_snoc
attribute [go_sem] R_c G_c
attribute [go_sem] pure1 Opd.tt aft argE resL res1 mkRes Value.oneCell' zc carE carL carry fA fB ldm2 st2 exO
  Option.map_some Option.map_none Option.bind_some Option.bind_none List.length_cons List.length_nil List.all_cons List.all_nil List.map_cons List.map_nil List.getElem?_cons_succ List.getElem?_cons_zero List.getElem?_nil List.drop_succ_cons List.drop_zero List.take_succ_cons List.take_zero List.length_map List.cons_append List.nil_append List.append_nil List.length_append List.set_cons_zero List.set_cons_succ
  eq_self Nat.zero_add Bool.not_false Bool.not_true Bool.and_true Bool.true_and and_self and_true true_and if_true if_false cond_true cond_false
end Go.Proofs.Ytlhjdikklmkihaa.Ev
