/- Rules for reckoning with lists, draws, loops and closures. Conditions: none. -/
import Derived.Test.YtlhjdikklmkihaaEv3
import Derived.Test.YtlhjdikklmkihaaEvX
import Derived.Test.YtlhjdikklmkihaaEvB
import Derived.Attr
set_option linter.all false
namespace Go.Proofs.Ytlhjdikklmkihaa.Ev
open Go

/-- A list in a mode; q: it is nil as long as it is empty. -/
def lst (m : Mode) (z : Nat) (q : Bool) (xs : List D) : D := if (q && xs.isEmpty) = true then .sl .nl 0 [] else .sl m z xs
abbrev ub (n : Int) : D := .v (.int .u8 n)
abbrev un (n : Nat) : D := .v (.int .u8 n)
abbrev vs (b : ByteArray) : D := .v (.string b)
section
variable {c : Caller} {s : S} {t n k z z' : Nat} {m : Mode} {q q' : Bool} {xs ys : List D} {d : D} {r : List Stp} {l : Bx}
theorem lst_nil : lst m z true [] = .sl .nl 0 [] := rfl
theorem lst_f : lst m z false xs = .sl m z xs := by simp [lst]
theorem lst_cons : lst m z q (d :: xs) = .sl m z (d :: xs) := by simp [lst]
theorem lst_snoc : lst m z q (xs ++ [d]) = .sl m z (xs ++ [d]) := by simp [lst]
theorem lst_or (q : Bool) (xs : List D) : (q = true ∧ xs = [] ∧ ∀ m z, lst m z q xs = .sl .nl 0 []) ∨ ((q && xs.isEmpty) = false ∧ ∀ m z, lst m z q xs = .sl m z xs) := by
  cases h : (q && xs.isEmpty) with
  | true =>
    rw [Bool.and_eq_true] at h
    exact .inl ⟨h.1, List.isEmpty_iff.1 h.2, fun m z => by unfold lst; rw [if_pos (by simp [h.1, h.2])]⟩
  | false => exact .inr ⟨rfl, fun m z => by unfold lst; rw [if_neg (by simp [h])]⟩
theorem st_lro : (lst .ro z q xs).strip = lst .ro z q xs := by rcases lst_or q xs with ⟨_, _, h⟩ | ⟨_, h⟩ <;> rw [h] <;> rfl
theorem s2_lro : (lst .ro z q xs).strip2 = lst .ro z q xs := by rcases lst_or q xs with ⟨_, _, h⟩ | ⟨_, h⟩ <;> rw [h] <;> rfl
theorem s1_lro : (lst .ro z q xs).strip1 = lst .ro z q xs := by rcases lst_or q xs with ⟨_, _, h⟩ | ⟨_, h⟩ <;> rw [h] <;> rfl
theorem st_lap : (lst .app z q xs).strip = lst .ro z q xs := by rcases lst_or q xs with ⟨_, _, h⟩ | ⟨_, h⟩ <;> rw [h, h] <;> rfl
theorem s2_lap : (lst .app z q xs).strip2 = lst .ro z q xs := by rcases lst_or q xs with ⟨_, _, h⟩ | ⟨_, h⟩ <;> rw [h, h] <;> rfl
theorem s1_lap : (lst .app z q xs).strip1 = lst .ro z q xs := by rcases lst_or q xs with ⟨_, _, h⟩ | ⟨_, h⟩ <;> rw [h, h] <;> rfl
theorem l_cells : (lst m z q xs).cells = [lst m z q xs] := by rcases lst_or q xs with ⟨_, _, h⟩ | ⟨_, h⟩ <;> rw [h] <;> rfl
theorem l_tup : (lst m z q xs).tupB = false := by rcases lst_or q xs with ⟨_, _, h⟩ | ⟨_, h⟩ <;> rw [h] <;> rfl
theorem l_agg : (lst m z q xs).aggB = false := by rcases lst_or q xs with ⟨_, _, h⟩ | ⟨_, h⟩ <;> rw [h] <;> rfl
theorem l_bnd1 : (lst m z q xs).bnd1 k = true := by rcases lst_or q xs with ⟨_, _, h⟩ | ⟨_, h⟩ <;> rw [h] <;> rfl
theorem l_bnd2 : (lst m z q xs).bnd2 k = true := by rcases lst_or q xs with ⟨_, _, h⟩ | ⟨_, h⟩ <;> rw [h] <;> rfl
theorem l_sto : (lst m z q xs).sto1 = true := by rcases lst_or q xs with ⟨_, _, h⟩ | ⟨_, h⟩ <;> rw [h] <;> rfl
theorem l_rf : (lst .ro z q xs).rf1 = true := by rcases lst_or q xs with ⟨_, _, h⟩ | ⟨_, h⟩ <;> rw [h] <;> rfl
theorem l_in1 {bs : List Nat} : (lst m z q xs).in1 k bs = true := by rcases lst_or q xs with ⟨_, _, h⟩ | ⟨_, h⟩ <;> rw [h] <;> rfl
theorem l_in2 {bs : List Nat} : (lst m z q xs).in2 k bs = true := by rcases lst_or q xs with ⟨_, _, h⟩ | ⟨_, h⟩ <;> rw [h] <;> rfl
theorem l_inn {bs : List Nat} : (lst m z q xs).inn k bs = true := by rcases lst_or q xs with ⟨_, _, h⟩ | ⟨_, h⟩ <;> rw [h] <;> rfl
theorem l_fzP : (lst m z q xs).frzP k l = lst m z q xs := by rcases lst_or q xs with ⟨_, _, h⟩ | ⟨_, h⟩ <;> rw [h] <;> rfl
theorem l_fz1 : (lst m z q xs).frz1 k l = lst m z q xs := by rcases lst_or q xs with ⟨_, _, h⟩ | ⟨_, h⟩ <;> rw [h] <;> rfl
theorem l_fz2 : (lst m z q xs).frz2 k l = lst m z q xs := by rcases lst_or q xs with ⟨_, _, h⟩ | ⟨_, h⟩ <;> rw [h] <;> rfl
theorem l_fz3 : (lst m z q xs).frz3 k l = lst m z q xs := by rcases lst_or q xs with ⟨_, _, h⟩ | ⟨_, h⟩ <;> rw [h] <;> rfl
theorem l_cap : (lst m z q xs).cap k = true := by rcases lst_or q xs with ⟨_, _, h⟩ | ⟨_, h⟩ <;> rw [h] <;> rfl
theorem l_muq : ((lst .mu z q xs).strip1 = lst .ro z q xs) ∨ (lst .mu z q xs).strip1 = .u := by rcases lst_or q xs with ⟨_, _, h⟩ | ⟨_, h⟩ <;> rw [h, h] <;> first | exact .inl rfl | exact .inr rfl

/-- What is left where a list of one's own was moved out. -/
def lmu (z : Nat) (q : Bool) (xs : List D) : D := if (q && xs.isEmpty) = true then .sl .nl 0 [] else .u
theorem lmu_or (z : Nat) (q : Bool) (xs : List D) : lmu z q xs = .sl .nl 0 [] ∨ lmu z q xs = .u := by
  unfold lmu
  split
  · exact .inl rfl
  · exact .inr rfl
theorem s1_lmu : (lst .mu z q xs).strip1 = lmu z q xs := by
  unfold lmu
  rcases lst_or q xs with ⟨h1, h2, h⟩ | ⟨h1, h⟩
  · subst h1 h2; rfl
  · rw [h, if_neg (by simp [h1])]; rfl
theorem s2_lmu : (lst .mu z q xs).strip2 = lmu z q xs := by rw [← s1_lmu, strip2_ne l_agg]
theorem st_lmu : (lst .mu z q xs).strip = lmu z q xs := by rw [← s2_lmu, strip_ne l_tup]
theorem mu_cells : (lmu z q xs).cells = [lmu z q xs] := by rcases lmu_or z q xs with h | h <;> rw [h] <;> rfl
theorem mu_tup : (lmu z q xs).tupB = false := by rcases lmu_or z q xs with h | h <;> rw [h] <;> rfl
theorem mu_s1 : (lmu z q xs).strip1 = lmu z q xs := by rcases lmu_or z q xs with h | h <;> rw [h] <;> rfl
theorem mu_s2 : (lmu z q xs).strip2 = lmu z q xs := by rcases lmu_or z q xs with h | h <;> rw [h] <;> rfl
theorem mu_st : (lmu z q xs).strip = lmu z q xs := by rcases lmu_or z q xs with h | h <;> rw [h] <;> rfl
theorem mu_in1 {bs : List Nat} : (lmu z q xs).in1 k bs = true := by rcases lmu_or z q xs with h | h <;> rw [h] <;> rfl
theorem mu_bnd1 : (lmu z q xs).bnd1 k = true := by rcases lmu_or z q xs with h | h <;> rw [h] <;> rfl
theorem s1_smu : (D.sl .mu z xs).strip1 = .u := rfl
theorem s2_smu : (D.sl .mu z xs).strip2 = .u := rfl
theorem st_smu : (D.sl .mu z xs).strip = .u := rfl
theorem s2_u : D.u.strip2 = .u := rfl

/-! ### What operations give -/
def lenO : D → Option D
  | .sl _ _ xs => some (.v (.int .i64 xs.length))
  | .ref _ _ _ n _ => some (.v (.int .i64 n))
  | _ => none
def iaO (z : Nat) : D → D → Option D
  | .sl m z' xs, .v (.int _ i) => if z = z' ∧ 0 ≤ i ∧ m ≠ .mu then (xs[i.toNat]?).map fun d => .fptr d.cells 0 else none
  | .ref f b off n z', .v (.int _ i) => if z = z' ∧ 0 ≤ i ∧ i < n then some (.ptr f b (off + i.toNat * z)) else none
  | _, _ => none
def eqnO (ne : Bool) : D → Option D
  | .sl .nl _ _ => some (.v (.bool !ne))
  | .sl _ _ _ => some (.v (.bool ne))
  | .ref _ _ _ _ _ => some (.v (.bool ne))
  | _ => none
def slcO (z : Nat) (lo : Option Int) (hi : Int → Option Int) : D → Option D
  | .sl m z' xs => lo.bind fun l => (hi xs.length).bind fun h => if (z = z' ∨ xs.isEmpty = true) ∧ 0 ≤ l ∧ l ≤ h ∧ h ≤ xs.length then (match m with
        | .nl => some (.sl .nl 0 [])
        | .ro => some (.sl .ro z ((xs.take h.toNat).drop l.toNat))
        | _ => none) else none
  | .ref f b off n z' => lo.bind fun l => (hi n).bind fun h => if z = z' ∧ 0 ≤ l ∧ l ≤ h ∧ h ≤ n then some (.ref f b (off + l.toNat * z) (h.toNat - l.toNat) z) else none
  | _ => none
def apO (w : Bool) (z by_ : Nat) : D → D → Option D
  | .sl .nl _ _, .sl m z' ys => if (z = z' ∨ ys.isEmpty = true) ∧ m ≠ .mu ∧ m ≠ .app ∧ ys.length * by_ ≤ 140737488355328 then some (if ys.isEmpty then .sl .nl 0 [] else .sl (if w then .mu else .app) z ys) else none
  | .sl .mu z1 xs, .sl m z' ys => if z = z1 ∧ (z = z' ∨ ys.isEmpty = true) ∧ m ≠ .mu ∧ m ≠ .app ∧ (xs.length + ys.length) * by_ ≤ 140737488355328 then some (.sl .mu z (xs ++ ys)) else none
  | .sl .app z1 xs, .sl m z' ys => if z = z1 ∧ (z = z' ∨ ys.isEmpty = true) ∧ m ≠ .mu ∧ m ≠ .app ∧ (xs.length + ys.length) * by_ ≤ 140737488355328 then some (.sl .app z (xs ++ ys)) else none
  | _, _ => none
def pkO (x y : D) : D → Option D
  | .v (.bool q) => some (if q then x else y)
  | _ => none
def ldO (n : Option Nat) (s : S) : D → Option D
  | .ptr f b off => (bx f b s).bind fun ds => (pick n ds off).map fun d => d.strip
  | .fptr cs off => pick n cs off
  | _ => none
def binO (op : Bop) : D → D → Option D
  | .v (.int k a), .v (.int k' b) => if k = k' then (bz op k a b).map .v else none
  | _, _ => none
theorem V_mv {x : Opd} : evV s (.mv x) = some (rd x s).1 := rfl
theorem V_pk {x a b : Opd} : evV s (.pk x a b) = pkO (rd a s).1 (rd b s).1 (rd x s).1 := rfl
theorem V_ld {p : Opd} {n : Option Nat} : evV s (.ld n p) = ldO n s (rd p s).1 := rfl
theorem V_bin {op : Bop} {x y : Opd} : evV s (.bin op x y) = binO op (rd x s).1 (rd y s).1 := rfl
theorem V_no {x : Opd} : evV s (.no x) = (match (rd x s).1 with
    | .v (.bool b) => some (.v (.bool !b))
    | _ => none) := rfl
theorem V_fa {x : Opd} {off : Nat} : evV s (.fa x off) = (match (rd x s).1 with
    | .ptr f b o => some (.ptr f b (o + off))
    | .fptr cs o => some (.fptr cs (o + off))
    | _ => none) := rfl
theorem V_ia {x i : Opd} : evV s (.ia x i z) = iaO z (rd x s).1 (rd i s).1 := rfl
theorem V_ext {x : Opd} {i : Nat} : evV s (.ext x i) = (match (rd x s).1 with
    | .tup ds => ds[i]?
    | _ => none) := rfl
theorem V_len {x : Opd} : evV s (.len x) = lenO (rd x s).1 := rfl
theorem V_lns {x : Opd} : evV s (.lns x) = (match (rd x s).1 with
    | .v (.string b) => some (.v (.int .i64 b.size))
    | _ => none) := rfl
theorem V_un {x : Opd} {xr : Bool} : evV s (.un xr x) = (match (rd x s).1 with
    | .v (.int k a) => (if xr then bz .xor k (if k.signed then -1 else k.max) a else bz .sub k 0 a).map .v
    | _ => none) := rfl
theorem V_eqn {x : Opd} {ne : Bool} : evV s (.eqn ne x) = eqnO ne (rd x s).1 := rfl
theorem V_eqs {ne : Bool} {x y : Opd} : evV s (.eqs ne x y) = (match (rd x s).1, (rd y s).1 with
    | .v (.string a), .v (.string b) => some (.v (.bool ((a.toList == b.toList) != ne)))
    | _, _ => none) := rfl
theorem V_eqb {ne : Bool} {x y : Opd} : evV s (.eqb ne x y) = (match (rd x s).1, (rd y s).1 with
    | .v (.bool a), .v (.bool b) => some (.v (.bool ((a == b) != ne)))
    | _, _ => none) := rfl
theorem V_eqa {ne : Bool} {z : List Value} {x y : Opd} : evV s (.eqa ne z x y) = (match (rd x s).1, (rd y s).1 with
    | .agg xs, .agg ys => (veqs z xs ys).map fun q => .v (.bool (q != ne))
    | _, _ => none) := rfl
theorem V_sh {op : Bop} {x y : Opd} : evV s (.sh op x y) = (match (rd x s).1, (rd y s).1 with
    | .v (.int k a), .v (.int _ b) => (bsh op k a b).map .v
    | _, _ => none) := rfl
theorem V_ci {k : IntKind} {x : Opd} : evV s (.ci k x) = (match (rd x s).1 with
    | .v (.int _ a) => some (.v (.int k (k.wrap a)))
    | _ => none) := rfl
theorem V_nck {x : Opd} : evV s (.nck x) = (match (rd x s).1 with
    | .ptr f b o => some (.ptr f b o)
    | .fptr cs o => some (.fptr cs o)
    | _ => none) := rfl
theorem V_bs {z : Nat} {ps : List Opd} : evV s (.bs z ps) = if (rds s ps).all (fun d => d.cells.length = z && d.cells.all D.rf1) = true then some (.sl .app z (rds s ps)) else none := rfl
theorem V_bd {z : List Value} {ps : List (Nat × Nat × Opd)} : evV s (.bd z ps) = (lay s (z.map zc) ps).map .agg := rfl
theorem V_mf {f : Nat} {ps : List Opd} : evV s (.mf f ps) = if (rds s ps).all D.capB = true then some (.clo f (rds s ps)) else none := rfl
theorem V_mm {mx : Bool} {x : Opd} {r : List Opd} : evV s (.mm mx x r) = (match (rd x s).1 with
    | .v (.int k a) => (mnm mx k a s r).map fun v => .v (.int k v)
    | _ => none) := rfl
theorem V_slc {z : Nat} {x : Opd} {lo hi : Option Opd} : evV s (.slc z x lo hi) = slcO z (optI s 0 lo) (fun n => optI s n hi) (rd x s).1 := rfl
theorem V_mk {z by_ : Nat} {ze : D} {x y : Opd} : evV s (.mk z by_ ze x y) = (match (rd x s).1, (rd y s).1 with
    | .v (.int _ n), .v (.int _ c) => if 0 ≤ n ∧ n ≤ c ∧ by_ * c ≤ 140737488355328 then some (.sl .app z (List.replicate n.toNat ze)) else none
    | _, _ => none) := rfl
theorem O_ap {w : Bool} {by_ : Nat} {x y : Opd} {u : Option Nat} : evOp c u (.ap w z by_ x y) s = (apO w z by_ (rd x s).1 (rd y s).1).map fun d => (d, (rd x s).2) := by
  simp only [evOp]
  generalize (rd x s).1 = d1
  generalize (rd y s).1 = d2
  generalize (rd x s).2 = s2
  unfold apO
  split
  · rename_i e1 e2
    simp only
    split <;> rfl
  · simp only
    split <;> rfl
  · simp only
    split <;> rfl
  · rename_i h1 h2 h3
    split
    · rename_i z1 xs m z' ys; exact (h1 z1 xs m z' ys rfl rfl).elim
    · rename_i z1 xs m z' ys; exact (h2 z1 xs m z' ys rfl rfl).elim
    · rename_i z1 xs m z' ys; exact (h3 z1 xs m z' ys rfl rfl).elim
    · rfl
/-- A call of a closure. -/
def dcO (x : Option (D × List Bx)) (s : S) : Option (D × S) := x.bind fun r => (unsnoc r.2).map fun p => (r.1, (s.wo p.1).wl p.2)
def cvO (c : Caller) (ds : List D) (s0 s : S) : D → Option (D × S)
  | .clo f caps => dcO (c f (ds ++ caps) (s.o ++ [s.l])) s
  | .yld f b => (bx f b s0).bind fun
    | .rcd _ _ rid _ :: _ => dcO (c rid (.yld f b :: ds) (s.o ++ [s.l])) s
    | _ => none
  | _ => none
theorem doCall_dc {f : Nat} {ds : List D} : doCall c f ds s = dcO (c f ds (s.o ++ [s.l])) s := by
  unfold doCall dcO
  cases c f ds (s.o ++ [s.l]) with
  | none => rfl
  | some p =>
    obtain ⟨d, o⟩ := p
    simp only [Option.bind_some]
    cases unsnoc o <;> rfl
theorem O_cv {x : Opd} {as_ : List Opd} {u : Option Nat} : evOp c u (.cv x as_) s = cvO c (rdL as_ s).1 s (rdL as_ s).2 (rd x s).1 := by
  simp only [evOp, doCall_dc]
  generalize (rd x s).1 = d
  cases d with
  | yld f b =>
    simp only [cvO]
    cases bx f b s with
    | none => rfl
    | some ds => cases ds with
      | nil => rfl
      | cons d r => cases d <;> rfl
  | _ => rfl
def cfO : Option (D × S) → Option (D × S)
  | some (.agg cs, s') => some (.agg (cs.map D.dwn1), s')
  | r => r
theorem O_calf {f : Nat} {as_ : List Opd} {u : Option Nat} : evOp c u (.calf f as_) s = cfO (dcO (c f (rdL as_ s).1 ((rdL as_ s).2.o ++ [(rdL as_ s).2.l])) (rdL as_ s).2) := by
  simp only [evOp, doCall_dc, cfO]
  rfl
theorem cf_a {cs : List D} {s' : S} : cfO (some (.agg cs, s')) = some (.agg (cs.map D.dwn1), s') := rfl
theorem dw_v {x : Value} : (D.v x).dwn1 = .v x := rfl
theorem dw_nl : (D.sl .nl z xs).dwn1 = .sl .nl z xs := rfl
theorem dw_ro : (D.sl .ro z xs).dwn1 = .sl .ro z xs := rfl
theorem dw_ap : (D.sl .app z xs).dwn1 = .sl .app z xs := rfl
theorem dw_mu : (D.sl .mu z xs).dwn1 = .sl .app z xs := rfl
theorem dw_lmu : (lst .mu z q xs).dwn1 = lst .app z q xs := by rcases lst_or q xs with ⟨_, _, h⟩ | ⟨_, h⟩ <;> rw [h, h] <;> rfl
theorem dw_lap : (lst .app z q xs).dwn1 = lst .app z q xs := by rcases lst_or q xs with ⟨_, _, h⟩ | ⟨_, h⟩ <;> rw [h] <;> rfl
theorem dw_lro : (lst .ro z q xs).dwn1 = lst .ro z q xs := by rcases lst_or q xs with ⟨_, _, h⟩ | ⟨_, h⟩ <;> rw [h] <;> rfl
theorem dcO_s {x : D × List Bx} : dcO (some x) s = (unsnoc x.2).map fun p => (x.1, (s.wo p.1).wl p.2) := rfl
theorem cvO_c {f : Nat} {caps ds : List D} {s0 : S} : cvO c ds s0 s (.clo f caps) = dcO (c f (ds ++ caps) (s.o ++ [s.l])) s := rfl

def cvY (c : Caller) (f b : Nat) (ds : List D) (s : S) : List D → Option (D × S)
  | .rcd _ _ rid _ :: _ => dcO (c rid (.yld f b :: ds) (s.o ++ [s.l])) s
  | _ => none
theorem cvO_y {f b : Nat} {ds : List D} {s0 : S} : cvO c ds s0 s (.yld f b) = (bx f b s0).bind (cvY c f b ds s) := by
  show (bx f b s0).bind _ = _
  congr 1
theorem cvY_r {f b a a' rid : Nat} {ks : List Nat} {r ds : List D} : cvY c f b ds s (.rcd a a' rid ks :: r) = dcO (c rid (.yld f b :: ds) (s.o ++ [s.l])) s := rfl
theorem len_l : lenO (lst m z q xs) = some (vi xs.length) := by rcases lst_or q xs with ⟨_, h0, h⟩ | ⟨_, h⟩ <;> rw [h] <;> first | (subst h0; rfl) | rfl
theorem len_s : lenO (.sl m z xs) = some (vi xs.length) := rfl
theorem len_r {f b off : Nat} : lenO (.ref f b off n z) = some (vi n) := rfl
theorem ia_l {i : Nat} {k : IntKind} (hm : m ≠ .mu) : iaO z (lst m z q xs) (.v (.int k i)) = (xs[i]?).map fun d => .fptr d.cells 0 := by
  rcases lst_or q xs with ⟨_, h0, h⟩ | ⟨_, h⟩ <;> rw [h]
  · subst h0; simp [iaO]
  · simp [iaO, hm]
theorem ia_ro {i : Nat} {k : IntKind} : iaO z (lst .ro z q xs) (.v (.int k i)) = (xs[i]?).map fun d => .fptr d.cells 0 := ia_l (by simp)
theorem ia_ap {i : Nat} {k : IntKind} : iaO z (lst .app z q xs) (.v (.int k i)) = (xs[i]?).map fun d => .fptr d.cells 0 := ia_l (by simp)
theorem ia_sr {i : Nat} {k : IntKind} : iaO z (.sl .ro z xs) (.v (.int k i)) = (xs[i]?).map fun d => .fptr d.cells 0 := by simp [iaO]
theorem ia_sa {i : Nat} {k : IntKind} : iaO z (.sl .app z xs) (.v (.int k i)) = (xs[i]?).map fun d => .fptr d.cells 0 := by simp [iaO]
theorem ia_r {i : Nat} {k : IntKind} {f b off : Nat} (h : i < n) : iaO z (.ref f b off n z) (.v (.int k i)) = some (.ptr f b (off + i * z)) := by simp [iaO, h]
theorem eqn_l : eqnO false (lst m z q xs) = some (vb (q && xs.isEmpty)) ∨ m = .nl := by
  rcases lst_or q xs with ⟨h1, h0, h⟩ | ⟨h1, h⟩ <;> rw [h]
  · subst h0 h1; exact .inl rfl
  · cases m <;> first | exact .inr rfl | (left; rw [h1]; rfl)
theorem eqn_ro : eqnO false (lst .ro z q xs) = some (vb (q && xs.isEmpty)) := by rcases eqn_l (m := .ro) (z := z) (q := q) (xs := xs) with h | h; · exact h
                                                                                 · cases h
theorem eqn_ap : eqnO false (lst .app z q xs) = some (vb (q && xs.isEmpty)) := by rcases eqn_l (m := .app) (z := z) (q := q) (xs := xs) with h | h; · exact h
                                                                                  · cases h
theorem nen_ro : eqnO true (lst .ro z q xs) = some (vb !(q && xs.isEmpty)) := by
  rcases lst_or q xs with ⟨h1, h0, h⟩ | ⟨h1, h⟩ <;> rw [h]
  · subst h0 h1; rfl
  · rw [h1]; rfl
theorem eqn_n {ne : Bool} : eqnO ne (.sl .nl z xs) = some (vb !ne) := rfl
theorem eqn_sr {ne : Bool} : eqnO ne (.sl .ro z xs) = some (vb ne) := rfl
theorem eqn_sa {ne : Bool} : eqnO ne (.sl .app z xs) = some (vb ne) := rfl
theorem eqn_sm {ne : Bool} : eqnO ne (.sl .mu z xs) = some (vb ne) := rfl
theorem eqn_r {ne : Bool} {f b off : Nat} : eqnO ne (.ref f b off n z) = some (vb ne) := rfl
theorem pk_b {b : Bool} {x y : D} : pkO x y (.v (.bool b)) = some (if b = true then x else y) := rfl
theorem ld_p {n : Option Nat} {f b off : Nat} : ldO n s (.ptr f b off) = (bx f b s).bind fun ds => (pick n ds off).map fun d => d.strip := rfl
theorem ld_f {n : Option Nat} {cs : List D} {off : Nat} : ldO n s (.fptr cs off) = pick n cs off := rfl
theorem bin_i {op : Bop} {k k' : IntKind} {a b : Int} : binO op (.v (.int k a)) (.v (.int k' b)) = if k = k' then (bz op k a b).map .v else none := rfl
section
variable {k : IntKind} {a b : Int}
theorem bz_add : bz .add k a b = some (.int k (k.wrap (a + b))) := rfl
theorem bz_sub : bz .sub k a b = some (.int k (k.wrap (a - b))) := rfl
theorem bz_mul : bz .mul k a b = some (.int k (k.wrap (a * b))) := rfl
theorem bz_eql : bz .eql k a b = some (.bool (a == b)) := rfl
theorem bz_neq : bz .neq k a b = some (.bool (a != b)) := rfl
theorem bz_lss : bz .lss k a b = some (.bool (decide (a < b))) := rfl
theorem bz_leq : bz .leq k a b = some (.bool (decide (a ≤ b))) := rfl
theorem bz_gtr : bz .gtr k a b = some (.bool (decide (a > b))) := rfl
theorem bz_geq : bz .geq k a b = some (.bool (decide (a ≥ b))) := rfl
theorem bz_quo : bz .quo k a b = if b = 0 then none else some (.int k (k.wrap (a.tdiv b))) := rfl
theorem bz_rem : bz .rem k a b = if b = 0 then none else some (.int k (a.tmod b)) := rfl
end
theorem slc_ro {l h : Int} {hi : Int → Option Int} (hh : hi xs.length = some h) : slcO z (some l) hi (lst .ro z q xs) = if 0 ≤ l ∧ l ≤ h ∧ h ≤ xs.length then some (lst .ro z (q && xs.isEmpty) ((xs.take h.toNat).drop l.toNat)) else none := by
  rcases lst_or q xs with ⟨h1, h0, e⟩ | ⟨h1, e⟩ <;> rw [e]
  · subst h0 h1
    simp only [slcO, Option.bind_some, hh, List.isEmpty_nil, or_true, true_and, List.take_nil, List.drop_nil, Bool.and_self, lst_nil]
  · simp only [slcO, Option.bind_some, hh, true_or, true_and, h1, lst_f]
theorem opt_n {i : Int} : optI s i none = some i := rfl
theorem opt_s {i : Int} {x : Opd} : optI s i (some x) = (match (rd x s).1 with
    | .v (.int _ i) => some i
    | _ => none) := rfl
/-- A cut, by where it ends: none: at the end. -/
def hiO (s : S) : Option Opd → Option (Option Int)
  | none => some none
  | some x => match (rd x s).1 with
    | .v (.int _ i) => some (some i)
    | _ => none
theorem hi_n : hiO s none = some none := rfl
theorem hi_s {x : Opd} : hiO s (some x) = (match (rd x s).1 with
    | .v (.int _ i) => some (some i)
    | _ => none) := rfl
def slcQ (z : Nat) (lo : Option Int) (H : Option (Option Int)) (d : D) : Option D := H.bind fun h => slcO z lo (fun n => some (h.getD n)) d
theorem slc_Q {x : Opd} {lo hi : Option Opd} : evV s (.slc z x lo hi) = slcQ z (optI s 0 lo) (hiO s hi) (rd x s).1 := by
  show slcO z (optI s 0 lo) (fun n => optI s n hi) (rd x s).1 = _
  cases hi with
  | none => rfl
  | some y =>
    simp only [slcQ, hi_s, opt_s]
    generalize (rd y s).1 = d
    cases d with
    | v v => cases v with
      | int k i => rfl
      | _ =>
        generalize (rd x s).1 = dx
        cases dx with
        | sl m z' xs => simp only [slcO, Option.bind_none]; cases optI s 0 lo <;> rfl
        | ref f b off n z' => simp only [slcO, Option.bind_none]; cases optI s 0 lo <;> rfl
        | _ => rfl
    | _ =>
      generalize (rd x s).1 = dx
      cases dx with
      | sl m z' xs => simp only [slcO, Option.bind_none]; cases optI s 0 lo <;> rfl
      | ref f b off n z' => simp only [slcO, Option.bind_none]; cases optI s 0 lo <;> rfl
      | _ => rfl
theorem slcq_ro {l : Int} {h : Option Int} : slcQ z (some l) (some h) (lst .ro z q xs) = if 0 ≤ l ∧ l ≤ h.getD xs.length ∧ h.getD xs.length ≤ xs.length then some (lst .ro z (q && xs.isEmpty) ((xs.take (h.getD xs.length).toNat).drop l.toNat)) else none := slc_ro (hi := fun n => some (h.getD n)) rfl
theorem slc_sr {l h : Int} {hi : Int → Option Int} (hh : hi xs.length = some h) : slcO z (some l) hi (.sl .ro z xs) = if 0 ≤ l ∧ l ≤ h ∧ h ≤ xs.length then some (.sl .ro z ((xs.take h.toNat).drop l.toNat)) else none := by
  simp only [slcO, Option.bind_some, hh, true_or, true_and]
theorem ap_gen {w : Bool} {by_ : Nat} (hm : m = .app ∨ m = .mu) (hq : q = true → w = (m == .mu)) : apO w z by_ (lst m z q xs) (lst .ro z q' ys) = if (xs.length + ys.length) * by_ ≤ 140737488355328 then some (lst m z q (xs ++ ys)) else none := by
  rcases lst_or q xs with ⟨h1, h0, e⟩ | ⟨h1, e⟩ <;> rw [e] <;> rcases lst_or q' ys with ⟨g1, g0, f⟩ | ⟨g1, f⟩ <;> rw [f]
  · subst h0 h1 g0 g1; simp [apO, lst]
  · subst h0 h1
    simp only [apO, true_or, true_and, List.length_nil, Nat.zero_add, List.nil_append, ne_eq, reduceCtorEq, not_false_eq_true]
    refine ite_congr rfl (fun _ => ?_) fun _ => rfl
    rw [hq rfl]
    cases ys with
    | nil => rfl
    | cons y r => rw [lst_cons]; rcases hm with rfl | rfl <;> rfl
  · subst g0 g1
    rcases hm with rfl | rfl <;> simp [apO, lst, h1]
  · have h2 : (q && (xs ++ ys).isEmpty) = false := by cases q <;> simp_all
    rcases hm with rfl | rfl <;> simp [apO, lst, h2]
theorem ap_aa {by_ : Nat} : apO false z by_ (lst .app z q xs) (lst .ro z q' ys) = if (xs.length + ys.length) * by_ ≤ 140737488355328 then some (lst .app z q (xs ++ ys)) else none := ap_gen (.inl rfl) fun _ => rfl
theorem ap_mm {by_ : Nat} : apO true z by_ (lst .mu z q xs) (lst .ro z q' ys) = if (xs.length + ys.length) * by_ ≤ 140737488355328 then some (lst .mu z q (xs ++ ys)) else none := ap_gen (.inr rfl) fun _ => rfl
theorem ap_as {by_ : Nat} : apO false z by_ (lst .app z q xs) (.sl .ro z ys) = if (xs.length + ys.length) * by_ ≤ 140737488355328 then some (lst .app z q (xs ++ ys)) else none := by rw [← lst_f (m := .ro)]; exact ap_aa
theorem ap_ms {by_ : Nat} : apO true z by_ (lst .mu z q xs) (.sl .ro z ys) = if (xs.length + ys.length) * by_ ≤ 140737488355328 then some (lst .mu z q (xs ++ ys)) else none := by rw [← lst_f (m := .ro)]; exact ap_mm
theorem ap_sl {w : Bool} {by_ : Nat} : apO w z by_ (.sl .app z xs) (lst .ro z q' ys) = if (xs.length + ys.length) * by_ ≤ 140737488355328 then some (.sl .app z (xs ++ ys)) else none := by
  rw [← lst_f (m := .app), ap_gen (.inl rfl) (fun h => by cases h), lst_f]
theorem ap_ss {w : Bool} {by_ : Nat} : apO w z by_ (.sl .app z xs) (.sl .ro z ys) = if (xs.length + ys.length) * by_ ≤ 140737488355328 then some (.sl .app z (xs ++ ys)) else none := by rw [← lst_f (m := .ro)]; exact ap_sl
theorem ap_sn {w : Bool} {by_ : Nat} : apO w z by_ (.sl .app z xs) (.sl .nl 0 []) = if (xs.length + 0) * by_ ≤ 140737488355328 then some (.sl .app z xs) else none := by simp [apO]
theorem ap_mul {w : Bool} {by_ : Nat} : apO w z by_ (.sl .mu z xs) (lst .ro z q' ys) = if (xs.length + ys.length) * by_ ≤ 140737488355328 then some (.sl .mu z (xs ++ ys)) else none := by
  rw [← lst_f (m := .mu), ap_gen (.inr rfl) (fun h => by cases h), lst_f]
theorem ap_mus {w : Bool} {by_ : Nat} : apO w z by_ (.sl .mu z xs) (.sl .ro z ys) = if (xs.length + ys.length) * by_ ≤ 140737488355328 then some (.sl .mu z (xs ++ ys)) else none := by rw [← lst_f (m := .ro)]; exact ap_mul
theorem ap_nl {by_ : Nat} : apO false z by_ (.sl .nl 0 []) (lst .ro z q' ys) = if (0 + ys.length) * by_ ≤ 140737488355328 then some (lst .app z true ys) else none := by
  rw [← lst_nil (m := .app) (z := z), ap_aa]; rfl
theorem ap_ns {by_ : Nat} : apO false z by_ (.sl .nl 0 []) (.sl .ro z ys) = if (0 + ys.length) * by_ ≤ 140737488355328 then some (lst .app z true ys) else none := by rw [← lst_f (m := .ro)]; exact ap_nl
theorem ap_nlm {by_ : Nat} : apO true z by_ (.sl .nl 0 []) (lst .ro z q' ys) = if (0 + ys.length) * by_ ≤ 140737488355328 then some (lst .mu z true ys) else none := by
  rw [← lst_nil (m := .mu) (z := z), ap_mm]; rfl
theorem ap_nsm {by_ : Nat} : apO true z by_ (.sl .nl 0 []) (.sl .ro z ys) = if (0 + ys.length) * by_ ≤ 140737488355328 then some (lst .mu z true ys) else none := by rw [← lst_f (m := .ro)]; exact ap_nlm
theorem ap_nn {w : Bool} {by_ : Nat} : apO w z by_ (.sl .nl 0 []) (.sl .nl 0 []) = some (.sl .nl 0 []) := by simp [apO]

theorem slcq_sr {l : Int} {h : Option Int} : slcQ z (some l) (some h) (.sl .ro z xs) = if 0 ≤ l ∧ l ≤ h.getD xs.length ∧ h.getD xs.length ≤ xs.length then some (.sl .ro z ((xs.take (h.getD xs.length).toNat).drop l.toNat)) else none := slc_sr (hi := fun n => some (h.getD n)) rfl

/-! ### Draws -/
def Op.plain (p : Op) : Bool := pure1 p && match p with
  | .call _ _ => false
  | _ => true
noncomputable def evDs (c : Caller) : List Stp → S → Option S
  | [], s => some s
  | p :: r, s => (instS c p s).bind fun i => evDs c r (i.ap p.t s)
theorem dr_ds {l : List (Stp × List Nat)} (h : l.all (fun p => p.2.isEmpty) = true) : ∀ {acts : List Ba} {s : S}, evDr c l acts s = evDs c (l.map (·.1)) s := by
  induction l with
  | nil => intro acts s; rfl
  | cons p l ih =>
    intro acts s
    obtain ⟨p, un⟩ := p
    rw [List.all_cons, Bool.and_eq_true] at h
    have hu : un = [] := List.isEmpty_iff.1 h.1
    subst hu
    simp only [evDr, List.map_cons, evDs]
    cases instS c p s with
    | none => rfl
    | some i => simp only [List.all_nil, if_true, Option.bind_some]; exact ih h.2
noncomputable def drS (b : Bool) (c : Caller) (l : List (Stp × List Nat)) (s : S) : Option S := bif b then evDs c (l.map (·.1)) s else evDr c l [] s
theorem drS_t {l : List (Stp × List Nat)} : drS true c l s = evDs c (l.map (·.1)) s := rfl
theorem drS_f {l : List (Stp × List Nat)} : drS false c l s = evDr c l [] s := rfl
theorem drS_e {l : List (Stp × List Nat)} : drS (l.all (fun p => p.2.isEmpty)) c l s = evDr c l [] s := by
  cases h : l.all (fun p => p.2.isEmpty) with
  | true => exact (dr_ds h).symm
  | false => rfl
theorem c_dr {l : List (Stp × List Nat)} : evC c (.dr l) s = rC (drS (l.all (fun p => p.2.isEmpty)) c l s) := by rw [drS_e]; rfl
theorem c_drt {l : List (Stp × List Nat)} {tl : List Stp} : evC c (.drt l tl) s = rC ((drS (l.all (fun p => p.2.isEmpty)) c l s).bind (evOps c tl)) := by rw [drS_e]; rfl
theorem inst_pure {p : Op} {u : Option Nat} (h : pure1 p = true) : (inst c u p s).map (fun i => i.ap u s) = (evV s p).map fun d => putO u d s := by
  have neut : ∀ {p : Op}, p.neut = true → p.ms = none → pure1 p = true → ((if p.neut = true then (evOp c u p s).map fun r => (⟨r.1, p.ms, .no⟩ : Ins) else none).map fun i => i.ap u s) = (evV s p).map fun d => putO u d s := by
    intro p hn hm hp
    rw [if_pos hn, ev_pure hp, Option.map_map, Option.map_map]
    cases evV s p with
    | none => rfl
    | some d => simp only [Option.map_some, Function.comp, Ins.ap, hm, moved, Ba.ap]
  cases p with
  | ld n x =>
    simp only [inst, evV]
    generalize (rd x s).1 = d
    cases d with
    | ptr f b off =>
      simp only
      cases bx f b s with
      | none => rfl
      | some ds =>
        simp only [Option.bind_some]
        cases pick n ds off <;> rfl
    | fptr cs off =>
      simp only
      cases pick n cs off <;> rfl
    | _ => rfl
  | mv x => cases x with
    | m n => cases h
    | _ => exact neut rfl rfl h
  | pk q a b =>
    simp only [pure1, Bool.and_eq_true] at h
    have ha : a.ot = true := by cases a <;> first | rfl | cases h.1
    have hb : b.ot = true := by cases b <;> first | rfl | cases h.2
    exact neut (by simp only [Op.neut, ha, hb]; rfl) rfl (by simp only [pure1, Bool.and_eq_true]; exact h)
  | ext x i => cases x with
    | m n => cases h
    | _ => exact neut rfl rfl h
  | bin _ _ _ | no _ | un _ _ | fa _ _ | ia _ _ _ | len _ | lns _ | mk _ _ _ _ _ | bd _ _ | slc _ _ _ _ | bs _ _ | eqn _ _ | eqs _ _ _ | eqb _ _ _ | eqa _ _ _ _ | sh _ _ _ | ci _ _ | mm _ _ _ | mf _ _ | nck _ => exact neut rfl rfl h
  | _ => cases h
theorem D_nil : evDs c [] s = some s := rfl
noncomputable def kD (b : Bool) (c : Caller) (t : Nat) (p : Op) (s : S) : Option S := if b = true then (evV s p).map fun d => put t d s else (instS c (s_ t p) s).map fun i => i.ap (some t) s
theorem kD_tt {p : Op} : kD true c t p s = (evV s p).map fun d => put t d s := rfl
theorem D_p {p : Op} : evDs c (s_ t p :: r) s = (kD (pure1 p) c t p s).bind (evDs c r) := by
  unfold kD
  split
  · rename_i h
    have := inst_pure (c := c) (s := s) (u := some t) h
    show (inst c (some t) p s).bind (fun i => evDs c r (i.ap (some t) s)) = ((evV s p).map fun d => put t d s).bind (evDs c r)
    rw [show ((evV s p).map fun d => put t d s) = (evV s p).map fun d => putO (some t) d s from rfl, ← this]
    cases inst c (some t) p s <;> rfl
  · show (instS c (s_ t p) s).bind _ = _
    cases instS c (s_ t p) s <;> rfl
theorem D_c {f : Nat} {as_ : List Opd} : evDs c (s_ t (.call f as_) :: r) s = (bif as_.all Opd.ot then ((qv c f (rds s as_)).map fun d => put t d s).bind (evDs c r) else none) := by
  show (inst c (some t) (.call f as_) s).bind (fun i => evDs c r (i.ap (some t) s)) = _
  simp only [inst]
  cases h : as_.all Opd.ot with
  | false => rfl
  | true =>
    simp only [if_true, cond_true]
    cases qv c f (rds s as_) <;> rfl
theorem D_n {m : Nat} {x y : Opd} : evDs c (n_ (.st m x y) :: r) s = ((stO (rd x s).1 (rd y s).1 m (rd y s).2).map fun q => q.2).bind (evDs c r) := by
  show (inst c none (.st m x y) s).bind (fun i => evDs c r (i.ap none s)) = _
  have hb : ∀ f b, bx f b (rd y s).2 = bx f b s := fun f b => by cases y <;> rfl
  simp only [inst]
  generalize hx : (rd x s).1 = d
  cases d with
  | ptr f b off =>
    simp only [stO, hb]
    cases hbx : bx f b s with
    | none => rfl
    | some ds =>
      simp only [Option.bind_some, st2]
      split
      · simp only [Option.bind_some, Option.map_some]
        congr 1
        show moved y.ms ((Ba.wr f b off _).ap s) = _
        simp only [Ba.ap, hbx, Option.getD_some]
        rw [rd_moved, sbx_moved]
      · rfl
  | _ => rfl
def gB (w : Bool) (x : Option S) (t : Nat) (s : S) : Option Bool → Option S
  | some b => if b = w then x else some (put t (.v undef) s)
  | none => some (put t (.v undef) s)
theorem gB_t {x : Option S} : gB true x t s (some true) = x := rfl
theorem gB_f {x : Option S} : gB false x t s (some false) = x := rfl
theorem DG_p {p : Op} {w : Bool} : evDs c (g_ n w t p :: r) s = (bif pure1 p then (gval (get n s.e)).bind fun x => (kG x w c t p s).bind (evDs c r) else ((instS c (g_ n w t p) s).map fun i => i.ap (some t) s).bind (evDs c r)) := by
  cases h : pure1 p with
  | false =>
    show (instS c (g_ n w t p) s).bind _ = _
    simp only [cond_false]
    cases instS c (g_ n w t p) s <;> rfl
  | true =>
    have hp := inst_pure (c := c) (s := s) (u := some t) h
    show (instS c (g_ n w t p) s).bind (fun i => evDs c r (i.ap (some t) s)) = _
    simp only [cond_true, instS, g_]
    generalize get n s.e = d
    cases d with
    | v x => cases x with
      | bool b =>
        show _ = (kG (some b) w c t p s).bind _
        rw [kG_b]
        unfold gdv
        by_cases hb : b = w
        · simp only [if_pos hb]
          rw [show ((evV s p).map fun d => put t d s) = (evV s p).map fun d => putO (some t) d s from rfl, ← hp]
          cases inst c (some t) p s <;> rfl
        · simp only [if_neg hb]; rfl
      | _ => rfl
    | _ => rfl
noncomputable def kQ (x : Option Bool) (w : Bool) (c : Caller) (t f : Nat) (as_ : List Opd) (s : S) : Option S := match x with
  | some b => (gdv b w (qv c f (rds s as_))).map fun d => put t d s
  | none => some (put t (.v undef) s)
theorem kQ_b {b w : Bool} {f : Nat} {as_ : List Opd} : kQ (some b) w c t f as_ s = (gdv b w (qv c f (rds s as_))).map fun d => put t d s := rfl
theorem kQ_n {w : Bool} {f : Nat} {as_ : List Opd} : kQ none w c t f as_ s = some (put t (.v undef) s) := rfl
theorem DG_c {f : Nat} {as_ : List Opd} {w : Bool} : evDs c (g_ n w t (.call f as_) :: r) s = (bif as_.all Opd.ot then (gval (get n s.e)).bind fun x => (kQ x w c t f as_ s).bind (evDs c r) else ((instS c (g_ n w t (.call f as_)) s).map fun i => i.ap (some t) s).bind (evDs c r)) := by
  cases h : as_.all Opd.ot with
  | false =>
    show (instS c (g_ n w t (.call f as_)) s).bind _ = _
    simp only [cond_false]
    cases instS c (g_ n w t (.call f as_)) s <;> rfl
  | true =>
    show (instS c (g_ n w t (.call f as_)) s).bind (fun i => evDs c r (i.ap (some t) s)) = _
    simp only [cond_true, instS, g_]
    generalize get n s.e = d
    cases d with
    | v x => cases x with
      | bool b =>
        show _ = (kQ (some b) w c t f as_ s).bind _
        rw [kQ_b]
        unfold gdv
        by_cases hb : b = w
        · simp only [if_pos hb, inst, h, if_true]
          cases qv c f (rds s as_) <;> rfl
        · simp only [if_neg hb]; rfl
      | _ => rfl
    | _ => rfl
/-- A draw of which some are to leave each other alone. -/
def instA (s : S) : Op → Ba
  | .ld _ x => match (rd x s).1 with
    | .ptr f b _ => .rd f b
    | _ => .no
  | _ => .no
theorem E_nil {acts : List Ba} : evDr c [] acts s = some s := rfl
theorem E_cons {p : Stp} {un : List Nat} {acts : List Ba} {r : List (Stp × List Nat)} : evDr c ((p, un) :: r) acts s = (instS c p s).bind fun i => if un.all (fun m => (acts.getD m .no).co s.o.length i.a) = true then evDr c r (acts ++ [i.a]) (i.ap p.t s) else none := by
  simp only [evDr]
  cases instS c p s <;> rfl
theorem inst_A {p : Op} {u : Option Nat} (h : pure1 p = true) : inst c u p s = (evV s p).map fun d => ⟨d, none, instA s p⟩ := by
  have neut : ∀ {p : Op}, p.neut = true → p.ms = none → pure1 p = true → instA s p = .no → (if p.neut = true then (evOp c u p s).map fun r => (⟨r.1, p.ms, .no⟩ : Ins) else none) = (evV s p).map fun d => ⟨d, none, instA s p⟩ := by
    intro p hn hm hp ha
    rw [if_pos hn, ev_pure hp, Option.map_map, ha, hm]; rfl
  cases p with
  | ld n x =>
    simp only [inst, evV, instA]
    generalize (rd x s).1 = d
    cases d with
    | ptr f b off =>
      simp only
      cases bx f b s with
      | none => rfl
      | some ds => simp only [Option.bind_some]; rw [Option.map_map]; rfl
    | _ => rfl
  | mv x => cases x with
    | m n => cases h
    | _ => exact neut rfl rfl h rfl
  | pk q a b =>
    simp only [pure1, Bool.and_eq_true] at h
    have ha : a.ot = true := by cases a <;> first | rfl | cases h.1
    have hb : b.ot = true := by cases b <;> first | rfl | cases h.2
    exact neut (by simp only [Op.neut, ha, hb]; rfl) rfl (by simp only [pure1, Bool.and_eq_true]; exact h) rfl
  | ext x i => cases x with
    | m n => cases h
    | _ => exact neut rfl rfl h rfl
  | bin _ _ _ | no _ | un _ _ | fa _ _ | ia _ _ _ | len _ | lns _ | mk _ _ _ _ _ | bd _ _ | slc _ _ _ _ | bs _ _ | eqn _ _ | eqs _ _ _ | eqb _ _ _ | eqa _ _ _ _ | sh _ _ _ | ci _ _ | mm _ _ _ | mf _ _ | nck _ => exact neut rfl rfl h rfl
  | _ => cases h
theorem instA_ap {p : Op} : (instA s p).ap s = s := by
  unfold instA
  split
  · split <;> rfl
  · rfl
noncomputable def kE (c : Caller) (r : List (Stp × List Nat)) (acts : List Ba) (un : List Nat) (a : Ba) (t : Nat) (s : S) (d : D) : Option S := if un.all (fun m => (acts.getD m .no).co s.o.length a) = true then evDr c r (acts ++ [a]) (put t d s) else none
theorem kE_n {a : Ba} {acts : List Ba} {r : List (Stp × List Nat)} : kE c r acts [] a t s d = evDr c r (acts ++ [a]) (put t d s) := rfl
theorem E_p {p : Op} {un : List Nat} {acts : List Ba} {r : List (Stp × List Nat)} (h : pure1 p = true) : evDr c ((s_ t p, un) :: r) acts s = (evV s p).bind (kE c r acts un (instA s p) t s) := by
  rw [E_cons, show instS c (s_ t p) s = inst c (some t) p s from rfl, inst_A h]
  cases evV s p with
  | none => rfl
  | some d =>
    simp only [Option.map_some, Option.bind_some, Ins.ap, instA_ap, moved]
    rfl
noncomputable def kN (c : Caller) (r : List (Stp × List Nat)) (acts : List Ba) (un : List Nat) (a : Ba) (s : S) (q : D × S) : Option S := if un.all (fun m => (acts.getD m .no).co s.o.length a) = true then evDr c r (acts ++ [a]) q.2 else none
theorem kN_n {a : Ba} {acts : List Ba} {r : List (Stp × List Nat)} {q : D × S} : kN c r acts [] a s q = evDr c r (acts ++ [a]) q.2 := rfl
theorem E_n {m : Nat} {x y : Opd} {un : List Nat} {acts : List Ba} {r : List (Stp × List Nat)} {f b off : Nat} (hx : (rd x s).1 = .ptr f b off) : evDr c ((n_ (.st m x y), un) :: r) acts s = (stO (rd x s).1 (rd y s).1 m (rd y s).2).bind (kN c r acts un (.wr f b off (rd y s).1.cells) s) := by
  rw [E_cons]
  have hb : ∀ f b, bx f b (rd y s).2 = bx f b s := fun f b => by cases y <;> rfl
  show (inst c none (.st m x y) s).bind _ = _
  simp only [inst, hx, stO, hb]
  cases hbx : bx f b s with
  | none => rfl
  | some ds =>
    simp only [Option.bind_some, st2]
    split
    · simp only [Option.bind_some, kN]
      refine ite_congr rfl (fun _ => ?_) fun _ => rfl
      congr 1
      show moved y.ms ((Ba.wr f b off _).ap s) = _
      simp only [Ba.ap, hbx, Option.getD_some]
      rw [rd_moved, sbx_moved]
    · rfl
noncomputable def kM (c : Caller) (r : List (Stp × List Nat)) (acts : List Ba) (un : List Nat) (ds : List D) (s : S) (x : Option (D × S)) : D → Option S
  | .ptr f b off => x.bind (kN c r acts un (.wr f b off ds) s)
  | _ => none
theorem E_m {m : Nat} {x y : Opd} {un : List Nat} {acts : List Ba} {r : List (Stp × List Nat)} : evDr c ((n_ (.st m x y), un) :: r) acts s = kM c r acts un (rd y s).1.cells s (stO (rd x s).1 (rd y s).1 m (rd y s).2) (rd x s).1 := by
  cases hx : (rd x s).1 with
  | ptr f b off => rw [E_n hx, hx]; rfl
  | _ =>
    rw [E_cons]
    show (inst c none (.st m x y) s).bind _ = _
    simp only [inst, hx]
    rfl
theorem kM_p {acts : List Ba} {r : List (Stp × List Nat)} {un : List Nat} {ds : List D} {x : Option (D × S)} {f b off : Nat} : kM c r acts un ds s x (.ptr f b off) = x.bind (kN c r acts un (.wr f b off ds) s) := rfl
theorem kE_c {a : Ba} {acts : List Ba} {r : List (Stp × List Nat)} {m : Nat} {un : List Nat} : kE c r acts (m :: un) a t s d = if ((acts[m]?).getD .no).co s.o.length a = true then kE c r acts un a t s d else none := by
  simp only [kE, List.all_cons, List.getD_eq_getElem?_getD]
  cases (acts[m]?.getD Ba.no).co s.o.length a <;> rfl
theorem kN_c {a : Ba} {acts : List Ba} {r : List (Stp × List Nat)} {m : Nat} {un : List Nat} {q : D × S} : kN c r acts (m :: un) a s q = if ((acts[m]?).getD .no).co s.o.length a = true then kN c r acts un a s q else none := by
  simp only [kN, List.all_cons, List.getD_eq_getElem?_getD]
  cases (acts[m]?.getD Ba.no).co s.o.length a <;> rfl
theorem E_al {z : List Value} {un : List Nat} {acts : List Ba} {r : List (Stp × List Nat)} (h : lk t s.l = none) : evDr c ((s_ t (.al z), un) :: r) acts s = kE c r acts un (.al t (z.map zc)) t (s.wl (ins t (z.map zc) s.l)) (.ptr s.o.length t 0) := by
  rw [E_cons]
  show (inst c (some t) (.al z) s).bind _ = _
  simp only [inst, h, Option.bind_some]
  rfl
noncomputable def kEb (b : Bool) (c : Caller) (r : List (Stp × List Nat)) (acts : List Ba) (un : List Nat) (t : Nat) (p : Op) (s : S) : Option S := if b = true then (evV s p).bind (kE c r acts un (instA s p) t s) else evDr c ((s_ t p, un) :: r) acts s
theorem kEb_tt {p : Op} {un : List Nat} {acts : List Ba} {r : List (Stp × List Nat)} : kEb true c r acts un t p s = (evV s p).bind (kE c r acts un (instA s p) t s) := rfl
theorem E_b {p : Op} {un : List Nat} {acts : List Ba} {r : List (Stp × List Nat)} : evDr c ((s_ t p, un) :: r) acts s = kEb (pure1 p) c r acts un t p s := by
  unfold kEb
  split
  · rename_i h; exact E_p h
  · rfl
noncomputable def kA (x : Option (List D)) (c : Caller) (r : List (Stp × List Nat)) (acts : List Ba) (un : List Nat) (t : Nat) (z : List Value) (s : S) : Option S := match x with
  | none => kE c r acts un (.al t (z.map zc)) t (s.wl (ins t (z.map zc) s.l)) (.ptr s.o.length t 0)
  | some _ => none
theorem kA_n {z : List Value} {un : List Nat} {acts : List Ba} {r : List (Stp × List Nat)} : kA none c r acts un t z s = kE c r acts un (.al t (z.map zc)) t (s.wl (ins t (z.map zc) s.l)) (.ptr s.o.length t 0) := rfl
theorem E_a {z : List Value} {un : List Nat} {acts : List Ba} {r : List (Stp × List Nat)} : evDr c ((s_ t (.al z), un) :: r) acts s = kA (lk t s.l) c r acts un t z s := by
  cases h : lk t s.l with
  | none => exact E_al h
  | some ds =>
    rw [E_cons]
    show (inst c (some t) (.al z) s).bind _ = _
    simp only [inst, h]
    rfl

/-- Calls, among those that are drawn. -/
theorem dwnA_agg {cs : List D} : dwnA (.agg cs) = .agg (cs.map D.dwn1) := rfl
theorem D_cf {f : Nat} {as_ : List Opd} : evDs c (s_ t (.calf f as_) :: r) s = (bif as_.all Opd.ot then ((qv c f (rds s as_)).map fun d => put t (dwnA d) s).bind (evDs c r) else none) := by
  show (inst c (some t) (.calf f as_) s).bind (fun i => evDs c r (i.ap (some t) s)) = _
  simp only [inst]
  cases h : as_.all Opd.ot with
  | false => rfl
  | true =>
    simp only [if_true, cond_true]
    cases qv c f (rds s as_) <;> rfl
noncomputable def gD (w : Bool) (x : Option S) (t : Nat) (s : S) (y : Option Bool) : Option S := match y with
  | some b => if b = w then x else some (put t (.v undef) s)
  | none => some (put t (.v undef) s)
theorem gD_tt {x : Option S} : gD true x t s (some true) = x := rfl
theorem gD_ff {x : Option S} : gD false x t s (some false) = x := rfl
theorem gD_tf {x : Option S} : gD true x t s (some false) = some (put t (.v undef) s) := rfl
theorem gD_ft {x : Option S} : gD false x t s (some true) = some (put t (.v undef) s) := rfl
theorem gD_n {w : Bool} {x : Option S} : gD w x t s none = some (put t (.v undef) s) := rfl
theorem DG_cf {f : Nat} {as_ : List Opd} {w : Bool} : evDs c (g_ n w t (.calf f as_) :: r) s = (gval (get n s.e)).bind fun y => (gD w (bif as_.all Opd.ot then (qv c f (rds s as_)).map fun d => put t (dwnA d) s else none) t s y).bind (evDs c r) := by
  show (instS c (g_ n w t (.calf f as_)) s).bind (fun i => evDs c r (i.ap (some t) s)) = _
  simp only [instS, g_, inst]
  generalize get n s.e = d
  cases d with
  | v x => cases x with
    | bool b =>
      show _ = (gD w _ t s (some b)).bind _
      simp only [gD]
      by_cases hb : b = w
      · simp only [if_pos hb]
        cases h : as_.all Opd.ot with
        | false => rfl
        | true =>
          simp only [if_true, cond_true]
          cases qv c f (rds s as_) <;> rfl
      · simp only [if_neg hb]; rfl
    | _ => rfl
  | _ => rfl
theorem E_c {f : Nat} {as_ : List Opd} {un : List Nat} {acts : List Ba} {r : List (Stp × List Nat)} : evDr c ((s_ t (.call f as_), un) :: r) acts s = (bif as_.all Opd.ot then (qv c f (rds s as_)).bind (kE c r acts un .no t s) else none) := by
  rw [E_cons]
  show (inst c (some t) (.call f as_) s).bind _ = _
  simp only [inst]
  cases h : as_.all Opd.ot with
  | false => rfl
  | true =>
    simp only [if_true, cond_true]
    cases qv c f (rds s as_) <;> rfl
theorem E_cf {f : Nat} {as_ : List Opd} {un : List Nat} {acts : List Ba} {r : List (Stp × List Nat)} : evDr c ((s_ t (.calf f as_), un) :: r) acts s = (bif as_.all Opd.ot then (qv c f (rds s as_)).bind fun d => kE c r acts un .no t s (dwnA d) else none) := by
  rw [E_cons]
  show (inst c (some t) (.calf f as_) s).bind _ = _
  simp only [inst]
  cases h : as_.all Opd.ot with
  | false => rfl
  | true =>
    simp only [if_true, cond_true]
    cases qv c f (rds s as_) <;> rfl
noncomputable def kEG (x : Option Bool) (w : Bool) (c : Caller) (t : Nat) (p : Op) (un : List Nat) (r : List (Stp × List Nat)) (acts : List Ba) (s : S) : Option S := match x with
  | some b => if b = w then evDr c ((s_ t p, un) :: r) acts s else kE c r acts un .no t s (.v undef)
  | none => kE c r acts un .no t s (.v undef)
section
variable {p : Op} {un : List Nat} {acts : List Ba} {r : List (Stp × List Nat)}
theorem kEG_tt : kEG (some true) true c t p un r acts s = evDr c ((s_ t p, un) :: r) acts s := rfl
theorem kEG_ff : kEG (some false) false c t p un r acts s = evDr c ((s_ t p, un) :: r) acts s := rfl
theorem kEG_tf : kEG (some false) true c t p un r acts s = kE c r acts un .no t s (.v undef) := rfl
theorem kEG_ft : kEG (some true) false c t p un r acts s = kE c r acts un .no t s (.v undef) := rfl
theorem kEG_n {w : Bool} : kEG none w c t p un r acts s = kE c r acts un .no t s (.v undef) := rfl
theorem EG {w : Bool} : evDr c ((g_ n w t p, un) :: r) acts s = (gval (get n s.e)).bind fun x => kEG x w c t p un r acts s := by
  rw [E_cons]
  simp only [instS, g_]
  generalize hd : get n s.e = d
  cases d with
  | v x => cases x with
    | bool b =>
      show _ = kEG (some b) w c t p un r acts s
      simp only [kEG, E_cons]
      by_cases hb : b = w
      · simp only [if_pos hb]; rfl
      · simp only [if_neg hb]; rfl
    | _ => rfl
  | _ => rfl
end
/-- A step under a guard, in order. -/
noncomputable def kGF (x : Option Bool) (w : Bool) (c : Caller) (t : Nat) (p : Op) (r : List Stp) (s : S) : Option S := match x with
  | some b => if b = w then evOps c (s_ t p :: r) s else evOps c r (put t (.v undef) s)
  | none => evOps c r (put t (.v undef) s)
section
variable {p : Op} {r : List Stp}
theorem kGF_tt : kGF (some true) true c t p r s = evOps c (s_ t p :: r) s := rfl
theorem kGF_ff : kGF (some false) false c t p r s = evOps c (s_ t p :: r) s := rfl
theorem kGF_tf : kGF (some false) true c t p r s = evOps c r (put t (.v undef) s) := rfl
theorem kGF_ft : kGF (some true) false c t p r s = evOps c r (put t (.v undef) s) := rfl
theorem kGF_n {w : Bool} : kGF none w c t p r s = evOps c r (put t (.v undef) s) := rfl
theorem G_o {w : Bool} : evOps c (g_ n w t p :: r) s = (gval (get n s.e)).bind fun x => kGF x w c t p r s := by
  show (evStp c (g_ n w t p) s).bind (evOps c r) = _
  simp only [evStp, g_]
  generalize hd : get n s.e = d
  cases d with
  | v x => cases x with
    | bool b =>
      show _ = kGF (some b) w c t p r s
      simp only [kGF]
      by_cases hb : b = w
      · simp only [if_pos hb]; rfl
      · simp only [if_neg hb]; rfl
    | _ => rfl
  | _ => rfl
theorem G_cf {w : Bool} {f : Nat} {xs : List Opd} : evOps c (g_ n w t (.calf f xs) :: r) s = (gval (get n s.e)).bind fun x => kGF x w c t (.calf f xs) r s := G_o
theorem G_cv {w : Bool} {x : Opd} {xs : List Opd} : evOps c (g_ n w t (.cv x xs) :: r) s = (gval (get n s.e)).bind fun y => kGF y w c t (.cv x xs) r s := G_o
end
/-- Steps that move, among those that are drawn. -/
theorem inst_ap {w : Bool} {by_ : Nat} {x y : Opd} {u : Option Nat} : inst c u (.ap w z by_ x y) s = (apO w z by_ (rd x s).1 (rd y s).1).map fun d => ⟨d, x.ms, .no⟩ := by
  show (if (Op.ap w z by_ x y).neut = true then (evOp c u (.ap w z by_ x y) s).map fun r => (⟨r.1, (Op.ap w z by_ x y).ms, .no⟩ : Ins) else none) = _
  rw [if_pos (show (Op.ap w z by_ x y).neut = true from rfl), O_ap, Option.map_map]; rfl
theorem inst_mm {m : Nat} {u : Option Nat} : inst c u (.mv (.m m)) s = some ⟨get m s.e, some m, .no⟩ := rfl
theorem D_ap {w : Bool} {by_ : Nat} {x y : Opd} : evDs c (s_ t (.ap w z by_ x y) :: r) s = ((apO w z by_ (rd x s).1 (rd y s).1).map fun d => put t d (rd x s).2).bind (evDs c r) := by
  show (inst c (some t) (.ap w z by_ x y) s).bind (fun i => evDs c r (i.ap (some t) s)) = _
  rw [inst_ap]
  cases apO w z by_ (rd x s).1 (rd y s).1 with
  | none => rfl
  | some d =>
    simp only [Option.map_some, Option.bind_some, Ins.ap, Ba.ap]
    rw [rd_moved]; rfl
theorem D_mm {m : Nat} : evDs c (s_ t (.mv (.m m)) :: r) s = evDs c r (put t (get m s.e) (put m (get m s.e).strip s)) := rfl
theorem D_al {z : List Value} : evDs c (s_ t (.al z) :: r) s = ((alO (lk t s.l) t z s).map fun q => put t q.1 q.2).bind (evDs c r) := by
  show (inst c (some t) (.al z) s).bind (fun i => evDs c r (i.ap (some t) s)) = _
  simp only [inst]
  cases h : lk t s.l with
  | none => rfl
  | some ds => rfl
theorem D_ldm {n : Option Nat} {x : Opd} : evDs c (s_ t (.ldm n x) :: r) s = ((ldmO (rd x s).1 n s).map fun q => put t q.1 q.2).bind (evDs c r) := by
  show (inst c (some t) (.ldm n x) s).bind (fun i => evDs c r (i.ap (some t) s)) = _
  simp only [inst]
  generalize (rd x s).1 = d
  cases d with
  | ptr f b off =>
    simp only [ldmO]
    cases hb : bx f b s with
    | none => rfl
    | some ds =>
      simp only [Option.bind_some, ldm2]
      cases pick n ds off with
      | none => rfl
      | some d =>
        simp only [Option.map_some, Option.bind_some, Ins.ap, moved, Ba.ap, hb, Option.getD_some]
        rfl
  | _ => rfl
theorem kE_s {acts : List Ba} {r : List (Stp × List Nat)} {un : List Nat} {s' : S} (h : s'.o.length = s.o.length) : kE c r acts un .no t s' d = if un.all (fun m => (acts.getD m .no).co s.o.length .no) = true then evDr c r (acts ++ [.no]) (put t d s') else none := by unfold kE; rw [h]
theorem E_ap {w : Bool} {by_ : Nat} {x y : Opd} {un : List Nat} {acts : List Ba} {r : List (Stp × List Nat)} : evDr c ((s_ t (.ap w z by_ x y), un) :: r) acts s = (apO w z by_ (rd x s).1 (rd y s).1).bind (kE c r acts un .no t (rd x s).2) := by
  rw [E_cons, show instS c (s_ t (.ap w z by_ x y)) s = inst c (some t) (.ap w z by_ x y) s from rfl, inst_ap]
  cases apO w z by_ (rd x s).1 (rd y s).1 with
  | none => rfl
  | some d =>
    have ho : (rd x s).2.o.length = s.o.length := by cases x <;> rfl
    simp only [Option.map_some, Option.bind_some, kE_s ho, Ins.ap, Ba.ap]
    rw [rd_moved]; rfl
theorem E_mm {m : Nat} {un : List Nat} {acts : List Ba} {r : List (Stp × List Nat)} : evDr c ((s_ t (.mv (.m m)), un) :: r) acts s = kE c r acts un .no t (put m (get m s.e).strip s) (get m s.e) := by
  rw [E_cons, show instS c (s_ t (.mv (.m m))) s = some ⟨get m s.e, some m, .no⟩ from rfl]
  rfl

theorem rds_nil : rds s [] = [] := rfl
theorem rds_cons {x : Opd} {r : List Opd} : rds s (x :: r) = (rd x s).1 :: rds s r := rfl
theorem mnm_n {mx : Bool} {k : IntKind} {a : Int} : mnm mx k a s [] = some a := rfl
theorem mnm_c {mx : Bool} {k : IntKind} {a : Int} {x : Opd} {r : List Opd} : mnm mx k a s (x :: r) = (match (rd x s).1 with
    | .v (.int _ b) => mnm mx k (if mx then (if b > a then b else a) else (if b < a then b else a)) s r
    | _ => none) := rfl
theorem lay_n {cs : List D} : lay s cs [] = some cs := rfl
theorem lay_c {cs : List D} {off sz : Nat} {x : Opd} {r : List (Nat × Nat × Opd)} : lay s cs ((off, sz, x) :: r) = if (rd x s).1.cells.length = sz ∧ off + sz ≤ cs.length ∧ (rd x s).1.cells.all D.sto1 = true ∧ (rd x s).1.cells.all (fun d => d.strip1.sto1) = true then lay s (over cs off ((rd x s).1.cells.map D.strip1)) r else none := rfl
theorem c_gs {l : List Gc} {a : Cd} : evC c (.gs l a) s = (evG l s).bind (evC c a) := by
  show (match evG l s with | some s => _ | none => _) = _
  cases evG l s <;> rfl
theorem G_nil : evG [] s = some s := rfl
theorem G_cons {p : Gc} {l : List Gc} : evG (p :: l) s = (evG1 p s).bind (evG l) := rfl
theorem G_fz {id : Nat} : evG1 (.fz id) s = (match lk id s.l with
    | some cs => if cs.all D.rf1 = true then some ⟨frzE s.o.length [(id, cs)] s.e, frzL s.o.length [(id, cs)] (rmL id s.l), s.o⟩ else none
    | none => some s) := rfl
theorem G_dg {b i : Nat} : evG1 (.dg b i) s = (match lk b s.l with
    | some ds => match ds[i]? with
      | some (.sl .mu z xs) => some (s.wl (sb b (ds.set i (.sl .app z xs)) s.l))
      | some _ => some s
      | none => none
    | none => none) := rfl
theorem G_th {b i id : Nat} : evG1 (.th b i id) s = (match lk b s.l with
    | some ds => match ds[i]? with
      | some (.sl .mu z xs) => if (lk id s.l).isNone = true ∧ xs.all (fun d => d.cells.all D.rf1) = true then some (s.wl (ins id (xs.flatMap D.cells) (sb b (ds.set i (.ref s.o.length id 0 xs.length z)) s.l))) else none
      | some _ => some s
      | none => none
    | none => none) := rfl
end
section
variable {c : Caller} {s : S} {n : Nat} {e : Env} {l : Bx} {o : List Bx}
theorem lp_c {ks bs : List Nat} {a : Cd} : evC c (.lp ks bs a) s = qC (rC (carry ks bs s)) fun s1 => qC (evC c a s1) (evC c (.lp ks bs a)) := by
  rw [evC_lp]
  cases carry ks bs s with
  | none => rfl
  | some s1 =>
    show _ = qC (evC c a s1) _
    simp only [qC]
    cases evC c a s1 with
    | none => rfl
    | some p =>
      obtain ⟨x, s2⟩ := p
      cases x <;> rfl
theorem lp_n {L : Cd} {ks bs : List Nat} {a : Cd} (h : L = .lp ks bs a) : evC c L s = qC (rC (carry ks bs s)) fun s1 => qC (evC c a s1) (evC c L) := by subst h; exact lp_c
theorem obnd_ite {α β : Type} {p : Prop} [Decidable p] {x : Option α} {k : α → Option β} : (if p then x else none).bind k = if p then x.bind k else none := by split <;> rfl
end
theorem dlt_self {n : Nat} : decide (n < n) = false := by simp
theorem dlt_succ {n : Nat} : decide (n < n + 1) = true := by simp
theorem ne_succ {n : Nat} : (n = n + 1) = False := by simp
theorem md_last {α : Type} {l : List α} {x : α} {f : α → α} : (l ++ [x]).modify l.length f = l ++ [f x] := by
  induction l with
  | nil => rfl
  | cons y r ih => simp [List.modify_succ_cons, ih]
theorem wi64 {n : Int} (h : -9223372036854775808 ≤ n ∧ n ≤ 9223372036854775807) : IntKind.i64.wrap n = n := by
  simp [IntKind.wrap, IntKind.bits, IntKind.signed]; omega
theorem wu32 {n : Int} (h : 0 ≤ n ∧ n < 4294967296) : IntKind.u32.wrap n = n := by
  simp [IntKind.wrap, IntKind.bits, IntKind.signed]; omega
theorem wu64 {n : Int} (h : 0 ≤ n ∧ n < 18446744073709551616) : IntKind.u64.wrap n = n := by
  simp [IntKind.wrap, IntKind.bits, IntKind.signed]; omega
theorem wu8 {n : Int} (h : 0 ≤ n ∧ n < 256) : IntKind.u8.wrap n = n := by
  simp [IntKind.wrap, IntKind.bits, IntKind.signed]; omega
theorem tdiv0 {a b : Int} (h : 0 ≤ a) : a.tdiv b = a / b := Int.tdiv_eq_ediv_of_nonneg h
theorem tmod0 {a b : Int} (h : 0 ≤ a) : a.tmod b = a % b := Int.tmod_eq_emod_of_nonneg h
attribute [go_sem] lst_nil lst_f lst_cons st_lro s2_lro s1_lro st_lap s2_lap s1_lap l_cells l_tup l_agg l_bnd1 l_bnd2 l_sto l_rf l_in1 l_in2 l_inn l_fzP l_fz1 l_fz2 l_fz3 l_cap V_mv V_pk V_ld V_bin V_no V_fa V_ia V_ext V_len V_lns V_un V_eqn V_eqs V_eqb V_eqa V_sh V_ci V_nck V_bs V_bd V_mf V_mm slc_Q V_mk O_ap O_cv O_calf cf_a dw_v dw_nl dw_ro dw_ap dw_mu dw_lmu dw_lap dw_lro dcO_s cvO_c cvO_y cvY_r len_l len_s len_r ia_ro ia_ap ia_sr ia_sa eqn_ro eqn_ap nen_ro hi_n hi_s slcq_ro slcq_sr Option.getD_some Option.getD_none ap_aa ap_mm ap_as ap_ms ap_sl ap_ss ap_sn ap_mul ap_mus ap_nl ap_ns ap_nlm ap_nsm ap_nn c_dr c_drt D_nil D_p D_n DG_p kD_tt kQ_b kQ_n E_nil kE_n kN_n kE_c kN_c kM_p E_m Option.getD_some Option.getD_none Ba.co Ba.loc Ba.w rds_nil rds_cons opt_n opt_s mnm_n mnm_c lay_n lay_c c_gs G_nil G_cons
attribute [go_sem] E_b kEb_tt kA_n
attribute [go_sem] kGF_tt kGF_ff kGF_tf kGF_ft kGF_n G_cf G_cv gD_tt gD_ff gD_tf gD_ft gD_n kEG_tt kEG_ff kEG_tf kEG_ft kEG_n drS_t drS_f dwnA_agg EG
attribute [go_sem] D_cf DG_cf E_c E_cf D_c DG_c E_a D_ap D_mm D_al D_ldm E_ap E_mm
attribute [go_sem] bz_add bz_sub bz_mul bz_eql bz_neq bz_lss bz_leq bz_gtr bz_geq bz_quo bz_rem
attribute [go_sem] eqn_n eqn_sr eqn_sa eqn_sm eqn_r pk_b ld_p ld_f bin_i
attribute [go_sem] dlt_self dlt_succ ne_succ md_last List.getElem?_concat_length List.contains_cons List.contains_nil beq_self_eq_true
attribute [go_sem] s1_lmu s2_lmu st_lmu mu_cells mu_tup mu_s1 mu_s2 mu_st mu_in1 mu_bnd1 s1_smu s2_smu st_smu s2_u decide_true decide_false
attribute [go_sem] instA Opd.ot List.isEmpty_nil List.isEmpty_cons
end Go.Proofs.Ytlhjdikklmkihaa.Ev
