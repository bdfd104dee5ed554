/- The law FilesendEnds, as it is given: it returns true whatever it is given, and leaves it as it was. Conditions: none. -/
import Derived.Test.YtlhjdikklmkihaaIa21
import Derived.Test.YtlhjdikklmkihaaFt21
import Derived.Test.YtlhjdikklmkihaaUn
import Derived.Test.YtlhjdikklmkihaaRows
import Derived.KernelRfl
set_option linter.all false
namespace Go.Proofs.Ytlhjdikklmkihaa.Ev.U
open Go
theorem l54x0 (a : List Int) (b c e : Int) : ∀ k i d, i + k = 8 -> ∃ d', lpU g54x0 (a, b, c, d, e, ((i : Nat) : Int)) = some (a, b, c, d', e)
 | 0, i, d, hi => by
  have hd : decide (((i : Nat) : Int) < 8) = false := decide_eq_false (by omega)
  exact ⟨d, by rw [lp_end (x := (a, b, c, d, e)) (by simp only [g54x0, hd, Bool.false_eq_true, if_false])]⟩
 | k + 1, i, d, hi => by
  have hd : decide (((i : Nat) : Int) < 8) = true := decide_eq_true (by omega)
  by_cases hc : (d.tmod 2 == 1) = true
  ·rw [lp_next (s' := (a, b, c, (xorI .u64 (IntKind.u64.wrap ((IntKind.u64.wrap (d - 1)).tdiv 2)) c), e, ((i + 1 : Nat) : Int))) (by simp only [g54x0, hd, if_true, hc, wnext (show i < 1000000000000 by omega)])]
   exact l54x0 a b c e k (i + 1) _ (by omega)
  ·rw [lp_next (s' := (a, b, c, (IntKind.u64.wrap (d.tdiv 2)), e, ((i + 1 : Nat) : Int))) (by simp only [g54x0, hd, if_true, if_neg hc, wnext (show i < 1000000000000 by omega)])]
   exact l54x0 a b c e k (i + 1) _ (by omega)
theorem l54x1 (a : List Int) (b c : Int) (hl : a.length <= 5000) : ∀ k i d, i + k = a.length -> ∃ d', lpU g54x1 (a, b, c, d, ((i : Nat) : Int)) = some (b, d')
 | 0, i, d, hi => by
  have hd : decide (((i : Nat) : Int) < (a.length : Int)) = false := decide_eq_false (by omega)
  exact ⟨d, by rw [lp_end (x := (b, d)) (by simp only [g54x1, hd, Bool.false_eq_true, if_false])]⟩
 | k + 1, i, d, hi => by
  have hd : decide (((i : Nat) : Int) < (a.length : Int)) = true := decide_eq_true (by omega)
  have h1 : i < a.length := by omega
  obtain ⟨d', h⟩ := l54x0 a b c (i : Int) 8 0 (xorI .u64 d (IntKind.u64.wrap a[i])) rfl
  rw [lp_next (s' := (a, b, c, d', ((i + 1 : Nat) : Int))) (by
   simp only [g54x1, hd, if_true, idx_some' h1, Option.bind_some]
   rw [show ((0 : Int)) = ((0 : Nat) : Int) from rfl, h]
   simp only [Option.bind_some, wnext (show i < 1000000000000 by omega)])]
  exact l54x1 a b c hl k (i + 1) _ (by omega)
theorem w31 (x : List Int) (h : x.length <= 5000) : ∃ y, g31 x = some y := by
 unfold g31 g54
 obtain ⟨d', h⟩ := l54x1 x 4294967295 2197175160 h x.length 0 4294967295 (by omega)
 simp only [beq_self_eq_true, if_true, Option.bind_some]
 rw [show ((0 : Int)) = ((0 : Nat) : Int) from rfl, h]
 exact ⟨_, rfl⟩
theorem l10 (a b s u : Int) (nm bs : List Int) (hn : bs.length <= 5000) : ∀ k at_ (l : List Message), bs.length <= at_ + 256 * k -> at_ <= 6000 -> l.length + k <= 100 ->
  ∃ l', lpU g10x0 (l, (at_ : Int), a, b, nm, bs, s, u) = some (l', a, b, nm, bs, s, u) ∧ l'.length = l.length + (bs.length - at_ + 255) / 256
 | 0, at_, l, hk, ha, hl => by
  have hd : decide ((at_ : Int) < (bs.length : Int)) = false := decide_eq_false (by omega)
  exact ⟨l, by rw [lp_end (x := (l, a, b, nm, bs, s, u)) (by simp only [g10x0, hd, Bool.false_eq_true, if_false])], by omega⟩
 | k + 1, at_, l, hk, ha, hl => by
  by_cases hlt : at_ < bs.length
  ·have hd : decide ((at_ : Int) < (bs.length : Int)) = true := decide_eq_true (by omega)
   have hw : IntKind.i64.wrap ((at_ : Int) + 256) = ((at_ + 256 : Nat) : Int) := by rw [wi64 (by omega)]; omega
   obtain ⟨ys, hys⟩ : ∃ ys, cut bs (at_ : Int) (if ((at_ + 256 : Nat) : Int) > (bs.length : Int) then (bs.length : Int) else ((at_ + 256 : Nat) : Int)) = some ys := by
    split
    ·exact ⟨_, if_pos ⟨by omega, by omega, by omega⟩⟩
    ·exact ⟨_, if_pos ⟨by omega, by omega, by omega⟩⟩
   have hstep : g10x0 (l, (at_ : Int), a, b, nm, bs, s, u) = some (.inl (l ++ [((2 : Int), a, [], (0 : Int), (at_ : Int), (0 : Int), (0 : Int), ys)], ((at_ + 256 : Nat) : Int), a, b, nm, bs, s, u)) := by
    simp only [g10x0, hd, if_true, hw]
    by_cases hc : ((at_ + 256 : Nat) : Int) > (bs.length : Int)
    ·rw [if_pos hc] at hys
     rw [if_pos (decide_eq_true hc)]
     simp only [Option.bind_some, hys]
     rw [apd_ok (by simp; omega)]
     simp only [Option.bind_some, hw]
    ·rw [if_neg hc] at hys
     rw [if_neg (by simp; omega)]
     simp only [Option.bind_some, hys]
     rw [apd_ok (by simp; omega)]
     simp only [Option.bind_some, hw]
   rw [lp_next hstep]
   obtain ⟨l', h1, h2⟩ := l10 a b s u nm bs hn k (at_ + 256) (l ++ [((2 : Int), a, [], (0 : Int), (at_ : Int), (0 : Int), (0 : Int), ys)]) (by omega) (by omega) (by simp; omega)
   exact ⟨l', h1, by rw [h2]; simp; omega⟩
  ·have hd : decide ((at_ : Int) < (bs.length : Int)) = false := decide_eq_false (by omega)
   exact ⟨l, by rw [lp_end (x := (l, a, b, nm, bs, s, u)) (by simp only [g10x0, hd, Bool.false_eq_true, if_false])], by omega⟩
theorem w10 (o : Outgoing) (h : o.2.2.2.1.length <= 5000) : ∃ l, g10 o = some l ∧ l.length = 2 + (o.2.2.2.1.length + 255) / 256 := by
 obtain ⟨a, b, nm, bs, s, u⟩ := o
 have h : bs.length <= 5000 := h
 unfold g10
 obtain ⟨l', h1, h2⟩ := l10 a b s u nm bs h 20 0 [((1 : Int), a, nm, (bs.length : Int), (0 : Int), (0 : Int), (0 : Int), [])] (by omega) (by omega) (by simp)
 obtain ⟨y, hy⟩ := w31 bs h
 rw [show ((0 : Nat) : Int) = (0 : Int) from rfl] at h1
 simp only [h1, Option.bind_some, hy]
 rw [apd_ok (by simp [h2]; omega)]
 exact ⟨_, rfl, by simp [h2]; omega⟩
theorem w36 (o : Outgoing) (h : o.2.2.2.1.length <= 5000) : h36 o = ((2 + (o.2.2.2.1.length + 255) / 256 : Nat) : Int) := by
 unfold h36
 rw [wi64 (n := (o.2.2.2.1.length : Int) + 256) (by omega), wi64 (n := (o.2.2.2.1.length : Int) + 256 - 1) (by omega)]
 rw [show ((o.2.2.2.1.length : Int) + 256 - 1) = ((o.2.2.2.1.length + 255 : Nat) : Int) by omega]
 rw [show ((o.2.2.2.1.length + 255 : Nat) : Int).tdiv 256 = (((o.2.2.2.1.length + 255) / 256 : Nat) : Int) by rw [Int.tdiv_eq_ediv_of_nonneg (by omega)]; omega]
 rw [wi64 (n := ((((o.2.2.2.1.length + 255) / 256 : Nat)) : Int)) (by omega), wi64 (by omega)]
 omega
def okO (nx : Int) (o : Outgoing) : Bool := decide (1 <= o.2.1 ∧ o.2.1 <= 6 ∧ 1 <= o.2.2.1.length ∧ o.2.2.1.length <= 24 ∧ o.2.2.2.1.length <= 2048 ∧ 0 <= o.2.2.2.2.2 ∧ o.2.2.2.2.2 <= 2097152 ∧ 0 < o.1 ∧ o.1 < nx ∧ 0 <= o.2.2.2.2.1 ∧ o.2.2.2.2.1 <= ((2 + (o.2.2.2.1.length + 255) / 256 : Nat) : Int))
def okF (nx : Int) : Option Int -> List Outgoing -> Bool
 | _, [] => true
 | p, o :: r => okO nx o && (match p with | none => true | some q => decide (q < o.1)) && okF nx (some o.1) r
def okE (nx : Int) : List Ended -> Bool
 | [] => true
 | e :: r => decide (0 < e.1 ∧ e.1 < nx ∧ 0 <= e.2 ∧ e.2 <= 255) && okE nx r
def chk (f : FileOut) : Bool := decide (0 < f.1 ∧ f.2.1.length <= 4 ∧ f.2.2.length <= 16) && okF f.1 none f.2.1 && okE f.1 f.2.2
def prevN (xs : List Outgoing) : Nat -> Option Int
 | 0 => none
 | i + 1 => (xs[i]?).map (·.1)
theorem b40 (o : Outgoing) : h40 o = decide (1 <= o.2.1 ∧ o.2.1 <= 6 ∧ 1 <= o.2.2.1.length ∧ o.2.2.1.length <= 24 ∧ o.2.2.2.1.length <= 2048 ∧ 0 <= o.2.2.2.2.2 ∧ o.2.2.2.2.2 <= 2097152) := by
 rw [Bool.eq_iff_iff]
 simp [h40, h28, h42]
 omega
theorem b21 (o : Outgoing) : h21 o = h40 o := by
 rw [b40, Bool.eq_iff_iff]
 simp [h21, h43]
 omega
theorem bO (nx : Int) (o : Outgoing) (hb : o.2.2.2.1.length <= 5000) (ok : Bool) : (if (if (if (if ok then (h40 o) else false) then (decide (o.1 > (0 : Int))) else false) then (decide (o.1 < nx)) else false) then (h42 o.2.2.2.2.1 (0 : Int) (h36 o)) else false) = (ok && okO nx o) := by
 rw [b40, w36 o hb, Bool.eq_iff_iff]
 cases ok with
 | false => simp
 | true =>
  simp [h42, okO]
  constructor <;> (intro hh; omega)
theorem l20x0 (nx : Int) (xs xs' : List Outgoing) (e : List Ended) (hl : xs.length <= 20) (ho : ∀ x ∈ xs, SmO x) : ∀ k i ok, i + k = xs.length -> lpU g20x0 (ok, xs, (xs.length : Int), ((i : Nat) : Int), nx, xs, e) = some (ok && okF nx (prevN xs i) (xs.drop i), nx, xs, e)
 | 0, i, ok, hi => by
  have hd : decide ((i : Int) < (xs.length : Int)) = false := decide_eq_false (by omega)
  rw [lp_end (x := (ok, nx, xs, e)) (by simp only [g20x0, hd, Bool.false_eq_true, if_false]), List.drop_of_length_le (by omega)]
  simp [okF]
 | k + 1, i, ok, hi => by
  have hd : decide ((i : Int) < (xs.length : Int)) = true := decide_eq_true (by omega)
  have h1 : i < xs.length := by omega
  have hs := (ho xs[i] (List.getElem_mem h1)).by_
  have hbo := bO nx xs[i] hs ok
  have key : g20x0 (ok, xs, (xs.length : Int), ((i : Nat) : Int), nx, xs, e) = some (.inl (ok && okO nx xs[i] && (match prevN xs i with | none => true | some q => decide (q < xs[i].1)), xs, (xs.length : Int), ((i + 1 : Nat) : Int), nx, xs, e)) := by
   simp only [g20x0, hd, if_true, idx_some' h1, Option.bind_some, hbo, wnext (show i < 1000000000000 by omega)]
   cases i with
   | zero => cases (ok && okO nx xs[0]) <;> simp [prevN]
   | succ j =>
    have h2 : j < xs.length := by omega
    have h0 : (((j + 1 : Nat) : Int) == 0) = false := by simp; omega
    have hw : IntKind.i64.wrap (((j + 1 : Nat) : Int) - 1) = (j : Int) := by rw [wi64 (by omega)]; omega
    simp only [h0, Bool.not_false, Bool.and_true, hw, idx_some' h2, prevN, List.getElem?_eq_getElem h2, Option.map_some]
    cases (ok && okO nx xs[j + 1]) <;> simp
  rw [lp_next key, l20x0 nx xs xs' e hl ho k (i + 1) _ (by omega), drop_cons' h1]
  simp only [okF, prevN, List.getElem?_eq_getElem h1, Option.map_some, Bool.and_assoc]
theorem l20x1 (nx : Int) (xs : List Outgoing) (e : List Ended) (hl : e.length <= 100) : ∀ k i ok, i + k = e.length -> lpU g20x1 (ok, e, (e.length : Int), ((i : Nat) : Int), nx, xs, e) = some (ok && okE nx (e.drop i))
 | 0, i, ok, hi => by
  have hd : decide ((i : Int) < (e.length : Int)) = false := decide_eq_false (by omega)
  rw [lp_end (x := ok) (by simp only [g20x1, hd, Bool.false_eq_true, if_false]), List.drop_of_length_le (by omega)]
  simp [okE]
 | k + 1, i, ok, hi => by
  have hd : decide ((i : Int) < (e.length : Int)) = true := decide_eq_true (by omega)
  have h1 : i < e.length := by omega
  have hb : (if (if (if ok then (decide (e[i].1 > (0 : Int))) else false) then (decide (e[i].1 < nx)) else false) then (h42 e[i].2 (0 : Int) (255 : Int)) else false) = (ok && decide (0 < e[i].1 ∧ e[i].1 < nx ∧ 0 <= e[i].2 ∧ e[i].2 <= 255)) := by
   rw [Bool.eq_iff_iff]
   cases ok with
   | false => simp
   | true => simp [h42]; omega
  rw [lp_next (s' := (ok && decide (0 < e[i].1 ∧ e[i].1 < nx ∧ 0 <= e[i].2 ∧ e[i].2 <= 255), e, (e.length : Int), ((i + 1 : Nat) : Int), nx, xs, e)) (by
   simp only [g20x1, hd, if_true, idx_some' h1, Option.bind_some, hb, wnext (show i < 1000000000000 by omega)]), l20x1 nx xs e hl k (i + 1) _ (by omega), drop_cons' h1]
  simp only [okE, Bool.and_assoc]
theorem w20 (f : FileOut) (h : SmF f) : g20 f = some (if chk f then 0 else 310) := by
 obtain ⟨nx, xs, e⟩ := f
 unfold g20
 have a := l20x0 nx xs xs e h.l h.o xs.length 0
 have b := l20x1 nx xs e h.e e.length 0
 simp only [show ((0 : Nat) : Int) = (0 : Int) from rfl, Nat.zero_add, true_implies, List.drop_zero, prevN] at a b
 simp only [a, b, Option.bind_some]
 have h0 : (if (if (decide (nx > (0 : Int))) then (decide ((xs.length : Int) <= (4 : Int))) else false) then (decide ((e.length : Int) <= (16 : Int))) else false) = decide (0 < nx ∧ xs.length <= 4 ∧ e.length <= 16) := by
  rw [Bool.eq_iff_iff]; simp; omega
 rw [h0]
 show _ = some (if (decide (0 < nx ∧ xs.length <= 4 ∧ e.length <= 16) && okF nx none xs && okE nx e) = true then (0 : Int) else 310)
 cases (decide (0 < nx ∧ xs.length <= 4 ∧ e.length <= 16) && okF nx none xs && okE nx e) <;> rfl
theorem l14x0 (nx : Int) (xs : List Outgoing) (e : List Ended) (hl : xs.length <= 20) (ho : ∀ x ∈ xs, SmO x) (hw : ∀ x ∈ xs, 0 <= x.1) : ∀ k i, i + k = xs.length -> lpU g14x0 (((i : Nat) : Int), nx, xs, e) = some (if okF nx (prevN xs i) (xs.drop i) then .inl (nx, xs, e) else .inr false)
 | 0, i, hi => by
  have hd : decide ((i : Int) < (xs.length : Int)) = false := decide_eq_false (by omega)
  rw [lp_end (x := .inl (nx, xs, e)) (by simp only [g14x0, hd, Bool.false_eq_true, if_false]), List.drop_of_length_le (by omega)]
  simp [okF]
 | k + 1, i, hi => by
  have hd : decide ((i : Int) < (xs.length : Int)) = true := decide_eq_true (by omega)
  have h1 : i < xs.length := by omega
  have hs := (ho xs[i] (List.getElem_mem h1)).by_
  have hnn := hw xs[i] (List.getElem_mem h1)
  obtain ⟨l, hl1, hl2⟩ := w10 xs[i] hs
  have key : g14x0 (((i : Nat) : Int), nx, xs, e) = some (if okO nx xs[i] && (match prevN xs i with | none => true | some q => decide (q < xs[i].1)) then .inl (((i + 1 : Nat) : Int), nx, xs, e) else .inr (.inr false)) := by
   simp only [g14x0, hd, if_true, idx_some' h1, Option.bind_some, wnext (show i < 1000000000000 by omega)]
   generalize hx18 : (if (if (if (!(h21 xs[i])) then true else (xs[i].1 == (0 : Int))) then true else (decide (xs[i].1 >= nx))) then true else (decide (xs[i].2.2.2.2.1 < (0 : Int)))) = x18
   have hO : okO nx xs[i] = (!x18 && decide (xs[i].2.2.2.2.1 <= ((2 + (xs[i].2.2.2.1.length + 255) / 256 : Nat) : Int))) := by
    rw [<- hx18, b21]
    have hA := b40 xs[i]
    cases hq : h40 xs[i] with
    | false =>
     rw [hq] at hA
     have hA := of_decide_eq_false hA.symm
     have : okO nx xs[i] = false := decide_eq_false fun h => hA ⟨h.1, h.2.1, h.2.2.1, h.2.2.2.1, h.2.2.2.2.1, h.2.2.2.2.2.1, h.2.2.2.2.2.2.1⟩
     rw [this]; rfl
    | true =>
     rw [hq] at hA
     obtain ⟨a1, a2, a3, a4, a5, a6, a7⟩ := of_decide_eq_true hA.symm
     rw [Bool.eq_iff_iff]
     simp only [okO, a1, a2, a3, a4, a5, a6, a7, true_and, decide_eq_true_eq, Bool.not_true, Bool.false_eq_true, if_false]
     by_cases b1 : xs[i].1 = 0
     ·simp [b1]
     ·by_cases b2 : xs[i].1 >= nx
      ·simp [b1, b2]; omega
      ·by_cases b3 : xs[i].2.2.2.2.1 < 0
       ·simp [b1, b2, b3]; omega
       ·simp [b1, b2, b3]; omega
   have hbind : (if (!x18) then g10 xs[i] else some []) = some (if x18 then [] else l) := by cases x18 <;> simp [hl1]
   rw [hbind]
   simp only [Option.bind_some]
   have hx22 : (if x18 then true else (decide (xs[i].2.2.2.2.1 > (((if x18 then [] else l : List Message)).length : Int)))) = !okO nx xs[i] := by
    rw [hO]
    cases x18 with
    | true => rfl
    | false =>
     rw [Bool.eq_iff_iff]; simp [hl2]
   simp only [hx22, Bool.not_not]
   cases i with
   | zero => cases okO nx xs[0] <;> simp [prevN]
   | succ j =>
    have h2 : j < xs.length := by omega
    have h0 : decide ((((j + 1 : Nat) : Int)) > 0) = true := decide_eq_true (by omega)
    have hw2 : IntKind.i64.wrap (((j + 1 : Nat) : Int) - 1) = (j : Int) := by rw [wi64 (by omega)]; omega
    simp only [h0, Bool.and_true, hw2, idx_some' h2, prevN, List.getElem?_eq_getElem h2, Option.map_some]
    cases okO nx xs[j + 1] with
    | false => simp
    | true =>
     simp only [if_true, Option.bind_some, Bool.not_true, Bool.false_eq_true, if_false, Bool.true_and]
     by_cases hc : xs[j].1 < xs[j + 1].1
     ·simp [hc]
     ·simp [hc]
  have e1 : okF nx (prevN xs i) (xs[i] :: xs.drop (i + 1)) = ((okO nx xs[i] && (match prevN xs i with | none => true | some q => decide (q < xs[i].1))) && okF nx (some xs[i].1) (xs.drop (i + 1))) := rfl
  have e2 : prevN xs (i + 1) = some xs[i].1 := by simp [prevN, h1]
  rw [drop_cons' h1, e1]
  cases hq : (okO nx xs[i] && (match prevN xs i with | none => true | some q => decide (q < xs[i].1))) with
  | true =>
   rw [hq] at key
   rw [lp_next key, l14x0 nx xs e hl ho hw k (i + 1) (by omega), e2]
   simp only [Bool.true_and]
  | false =>
   rw [hq] at key
   rw [lp_end key]
   simp only [Bool.false_and, Bool.false_eq_true, if_false]
theorem l14x1 (nx : Int) (xs : List Outgoing) (e : List Ended) (hl : e.length <= 100) (hw : ∀ x ∈ e, 0 <= x.1) : ∀ k i, i + k = e.length -> lpU g14x1 (((i : Nat) : Int), nx, xs, e) = some (if okE nx (e.drop i) then .inl () else .inr false)
 | 0, i, hi => by
  have hd : decide ((i : Int) < (e.length : Int)) = false := decide_eq_false (by omega)
  rw [lp_end (x := .inl ()) (by simp only [g14x1, hd, Bool.false_eq_true, if_false]), List.drop_of_length_le (by omega)]
  simp [okE]
 | k + 1, i, hi => by
  have hd : decide ((i : Int) < (e.length : Int)) = true := decide_eq_true (by omega)
  have h1 : i < e.length := by omega
  have hnn := hw e[i] (List.getElem_mem h1)
  have hb : (if (if (if (e[i].1 == (0 : Int)) then true else (decide (e[i].1 >= nx))) then true else (decide (e[i].2 < (0 : Int)))) then true else (decide (e[i].2 > (255 : Int)))) = !decide (0 < e[i].1 ∧ e[i].1 < nx ∧ 0 <= e[i].2 ∧ e[i].2 <= 255) := by
   rw [Bool.eq_iff_iff]; simp; omega
  have key : g14x1 (((i : Nat) : Int), nx, xs, e) = some (if decide (0 < e[i].1 ∧ e[i].1 < nx ∧ 0 <= e[i].2 ∧ e[i].2 <= 255) then .inl (((i + 1 : Nat) : Int), nx, xs, e) else .inr (.inr false)) := by
   simp only [g14x1, hd, if_true, idx_some' h1, Option.bind_some, hb, wnext (show i < 1000000000000 by omega)]
   cases decide (0 < e[i].1 ∧ e[i].1 < nx ∧ 0 <= e[i].2 ∧ e[i].2 <= 255) <;> rfl
  rw [drop_cons' h1]
  cases hq : decide (0 < e[i].1 ∧ e[i].1 < nx ∧ 0 <= e[i].2 ∧ e[i].2 <= 255) with
  | true =>
   rw [hq] at key
   rw [lp_next key, l14x1 nx xs e hl hw k (i + 1) (by omega)]
   simp only [okE, hq, Bool.true_and]
  | false =>
   rw [hq] at key
   rw [lp_end key]
   simp only [okE, hq, Bool.false_and, Bool.false_eq_true, if_false]
theorem w14 (f : FileOut) (h : SmF f) (h0 : 0 <= f.1) (hw : ∀ x ∈ f.2.1, 0 <= x.1) (hw2 : ∀ x ∈ f.2.2, 0 <= x.1) : g14 f = some (chk f) := by
 obtain ⟨nx, xs, e⟩ := f
 unfold g14
 have a := l14x0 nx xs e h.l h.o hw xs.length 0
 have b := l14x1 nx xs e h.e hw2 e.length 0
 simp only [show ((0 : Nat) : Int) = (0 : Int) from rfl, Nat.zero_add, true_implies, List.drop_zero, prevN] at a b
 have hq : (if (if (nx == (0 : Int)) then true else (decide ((xs.length : Int) > (4 : Int)))) then true else (decide ((e.length : Int) > (16 : Int)))) = !decide (0 < nx ∧ xs.length <= 4 ∧ e.length <= 16) := by
  have h0 : 0 <= nx := h0
  rw [Bool.eq_iff_iff]; simp; omega
 simp only [hq, a]
 show _ = some (decide (0 < nx ∧ xs.length <= 4 ∧ e.length <= 16) && okF nx none xs && okE nx e)
 cases decide (0 < nx ∧ xs.length <= 4 ∧ e.length <= 16) with
 | false => rfl
 | true =>
  cases okF nx none xs with
  | false => rfl
  | true =>
   simp only [Bool.not_true, Bool.false_eq_true, if_false, if_true, Option.bind_some, b]
   cases okE nx e <;> rfl
end Go.Proofs.Ytlhjdikklmkihaa.Ev.U
namespace Go.Proofs.Ytlhjdikklmkihaa.Ev.U
open Go
theorem l56 (xs : List Outgoing) (p : Outgoing -> Bool) (hl : xs.length <= 20) : ∀ k i, i + k = xs.length -> (lpU g56x0 (xs, (fun o => some (p o)), (xs.length : Int), ((i : Nat) : Int)) = some (.inl ()) ∧ ∀ m (h : m < xs.length), i <= m -> p xs[m] = false) ∨
  ∃ j, ∃ h : j < xs.length, lpU g56x0 (xs, (fun o => some (p o)), (xs.length : Int), ((i : Nat) : Int)) = some (.inr (j : Int)) ∧ i <= j ∧ p xs[j] = true ∧ ∀ m (h : m < j), i <= m -> p xs[m] = false
 | 0, i, hi => by
  have hd : decide ((i : Int) < (xs.length : Int)) = false := decide_eq_false (by omega)
  left
  exact ⟨by rw [lp_end (x := .inl ()) (by simp only [g56x0, hd, Bool.false_eq_true, if_false])], fun m h h2 => by omega⟩
 | k + 1, i, hi => by
  have hd : decide ((i : Int) < (xs.length : Int)) = true := decide_eq_true (by omega)
  have h1 : i < xs.length := by omega
  cases hp : p xs[i] with
  | true =>
   right
   exact ⟨i, h1, by rw [lp_end (x := .inr (i : Int)) (by simp [g56x0, hd, idx_some' h1, h1, hp])], Nat.le_refl _, hp, fun m h h2 => by omega⟩
  | false =>
   have key := lp_next (body := g56x0) (s := (xs, (fun o => some (p o)), (xs.length : Int), ((i : Nat) : Int))) (s' := (xs, (fun o => some (p o)), (xs.length : Int), ((i + 1 : Nat) : Int))) (by simp [g56x0, hd, idx_some' h1, h1, hp, wnext (show i < 1000000000000 by omega)])
   rw [key]
   rcases l56 xs p hl k (i + 1) (by omega) with ⟨h, h2⟩ | ⟨j, hj, h, h2, h3, h4⟩
   ·left
    refine ⟨h, fun m hm him => ?_⟩
    rcases Nat.eq_or_lt_of_le him with e | e
    ·subst e; exact hp
    ·exact h2 m hm e
   ·right
    refine ⟨j, hj, h, by omega, h3, fun m hm him => ?_⟩
    rcases Nat.eq_or_lt_of_le him with e | e
    ·subst e; exact hp
    ·exact h4 m hm e
theorem w34 (xs : List Outgoing) (p : Outgoing -> Bool) (hl : xs.length <= 20) : (g34 xs (fun o => some (p o)) = some (-1) ∧ ∀ m (h : m < xs.length), p xs[m] = false) ∨ ∃ j, ∃ h : j < xs.length, g34 xs (fun o => some (p o)) = some (j : Int) ∧ p xs[j] = true ∧ ∀ m (h : m < j), p xs[m] = false := by
 unfold g34 g56
 have := l56 xs p hl xs.length 0 (by omega)
 rw [show ((0 : Nat) : Int) = (0 : Int) from rfl] at this
 rcases this with ⟨h, h2⟩ | ⟨j, hj, h, h2, h3, h4⟩
 ·left; rw [h]; exact ⟨rfl, fun m hm => h2 m hm (Nat.zero_le _)⟩
 ·right; rw [h]; exact ⟨j, hj, rfl, h3, fun m hm => h4 m hm (Nat.zero_le _)⟩
def flt {α : Type} (a : Nat) : Nat -> List α -> List α
 | _, [] => []
 | j, y :: t => if j ≠ a then y :: flt a (j + 1) t else flt a (j + 1) t
theorem flt_ge {α : Type} {a : Nat} : ∀ {l : List α} {j : Nat}, a < j -> flt a j l = l
 | [], _, _ => rfl
 | y :: t, j, h => by rw [flt, if_pos (by omega), flt_ge (by omega)]
theorem flt_mid {α : Type} {x : α} {r : List α} : ∀ {pre : List α} {j : Nat}, flt (j + pre.length) j (pre ++ x :: r) = pre ++ r
 | [], j => by simp only [List.nil_append, flt, List.length_nil, Nat.add_zero, ne_eq, not_true, if_false]; exact flt_ge (by omega)
 | y :: t, j => by
  simp only [List.cons_append, flt, List.length_cons]
  rw [if_pos (by omega), show j + (t.length + 1) = (j + 1) + t.length by omega, flt_mid]
theorem flt_len {α : Type} {a : Nat} : ∀ {l : List α} {j : Nat}, (flt a j l).length <= l.length
 | [], _ => Nat.le_refl _
 | y :: t, j => by
  have := flt_len (a := a) (l := t) (j := j + 1)
  simp only [flt]
  split
  ·simp only [List.length_cons]; omega
  ·simp only [List.length_cons]; omega
theorem l24x0 (a : Nat) (c nx q b : Int) (xs : List Outgoing) (e e2 : List Ended) (hl : xs.length <= 20) : ∀ k j acc, j + k = xs.length -> acc.length <= j -> lpU g24x0 ((a : Int), c, ((j : Nat) : Int), nx, xs, e, q, b, acc, e2) = some ((a : Int), c, nx, xs, e, q, b, acc ++ flt a j (xs.drop j), e2)
 | 0, j, acc, hj, ha => by
  have hd : decide ((j : Int) < (xs.length : Int)) = false := decide_eq_false (by omega)
  rw [lp_end (x := ((a : Int), c, nx, xs, e, q, b, acc, e2)) (by simp only [g24x0, hd, Bool.false_eq_true, if_false]), List.drop_of_length_le (by omega)]
  simp [flt]
 | k + 1, j, acc, hj, ha => by
  have hd : decide ((j : Int) < (xs.length : Int)) = true := decide_eq_true (by omega)
  have h1 : j < xs.length := by omega
  rw [drop_cons' h1]
  by_cases hc : j = a
  ·subst hc
   rw [lp_next (s' := ((j : Int), c, ((j + 1 : Nat) : Int), nx, xs, e, q, b, acc, e2)) (by
    simp only [g24x0, hd, if_true, wnext (show j < 1000000000000 by omega)]
    rw [if_neg (by simp)]), l24x0 j c nx q b xs e e2 hl k (j + 1) acc (by omega) (by omega)]
   simp only [flt, ne_eq, not_true, if_false]
  ·have hne : ((j : Int) != (a : Int)) = true := by simp; omega
   rw [lp_next (s' := ((a : Int), c, ((j + 1 : Nat) : Int), nx, xs, e, q, b, acc ++ [xs[j]], e2)) (by
    simp only [g24x0, hd, if_true, hne, idx_some' h1, Option.bind_some, wnext (show j < 1000000000000 by omega)]
    rw [apd_ok (by simp; omega)]; rfl), l24x0 a c nx q b xs e e2 hl k (j + 1) _ (by omega) (by simp; omega)]
   simp only [flt, ne_eq, hc, not_false_eq_true, if_true, List.append_assoc, List.singleton_append]
theorem l24x1 (a c nx q0 b : Int) (xs ys : List Outgoing) (e : List Ended) (hl : e.length <= 200) : ∀ k j q acc, j + k = e.length -> acc.length <= j -> lpU g24x1 (a, c, ((j : Nat) : Int), nx, xs, e, q, b, ys, acc) = some (a, c, nx, xs, e, q, b, ys, acc ++ e.drop j) := by
 intro k
 induction k with
 | zero =>
  intro j q acc hj ha
  have hd : decide ((j : Int) < (e.length : Int)) = false := decide_eq_false (by omega)
  rw [lp_end (x := (a, c, nx, xs, e, q, b, ys, acc)) (by simp only [g24x1, hd, Bool.false_eq_true, if_false]), List.drop_of_length_le (by omega), List.append_nil]
 | succ k ih =>
  intro j q acc hj ha
  have hd : decide ((j : Int) < (e.length : Int)) = true := decide_eq_true (by omega)
  have h1 : j < e.length := by omega
  rw [lp_next (s' := (a, c, ((j + 1 : Nat) : Int), nx, xs, e, q, b, ys, acc ++ [e[j]])) (by
   simp only [g24x1, hd, if_true, idx_some' h1, Option.bind_some, wnext (show j < 1000000000000 by omega)]
   rw [apd_ok (by simp; omega)]; rfl), ih (j + 1) q _ (by omega) (by simp; omega), drop_cons' h1]
  simp
theorem w24 (nx c : Int) (pre r : List Outgoing) (x : Outgoing) (e : List Ended) (hl : (pre ++ x :: r).length <= 20) (he : e.length <= 150) : g24 (nx, pre ++ x :: r, e) (pre.length : Int) c = some (nx, pre ++ r, cutE (e ++ [(x.1, c)])) := by
 unfold g24
 have a := l24x0 pre.length c nx 0 nx (pre ++ x :: r) e [] hl (pre ++ x :: r).length 0 [] (by omega) (by simp)
 rw [show ((0 : Nat) : Int) = (0 : Int) from rfl] at a
 rw [List.drop_zero, List.nil_append] at a
 have hf := flt_mid (x := x) (r := r) (pre := pre) (j := 0)
 rw [Nat.zero_add] at hf
 rw [hf] at a
 simp only [a, Option.bind_some]
 have hw : IntKind.i64.wrap ((IntKind.i64.wrap ((e.length : Int) + 1)) - 16) = (e.length : Int) + 1 - 16 := by rw [wi64 (n := (e.length : Int) + 1) (by omega), wi64 (by omega)]
 rw [hw]
 have hif : ∀ (ρ : Type) (f g : ρ), (if decide ((e.length : Int) + 1 - 16 < 0) = true then f else g) = if e.length < 15 then f else g := fun ρ f g => by
  by_cases h : e.length < 15
  ·rw [if_pos (by simp; omega), if_pos h]
  ·rw [if_neg (by simp; omega), if_neg h]
 rw [hif]
 have hk : (if e.length < 15 then some ((pre.length : Int), c, (0 : Int), nx, pre ++ x :: r, e, (0 : Int), nx, pre ++ r, ([] : List Ended)) else some ((pre.length : Int), c, (e.length : Int) + 1 - 16, nx, pre ++ x :: r, e, (0 : Int), nx, pre ++ r, [])) = some ((pre.length : Int), c, ((e.length - 15 : Nat) : Int), nx, pre ++ x :: r, e, (0 : Int), nx, pre ++ r, []) := by
  split
  ·rw [show e.length - 15 = 0 by omega]; rfl
  ·rw [show (e.length : Int) + 1 - 16 = ((e.length - 15 : Nat) : Int) by omega]
 rw [hk]
 simp only [Option.bind_some]
 rw [l24x1 (pre.length : Int) c nx 0 nx (pre ++ x :: r) (pre ++ r) e (by omega) (e.length - (e.length - 15)) (e.length - 15) 0 [] (by omega) (by simp)]
 simp only [Option.bind_some, idx_nat]
 rw [show (pre ++ x :: r)[pre.length]? = some x by simp]
 simp only [Option.bind_some]
 rw [apd_ok (by simp; omega)]
 simp only [Option.bind_some, List.nil_append, cutE]
 rw [show (e ++ [(x.1, c)]).length - 16 = e.length - 15 by simp, List.drop_append_of_le_length (by omega)]
def sp (now : Int) : List Outgoing -> List Outgoing -> List Ended -> List Int -> List Outgoing × List Ended × List Int
 | pre, [], e, l => (pre, e, l)
 | pre, x :: r, e, l => if x.2.2.2.2.2 <= now then sp now pre r (cutE (e ++ [(x.1, 254)])) (l ++ [x.1]) else sp now (pre ++ [x]) r e l
theorem cutE_len {α : Type} (l : List α) : (cutE l).length <= 16 := by simp [cutE]; omega
theorem find_mid (pre r : List Outgoing) (x : Outgoing) (p : Outgoing -> Bool) (hl : (pre ++ x :: r).length <= 20) (h0 : ∀ y ∈ pre, p y = false) (h1 : p x = true) : g34 (pre ++ x :: r) (fun o => some (p o)) = some (pre.length : Int) := by
 have hx : (pre ++ x :: r)[pre.length]'(by simp) = x := by simp
 rcases w34 _ p hl with ⟨a, b⟩ | ⟨j, hj, a, b, c⟩
 ·have := b pre.length (by simp)
  rw [hx, h1] at this; cases this
 ·rw [a]
  rcases Nat.lt_trichotomy j pre.length with h | h | h
  ·have hm : (pre ++ x :: r)[j] = pre[j] := List.getElem_append_left h
   rw [hm, h0 _ (List.getElem_mem h)] at b; cases b
  ·rw [h]
  ·have := c pre.length h
   rw [hx, h1] at this; cases this
theorem find_no (xs : List Outgoing) (p : Outgoing -> Bool) (hl : xs.length <= 20) (h0 : ∀ y ∈ xs, p y = false) : g34 xs (fun o => some (p o)) = some (-1) := by
 rcases w34 _ p hl with ⟨a, b⟩ | ⟨j, hj, a, b, c⟩
 ·exact a
 ·rw [h0 _ (List.getElem_mem hj)] at b; cases b
theorem exl_sp (now nx : Int) : ∀ (post pre : List Outgoing) (n : Nat) (e : List Ended) (l : List Int), (∀ y ∈ pre, ¬ y.2.2.2.2.2 <= now) -> post.length + 1 <= n -> (pre ++ post).length <= 20 -> e.length <= 100 -> l.length + post.length <= 100 ->
  exl now n (nx, pre ++ post, e) l = some ((nx, (sp now pre post e l).1, (sp now pre post e l).2.1), (sp now pre post e l).2.2)
 | [], pre, n, e, l, hp, hn, hl, he, hll => by
  obtain ⟨n, rfl⟩ : ∃ m, n = m + 1 := ⟨n - 1, by omega⟩
  simp only [exl, List.append_nil] at hl ⊢
  rw [find_no pre (fun o => h46 o now) hl (fun y hy => by simp [h46, hp y hy])]
  simp [sp]
 | x :: r, pre, n, e, l, hp, hn, hl, he, hll => by
  by_cases hx : x.2.2.2.2.2 <= now
  ·obtain ⟨n, rfl⟩ : ∃ m, n = m + 1 := ⟨n - 1, by omega⟩
   simp only [exl]
   rw [find_mid pre r x (fun o => h46 o now) hl (fun y hy => by simp [h46, hp y hy]) (by simp [h46, hx])]
   simp only [Option.bind_some]
   simp only [List.length_cons] at hn hll
   rw [if_neg (by omega), if_pos (by omega), Int.toNat_natCast]
   have hg : g45 (nx, pre ++ x :: r, e) pre.length 254 = some (nx, pre ++ r, cutE (e ++ [(x.1, 254)])) := by
    unfold g45
    simp only
    rw [if_pos ⟨by omega, by omega, rfl⟩]
    simp
   rw [show (pre ++ x :: r)[pre.length]? = some x by simp]
   simp only [Option.bind_some, hg]
   simp only [sp, if_pos hx]
   refine exl_sp now nx r pre n _ _ hp (by omega) (by simp at hl ⊢; omega) (Nat.le_trans (cutE_len _) (by omega)) (by simp; omega)
  ·simp only [sp, if_neg hx]
   have := exl_sp now nx r (pre ++ [x]) n e l (fun y hy => by
    rcases List.mem_append.1 hy with hy | hy
    ·exact hp y hy
    ·simp at hy; rw [hy]; exact hx) (by simp only [List.length_cons] at hn; omega) (by simpa using hl) he (by simp only [List.length_cons] at hll; omega)
   rw [List.append_assoc, List.singleton_append] at this
   exact this
theorem l5x1 (now hno nx h1 : Int) (hl : List Int) (h2 : List Outgoing) (h3 : List Ended) : ∀ (post pre : List Outgoing) (e : List Ended) (l : List Int), (pre ++ post).length <= 20 -> e.length <= 100 -> l.length + post.length <= 100 ->
  lpU g5x1 (now, hl, hno, l, (pre.length : Int), h1, h2, h3, nx, pre ++ post, e) = some (hl, hno, (sp now pre post e l).2.2, h1, h2, h3, nx, (sp now pre post e l).1, (sp now pre post e l).2.1)
 | [], pre, e, l, hb, he, hll => by
  have hd : decide ((pre.length : Int) < (pre.length : Int)) = false := decide_eq_false (by omega)
  rw [List.append_nil, lp_end (x := (hl, hno, l, h1, h2, h3, nx, pre, e)) (by simp only [g5x1, hd, Bool.false_eq_true, if_false])]
  rfl
 | x :: r, pre, e, l, hb, he, hll => by
  have hlen : pre.length < (pre ++ x :: r).length := by simp
  have hd : decide ((pre.length : Int) < ((pre ++ x :: r).length : Int)) = true := decide_eq_true (by omega)
  have hx : (pre ++ x :: r)[pre.length]? = some x := by simp
  have hpl : pre.length < 1000000000000 := by simp at hb; omega
  simp only [List.length_cons] at hll
  by_cases hc : x.2.2.2.2.2 <= now
  ·have hw := w24 nx 254 pre r x e hb (by omega)
   rw [lp_next (s' := (now, hl, hno, l ++ [x.1], (pre.length : Int), h1, h2, h3, nx, pre ++ r, cutE (e ++ [(x.1, 254)]))) (by
    simp only [g5x1, hd, if_true, idx_nat, hx, Option.bind_some]
    rw [if_neg (by simp; omega), apd_ok (by simp; omega)]
    simp only [Option.bind_some, hw])]
   simp only [sp, if_pos hc]
   exact l5x1 now hno nx h1 hl h2 h3 r pre _ _ (by simp at hb ⊢; omega) (Nat.le_trans (cutE_len _) (by omega)) (by simp; omega)
  ·rw [lp_next (s' := (now, hl, hno, l, ((pre.length + 1 : Nat) : Int), h1, h2, h3, nx, pre ++ x :: r, e)) (by
    simp only [g5x1, hd, if_true, idx_nat, hx, Option.bind_some, wnext hpl]
    rw [if_pos (by simp; omega)])]
   simp only [sp, if_neg hc]
   have := l5x1 now hno nx h1 hl h2 h3 r (pre ++ [x]) e l (by simpa using hb) he (by omega)
   rw [List.append_assoc, List.singleton_append, List.length_append, List.length_singleton] at this
   exact this
theorem l5x2 (x : List Int) (hb : x.length <= 1000) : ∀ k i, i + k = x.length -> lpU g5x2 (x, x, (x.length : Int), ((i : Nat) : Int)) = some (.inl ())
 | 0, i, hi => by
  have hd : decide ((i : Int) < (x.length : Int)) = false := decide_eq_false (by omega)
  rw [lp_end (x := .inl ()) (by simp only [g5x2, hd, Bool.false_eq_true, if_false])]
 | k + 1, i, hi => by
  have hd : decide ((i : Int) < (x.length : Int)) = true := decide_eq_true (by omega)
  have h1 : i < x.length := by omega
  rw [lp_next (s' := (x, x, (x.length : Int), ((i + 1 : Nat) : Int))) (by simp [h1, g5x2, hd, idx_some' h1, wnext (show i < 1000000000000 by omega)])]
  exact l5x2 x hb k (i + 1) (by omega)
end Go.Proofs.Ytlhjdikklmkihaa.Ev.U
namespace Go.Proofs.Ytlhjdikklmkihaa.Ev.U
open Go
theorem l5x0 (fr now e no nx num code g1 h1 : Int) (l : List Int) (xs ys : List Outgoing) (en : List Ended) (g2 h2 : List Outgoing) (g3 h3 : List Ended) (j : Nat) (hl : xs.length <= 20) (hp : ∀ m (h : m < xs.length), h44 xs[m] num fr = decide (m = j)) :
  ∀ k i pl, i + k = xs.length -> lpU g5x0 (fr, now, e, l, no, pl, xs, (xs.length : Int), ((i : Nat) : Int), nx, ys, en, num, code, g1, g2, g3, h1, h2, h3) = some (now, e, l, no, (if i <= j ∧ j < xs.length then (j : Int) else pl), nx, ys, en, num, code, g1, g2, g3, h1, h2, h3)
 | 0, i, pl, hi => by
  have hd : decide ((i : Int) < (xs.length : Int)) = false := decide_eq_false (by omega)
  rw [lp_end (x := (now, e, l, no, pl, nx, ys, en, num, code, g1, g2, g3, h1, h2, h3)) (by simp only [g5x0, hd, Bool.false_eq_true, if_false]), if_neg (by omega)]
 | k + 1, i, pl, hi => by
  have hd : decide ((i : Int) < (xs.length : Int)) = true := decide_eq_true (by omega)
  have hlt : i < xs.length := by omega
  have hpi : (if (xs[i].1 == num) = true then (xs[i].2.1 == fr) else false) = decide (i = j) := hp i hlt
  by_cases hc : i = j
  ·rw [lp_next (s' := (fr, now, e, l, no, (i : Int), xs, (xs.length : Int), ((i + 1 : Nat) : Int), nx, ys, en, num, code, g1, g2, g3, h1, h2, h3)) (by
    simp only [g5x0, hd, if_true, idx_some' hlt, Option.bind_some, hpi, decide_eq_true hc, wnext (show i < 1000000000000 by omega)]), l5x0 fr now e no nx num code g1 h1 l xs ys en g2 h2 g3 h3 j hl hp k (i + 1) _ (by omega)]
   rw [if_neg (by omega), if_pos (by omega), hc]
  ·rw [lp_next (s' := (fr, now, e, l, no, pl, xs, (xs.length : Int), ((i + 1 : Nat) : Int), nx, ys, en, num, code, g1, g2, g3, h1, h2, h3)) (by
    simp only [g5x0, hd, if_true, idx_some' hlt, Option.bind_some, hpi, decide_eq_false hc, Bool.false_eq_true, if_false, wnext (show i < 1000000000000 by omega)]), l5x0 fr now e no nx num code g1 h1 l xs ys en g2 h2 g3 h3 j hl hp k (i + 1) _ (by omega)]
   by_cases hq : i <= j ∧ j < xs.length
   ·rw [if_pos (by omega), if_pos hq]
   ·rw [if_neg (by omega), if_neg hq]
theorem okF_lt (nx : Int) : ∀ (xs : List Outgoing) (p : Option Int), okF nx p xs = true -> (∀ q, p = some q -> ∀ x ∈ xs, q < x.1) ∧ xs.Pairwise (fun a b => a.1 < b.1)
 | [], p, _ => ⟨fun _ _ x h => by simp at h, List.Pairwise.nil⟩
 | o :: r, p, h => by
  simp only [okF, Bool.and_eq_true] at h
  obtain ⟨⟨h1, h2⟩, h3⟩ := h
  obtain ⟨a, b⟩ := okF_lt nx r (some o.1) h3
  refine ⟨fun q hq x hx => ?_, List.Pairwise.cons (fun x hx => a _ rfl x hx) b⟩
  subst hq
  have h2 : q < o.1 := by simpa using h2
  rcases List.mem_cons.1 hx with rfl | hx
  ·exact h2
  ·exact Int.lt_trans h2 (a _ rfl x hx)
theorem w22_len (f : FileOut) (h : chk f = true) : f.2.1.length <= 4 ∧ f.2.2.length <= 16 ∧ f.2.1.Pairwise (fun a b => a.1 < b.1) := by
 unfold chk at h
 simp only [Bool.and_eq_true] at h
 obtain ⟨⟨h1, h2⟩, h3⟩ := h
 have h1 := of_decide_eq_true h1
 exact ⟨h1.2.1, h1.2.2, (okF_lt _ _ _ h2).2⟩
theorem sp_sub (now : Int) : ∀ (post pre : List Outgoing) (e : List Ended) (l : List Int), (∀ x ∈ (sp now pre post e l).1, x ∈ pre ∨ x ∈ post) ∧ (sp now pre post e l).1.length <= pre.length + post.length ∧ ((sp now pre post e l).2.1.length <= 16 ∨ (sp now pre post e l).2.1 = e) ∧ (sp now pre post e l).2.2.length <= l.length + post.length
 | [], pre, e, l => ⟨fun x hx => .inl hx, by simp [sp], .inr rfl, by simp [sp]⟩
 | x :: r, pre, e, l => by
  simp only [sp]
  split
  ·obtain ⟨a, b, c, d⟩ := sp_sub now r pre (cutE (e ++ [(x.1, 254)])) (l ++ [x.1])
   refine ⟨fun y hy => (a y hy).imp id fun q => by simp [q], by simp; omega, .inl ?_, by simp at d ⊢; omega⟩
   rcases c with c | c
   ·exact c
   ·rw [c]; exact cutE_len _
  ·obtain ⟨a, b, c, d⟩ := sp_sub now r (pre ++ [x]) e l
   refine ⟨fun y hy => ?_, by simp at b ⊢; omega, c, by simp at d ⊢; omega⟩
   rcases a y hy with q | q
   ·rcases List.mem_append.1 q with q | q
    ·exact .inl q
    ·simp at q; right; simp [q]
   ·right; simp [q]
theorem w5_late (f : FileOut) (hf : SmF f) (hc : chk f = true) (hn : 0 <= f.1) (hx : ∀ x ∈ f.2.1, 0 <= x.1) (now : Int) {r : FileOut × List Int × Int} (hr : g23 f now = some r) :
  (if (if (decide (now < (0 : Int))) then true else (decide (now > (1048576 : Int)))) then
   ((g19 r.1 r.2.2 (2 : Int)).bind fun y43 => some (if y43 then ((r.2.1.length : Int) == (0 : Int)) else false))
  else
   ((lpU g5x1 (now, r.2.1, r.2.2, [], (0 : Int), r.1.1, r.1.2.1, r.1.2.2, f.1, f.2.1, f.2.2)).bind fun z55 =>
   let x60 := if (z55.2.1 != (0 : Int)) then true else ((z55.1.length : Int) != (z55.2.2.1.length : Int))
   (if (!x60) then g15 (z55.2.2.2.1, z55.2.2.2.2.1, z55.2.2.2.2.2.1) z55.2.2.2.2.2.2 else some false).bind fun y61 =>
   if (if x60 then true else (!y61)) then (some false)
   else ((lpU g5x2 (z55.1, z55.2.2.1, (z55.1.length : Int), (0 : Int))).bind fun z70 =>
    match z70 with
    | Sum.inl z71 => (some true)
    | Sum.inr z72 => (some z72)))) = some true := by
 have h20 := w20 f hf
 rw [if_pos hc] at h20
 unfold g23 at hr
 rw [h20] at hr
 simp only [Option.bind_some, ne_eq, not_true, if_false] at hr
 by_cases hout : now < 0 ∨ now > 1048576
 ·have h42 : h42 now 0 1048576 = false := by
   simp only [h42]
   rcases hout with h | h
   ·rw [if_neg (by simp; omega)]
   ·by_cases h' : now >= 0
    ·rw [if_pos (by simpa using h')]; simp; omega
    ·rw [if_neg (by simpa using h')]
  rw [if_pos h42] at hr
  have := Option.some.inj hr
  subst this
  rw [if_pos (by rcases hout with h | h <;> simp [h]), w19]
  rfl
 ·have hin : 0 <= now ∧ now <= 1048576 := by omega
  have h42 : ¬ h42 now 0 1048576 = false := by simp [h42]; omega
  rw [if_neg h42, w33 f hf] at hr
  obtain ⟨nx, xs, e⟩ := f
  obtain ⟨hl4, he16, hpw⟩ := w22_len _ hc
  simp only at hl4 he16 hpw
  have hex := exl_sp now nx xs [] (xs.length + 1) e [] (by simp) (Nat.le_refl _) (by simp; omega) (by omega) (by simp; omega)
  rw [List.nil_append] at hex
  simp only [Option.bind_some, hex, Option.map_some] at hr
  have := Option.some.inj hr
  subst this
  obtain ⟨a, b, c, d⟩ := sp_sub now xs [] e []
  have hl := l5x1 now 0 nx nx (sp now [] xs e []).2.2 (sp now [] xs e []).1 (sp now [] xs e []).2.1 xs [] e [] (by simp; omega) (by omega) (by simp; omega)
  rw [List.nil_append, show ((([] : List Outgoing).length : Nat) : Int) = (0 : Int) from rfl] at hl
  rw [if_neg (by simp; omega), hl]
  have hs : SmF (nx, (sp now [] xs e []).1, (sp now [] xs e []).2.1) := ⟨by simp at b ⊢; omega, by
   rcases c with c | c
   ·simp only; omega
   ·simp only [c]; omega, fun x hx => by
   rcases a x hx with q | q
   ·simp at q
   ·exact hf.o x q⟩
  have h2 := l5x2 (sp now [] xs e []).2.2 (by simp at d; omega) (sp now [] xs e []).2.2.length 0 (by omega)
  rw [show ((0 : Nat) : Int) = (0 : Int) from rfl] at h2
  simp [w15 _ hs, h2]
theorem w5 (f : FileOut) (d : Ended) (at1 : Int × Int) (hn : 0 <= f.1) (hx : ∀ x ∈ f.2.1, 0 <= x.1) (hy : ∀ x ∈ f.2.2, 0 <= x.1) (hd : inK .i64 d.2 = true) : g5 f d at1 = some true := by
 obtain ⟨num, code⟩ := d
 obtain ⟨fr, now⟩ := at1
 unfold g5
 rw [if_neg (by simp)]
 rcases w8 f with h8 | ⟨h8, hf⟩
 ·rw [h8]; rfl
 rw [h8]
 simp only [Option.bind_some, Bool.false_eq_true, if_false, w13 f hf]
 have h20 := w20 f hf
 rw [w14 f hf hn hx hy]
 cases hc : chk f with
 | false =>
  have e22 : g22 f fr num code = some ((0, [], []), 310) := by unfold g22; rw [h20, hc]; rfl
  have e23 : g23 f now = some ((0, [], []), [], 310) := by unfold g23; rw [h20, hc]; rfl
  simp only [e22, e23, Option.bind_some, Bool.not_false, if_true, w19]
  rfl
 | true =>
  rw [if_pos hc] at h20
  obtain ⟨hl4, he16, hpw⟩ := w22_len f hc
  obtain ⟨r, hr⟩ : ∃ r, g23 f now = some r := by
   unfold g23
   rw [h20]
   simp only [Option.bind_some, ne_eq, not_true, if_false]
   by_cases h42 : h42 now 0 1048576 = false
   ·rw [if_pos h42]; exact ⟨_, rfl⟩
   ·rw [if_neg h42, w33 f hf]
    have hex := exl_sp now f.1 f.2.1 [] (f.2.1.length + 1) f.2.2 [] (by simp) (Nat.le_refl _) (by simp; omega) (by omega) (by simp; omega)
    rw [List.nil_append] at hex
    simp only [Option.bind_some]
    rw [show (f : FileOut) = (f.1, f.2.1, f.2.2) from rfl] 
    rw [hex]; exact ⟨_, rfl⟩
  have late := w5_late f hf hc hn hx now hr
  -- where it is
  obtain ⟨j, hj, hfind⟩ : ∃ j, (∀ m (h : m < f.2.1.length), h44 f.2.1[m] num fr = decide (m = j)) ∧ g34 f.2.1 (fun o => some (h44 o num fr)) = some (if j < f.2.1.length then (j : Int) else -1) := by
   rcases w34 f.2.1 (fun o => h44 o num fr) (by omega) with ⟨a, b⟩ | ⟨j, hj, a, b, c⟩
   ·refine ⟨f.2.1.length, fun m h => ?_, by rw [if_neg (Nat.lt_irrefl _)]; exact a⟩
    rw [b m h, decide_eq_false (by omega)]
   ·refine ⟨j, fun m h => ?_, by rw [if_pos hj]; exact a⟩
    rcases Nat.lt_trichotomy m j with q | q | q
    ·rw [c m q, decide_eq_false (by omega)]
    ·subst q; rw [b]; simp
    ·rw [decide_eq_false (by omega)]
     have hlt : f.2.1[j].1 < f.2.1[m].1 := List.pairwise_iff_getElem.1 hpw j m hj h q
     have hb : f.2.1[j].1 = num := by
      simp only [h44] at b
      by_cases e : f.2.1[j].1 = num
      ·exact e
      ·rw [if_neg (by simpa using e)] at b; cases b
     simp only [h44]
     rw [if_neg (by simp; omega)]
  obtain ⟨z22, hz22⟩ : ∃ z, g22 f fr num code = some z := by
   unfold g22
   rw [h20]
   simp only [Option.bind_some, ne_eq, not_true, if_false, hfind, w33 f hf]
   by_cases h42 : h42 code 0 255 = false
   ·rw [if_pos h42]; exact ⟨_, rfl⟩
   ·rw [if_neg h42]
    by_cases hjl : j < f.2.1.length
    ·rw [if_pos hjl, if_neg (by omega), Int.toNat_natCast]
     unfold g45
     rw [if_pos ⟨by omega, by omega, hd⟩, List.getElem?_eq_getElem hjl]
     exact ⟨_, rfl⟩
    ·rw [if_neg hjl]; exact ⟨_, rfl⟩
  simp only [hz22, hr, Option.bind_some, Bool.not_true, Bool.false_eq_true, if_false]
  have hloop := l5x0 fr now z22.2 r.2.2 f.1 num code z22.1.1 r.1.1 r.2.1 f.2.1 f.2.1 f.2.2 z22.1.2.1 r.1.2.1 z22.1.2.2 r.1.2.2 j (by omega) hj f.2.1.length 0 (-1) (by omega)
  rw [show ((0 : Nat) : Int) = (0 : Int) from rfl] at hloop
  rw [hloop]
  simp only [Option.bind_some, Nat.zero_le, true_and]
  unfold g22 at hz22
  rw [h20] at hz22
  simp only [Option.bind_some, ne_eq, not_true, if_false, hfind, w33 f hf] at hz22
  by_cases hcode : code < 0 ∨ code > 255
  ·have h42 : h42 code 0 255 = false := by
    simp only [h42]
    rcases hcode with h | h
    ·rw [if_neg (by simp; omega)]
    ·by_cases h' : code >= 0
     ·rw [if_pos (by simpa using h')]; simp; omega
     ·rw [if_neg (by simpa using h')]
   rw [if_pos h42] at hz22
   have := Option.some.inj hz22
   subst this
   rw [if_pos (by rcases hcode with h | h <;> simp [h])]
   simp only [w19, Option.bind_some, Bool.not_true, Bool.false_eq_true, if_false]
   exact late
  ·have h42 : ¬ h42 code 0 255 = false := by simp [h42]; omega
   rw [if_neg h42] at hz22
   rw [if_neg (by simp; omega)]
   by_cases hjl : j < f.2.1.length
   ·rw [if_pos hjl, if_neg (by omega), Int.toNat_natCast] at hz22
    rw [if_pos hjl, if_neg (by simp)]
    obtain ⟨z', hz', rfl⟩ := Option.map_eq_some_iff.1 hz22
    have hsplit : f.2.1 = f.2.1.take j ++ f.2.1[j] :: f.2.1.drop (j + 1) := by rw [<- drop_cons' hjl, List.take_append_drop]
    have hw := w24 f.1 code (f.2.1.take j) (f.2.1.drop (j + 1)) f.2.1[j] f.2.2 (by rw [<- hsplit]; omega) (by omega)
    rw [<- hsplit, show (f.2.1.take j).length = j by rw [List.length_take]; omega] at hw
    unfold g45 at hz'
    rw [if_pos ⟨by omega, by omega, hd⟩, List.getElem?_eq_getElem hjl] at hz'
    have := Option.some.inj hz'
    subst this
    have hsm : SmF (f.1, f.2.1.take j ++ f.2.1.drop (j + 1), cutE (f.2.2 ++ [(f.2.1[j].1, code)])) := ⟨by simp; omega, Nat.le_trans (cutE_len _) (by omega), fun x hx => hf.o x (by
     rcases List.mem_append.1 hx with q | q
     ·exact List.mem_of_mem_take q
     ·exact List.mem_of_mem_drop q)⟩
    simp only [bne_self_eq_false, Bool.not_false, if_true, hw, w15 _ hsm, Option.bind_some, Bool.not_true, Bool.false_eq_true, if_false]
    exact late
   ·rw [if_neg hjl, if_pos (by omega)] at hz22
    have := Option.some.inj hz22
    subst this
    rw [if_neg hjl, if_pos (by simp)]
    simp only [w19, Option.bind_some, Bool.not_true, Bool.false_eq_true, if_false]
    exact late
end Go.Proofs.Ytlhjdikklmkihaa.Ev.U
namespace Go.Proofs.Ytlhjdikklmkihaa.Ev
open Go Go.ChangeShapes Go.WideShapes Go.ChangeAt Go.RowKit
theorem own : ownKnob Try.prog.godebug = none := by kernel_rfl
theorem laidOut : laidOutB Try.prog = true := by kernel_rfl
theorem rtb {g : G} {w : World} {x : Value} {b : Bool} (h : RT g w retL x (.v (.bool b))) : x = .bool b := h
def vF : Value := .agg #[.int .u32 0, .slice none 0 0, .slice none 0 0]
def vE : Value := .agg #[.int .u32 0, .int .i64 0]
def vA : Value := .agg #[.int .i64 0, .int .i64 0]
namespace U
theorem u0 {n : Int} (h : inK .u32 n = true) : 0 <= n := (of_decide_eq_true h).1
theorem wf_F {f : FileOut} (h : Wf YFileOut f) : 0 <= f.1 ∧ (∀ x ∈ f.2.1, 0 <= x.1) ∧ ∀ x ∈ f.2.2, 0 <= x.1 :=
 ⟨u0 h.1, fun x hx => u0 (h.2.1 x hx).1, fun x hx => u0 (h.2.2 x hx).1⟩
theorem wf_D {d : Ended} (h : Wf YEnded d) : inK .i64 d.2 = true := h.2
end U
end Go.Proofs.Ytlhjdikklmkihaa.Ev
namespace Go.Proofs.Ytlhjdikklmkihaa.Ev.U
open Go
theorem ef5 {x0 : (YFileOut : Ty).T} {x1 : (YEnded : Ty).T} {x2 : (.g (.p (.i .i64) (.i .i64)) : Ty).T} {d0 d1 d2 : D} (r0 : RepL (EF pg) (YFileOut) [] x0 [d0]) (r1 : RepL (EF pg) (YEnded) [] x1 [d1]) (r2 : RepL (EF pg) (.g (.p (.i .i64) (.i .i64))) [] x2 [d2]) : EF pg 5 [d0, d1, d2] [] = some (.v (.bool true), []) := by
 obtain ⟨r, h1, h2⟩ := ef_b1 (show TOK1 (EF pg) (run1 E5 (EF pg)) (.par ⟨[.v (YFileOut), .v (YEnded), .v (.g (.p (.i .i64) (.i .i64)))], .b⟩ (fun x => g5 x.1 x.2.1 x.2.2)) from o5) (by simp) rfl (x := (x0, x1, x2)) (ds := [d0, d1, d2]) rfl ⟨⟨rfl, rfl⟩, _, _, rfl, r0, ⟨⟨rfl, rfl⟩, _, _, rfl, r1, r2⟩⟩ (w5 x0 x1 x2 (wf_F (wf_rep r0)).1 (wf_F (wf_rep r0)).2.1 (wf_F (wf_rep r0)).2.2 (wf_D (wf_rep r1)))
 obtain rfl := eq_of_heq h2
 exact (v5 _).trans h1
end Go.Proofs.Ytlhjdikklmkihaa.Ev.U
namespace Go.Proofs.Ytlhjdikklmkihaa
open Go Go.ChangeShapes Go.WideShapes Go.ChangeAt Go.RowKit Go.Proofs.Ytlhjdikklmkihaa.Ev
set_option maxRecDepth 100000 in
theorem lifted5 (os : Os) (started : os.Started) (H : Type) (enc : TypeId × Value -> H) :
  ReturnsInHanded {} Try.checked os 5 .any (Rows.filesendEndsSpec.pre6 enc Try.prog Try.f5 Rows.filesendEndsRow.domain false) (Rows.filesendEndsSpec.post enc Try.prog Try.f5 false true false false) := by
 refine returnsInHanded_of_change_sized (C := Try.checked) own started (by kernel_rfl) Try.func5
  (ChangeSpec.witness6 (enc := enc) (C := Try.checked) false ⟨#[], #[vF, vE, vA], []⟩ 8 (by kernel_rfl) (by kernel_rfl) (by kernel_rfl) (by kernel_rfl)) ?_
 intro W base args ds gs before hval0 hW hcnd hsz0 _
 have hval : ∀ (j : Nat) t v, Try.f5.params[j]? = some t -> args[j]? = some v -> Value.okWide Try.prog W .any base t v := hval0
 have hW' := hW
 obtain ⟨p, q, hA0, hV, rfl, hfz, hnd⟩ := hW
 have hA : DataW.TrodAll enc Try.prog W 0 (fun _ => true) true Try.f5.params.toList args.toList ds p := hA0
 rw [Try.params5] at hA hval
 obtain ⟨v0, vs0, d0, ds0, p0, q0, hargs, rfl, rfl, h0, r0⟩ := trodAll_cons hA
 obtain ⟨v1, vs1, d1, ds1, p1, q1, rfl, rfl, rfl, h1, r1⟩ := trodAll_cons r0
 obtain ⟨v2, vs2, d2, ds2, p2, q2, rfl, rfl, rfl, h2, r2⟩ := trodAll_cons r1
 obtain ⟨rfl, rfl, rfl⟩ := trodAll_nil r2
 obtain rfl : args = #[v0, v1, v2] := by cases args; simp_all
 obtain ⟨rfl, rfl⟩ := trodVars_none hV
 have lt0 : ∀ x ∈ p0, x.block < W.heap.size := by obtain ⟨m, hm⟩ := h0; exact DataW.trod_lt m _ _ _ hm
 have lt1 : ∀ x ∈ p1, x.block < W.heap.size := by obtain ⟨m, hm⟩ := h1; exact DataW.trod_lt m _ _ _ hm
 have lt2 : ∀ x ∈ p2, x.block < W.heap.size := by obtain ⟨m, hm⟩ := h2; exact DataW.trod_lt m _ _ _ hm
 obtain ⟨c0, g0, k0⟩ := open_arg (k := 8) (fun _ => rfl) (by kernel_rfl) (hval 0 26 v0 rfl rfl) h0
 obtain ⟨c1, g1, k1⟩ := open_arg (k := 8) (fun _ => rfl) (by kernel_rfl) (hval 1 51 v1 rfl rfl) h1
 obtain ⟨c2, g2, k2⟩ := open_arg (k := 8) (fun _ => rfl) (by kernel_rfl) (hval 2 52 v2 rfl rfl) h2
 obtain ⟨x0, e0⟩ := U.arg_u (P := EF U.pg) 8 (U.YFileOut) (by kernel_rfl) g0
 obtain ⟨x1, e1⟩ := U.arg_u (P := EF U.pg) 8 (U.YEnded) (by kernel_rfl) g1
 obtain ⟨x2, e2⟩ := U.arg_u (P := EF U.pg) 8 (.g (.p (.i .i64) (.i .i64))) (by kernel_rfl) g2
 clear hA0 hval0 hsz0
 refine (run0 U.pg_ok (f := 5) (by decide) (U.ef5 e0 e1 e2) (W := W) (vs := #[v0, v1, v2]) rfl (fun i d hi => ?_)).mono fun e W' ⟨x, g', he, hr, bel⟩ => ?_
 ·match i with
  | 0 => simp at hi; subst hi; exact ⟨v0, rfl, k0⟩
  | 1 => simp at hi; subst hi; exact ⟨v1, rfl, k1⟩
  | 2 => simp at hi; subst hi; exact ⟨v2, rfl, k2⟩
  | i + 3 => simp at hi
 ·obtain rfl := rtb hr
  subst he
  exact ⟨_, rfl, _, _, _, [], _, [], hW', trodAll_mk1 (shut_bool Try.underlying4 _), trodAll_cons_mk (Below.trod laidOut (by kernel_rfl) (of_decide_eq_true (by kernel_rfl)) h0 bel lt0) (trodAll_cons_mk (Below.trod laidOut (by kernel_rfl) (of_decide_eq_true (by kernel_rfl)) h1 bel lt1) (trodAll_cons_mk (Below.trod laidOut (by kernel_rfl) (of_decide_eq_true (by kernel_rfl)) h2 bel lt2) trodAll_mk0)), rfl, bel.frame _, fun h => by cases h⟩
theorem filesendEnds_holds : Rows.FilesendEndsSaid :=
 OpenClaim.holds_of_wide 5 Try.f5 rfl rfl rfl rfl rfl rfl rfl ⟨rfl, rfl, rfl, rfl, rfl⟩ rfl rfl rfl rfl rfl (by kernel_rfl) Try.func5 (by kernel_rfl)
  (of_decide_eq_true (by kernel_rfl)) (by unfold Func.isWrapper; first | (rw [if_pos (by decide +kernel)]; kernel_rfl) | (rw [if_neg (by decide +kernel)]; exact ⟨rfl, rfl⟩))
  (fun os started H enc _ => lifted5 os started H enc)
#print axioms filesendEnds_holds
end Go.Proofs.Ytlhjdikklmkihaa
