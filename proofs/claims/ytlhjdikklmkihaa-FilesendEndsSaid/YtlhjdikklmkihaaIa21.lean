/- Layer 21: copies, and what holds things against each other. Conditions: none. -/
import Derived.Test.YtlhjdikklmkihaaHc21
import Derived.Test.YtlhjdikklmkihaaUn
set_option linter.all false
set_option maxRecDepth 100000
namespace Go.Proofs.Ytlhjdikklmkihaa.Ev.U
open Go
theorem sv_1 {x : Value} : (D.v x).bnd1 = fun _ => true := rfl
theorem ss_1 {m : Mode} {z : Nat} {xs : List D} : (D.sl m z xs).bnd1 = fun _ => true := rfl
theorem so_s {m : Mode} {z : Nat} {xs : List D} : (D.sl m z xs).sto1 = true := rfl
section
variable {B : List Bx} {nx fr num code : Int} {m1 m2 : Mode} {z1 z2 : Nat} {xs1 xs2 : List D}
theorem d22a (h1 : m1 = .ro ∨ m1 = .nl) (h2 : m2 = .ro ∨ m2 = .nl) {y : Int} (hy : y ≠ 0) (hc : ∀ B, EF pg 20 [.agg [.v (.int .u32 nx), .sl m1 z1 xs1, .sl m2 z2 xs2]] B = some (.v (.int .i64 y), B)) :
  EF pg 22 [.agg [.v (.int .u32 nx), .sl m1 z1 xs1, .sl m2 z2 xs2], .v (.int .i64 fr), .v (.int .u32 num), .v (.int .i64 code)] B = some (.tup [.agg [.v (.int .u32 0), .sl .nl 0 [], .sl .nl 0 []], .v (.int .i64 y)], B) := by
 rw [EF_eq]
 rcases h1 with rfl | rfl <;> rcases h2 with rfl | rfl <;> simp [runF, evC, evOps, evStp, evOp, rd, rdL, rds, get, put, putO, argE, res1, resL, mkRes, doCall, unsnoc_append, S.wl, S.wo, lk, ins, sb, bx, sbx, pick, over, D.strip, D.strip2, D.strip1, D.tupB, D.cells, D.bnd2, D.bnd1, D.frz2, D.frz1, D.frzP, D.sto1, Value.oneCell', zc, bz, Tc.er, TStp.er, u_, ug_, s_, g_, n_, List.map_cons, List.map_nil, List.all_cons, List.all_nil, List.length_cons, List.length_nil, List.drop_succ_cons, List.drop_zero, List.take_succ_cons, List.take_zero, List.nil_append, List.cons_append, List.append_nil, List.getElem?_cons_succ, List.getElem?_cons_zero, Option.bind_some, Option.map_some, D.capB, dwnA, Nat.reduceEqDiff, Nat.reduceAdd, Nat.reduceLeDiff, Nat.reduceSub, Nat.reduceLT, Nat.reduceMul, Nat.zero_add, Nat.add_zero, reduceCtorEq, ↓reduceIte, Bool.and_true, Bool.true_and, Bool.and_self, Bool.not_false, Bool.not_true, decide_true, decide_false, and_self, and_true, true_and, Bool.false_eq_true, ge_iff_le, gt_iff_lt, p22, F22, c22, lay, hc, hy]
theorem d22b (h1 : m1 = .ro ∨ m1 = .nl) (h2 : m2 = .ro ∨ m2 = .nl) (hc : ∀ B, EF pg 20 [.agg [.v (.int .u32 nx), .sl m1 z1 xs1, .sl m2 z2 xs2]] B = some (.v (.int .i64 0), B)) (hw : h42 code 0 255 = false) :
  EF pg 22 [.agg [.v (.int .u32 nx), .sl m1 z1 xs1, .sl m2 z2 xs2], .v (.int .i64 fr), .v (.int .u32 num), .v (.int .i64 code)] B = some (.tup [.agg [.v (.int .u32 0), .sl .nl 0 [], .sl .nl 0 []], .v (.int .i64 2)], B) := by
 rw [EF_eq]
 have hw2 := fun B => c42 (x := code) (lo := 0) (hi := 255) B
 simp only [hw] at hw2
 rcases h1 with rfl | rfl <;> rcases h2 with rfl | rfl <;> simp [runF, evC, evOps, evStp, evOp, rd, rdL, rds, get, put, putO, argE, res1, resL, mkRes, doCall, unsnoc_append, S.wl, S.wo, lk, ins, sb, bx, sbx, pick, over, D.strip, D.strip2, D.strip1, D.tupB, D.cells, D.bnd2, D.bnd1, D.frz2, D.frz1, D.frzP, D.sto1, Value.oneCell', zc, bz, Tc.er, TStp.er, u_, ug_, s_, g_, n_, List.map_cons, List.map_nil, List.all_cons, List.all_nil, List.length_cons, List.length_nil, List.drop_succ_cons, List.drop_zero, List.take_succ_cons, List.take_zero, List.nil_append, List.cons_append, List.append_nil, List.getElem?_cons_succ, List.getElem?_cons_zero, Option.bind_some, Option.map_some, D.capB, dwnA, Nat.reduceEqDiff, Nat.reduceAdd, Nat.reduceLeDiff, Nat.reduceSub, Nat.reduceLT, Nat.reduceMul, Nat.zero_add, Nat.add_zero, reduceCtorEq, ↓reduceIte, Bool.and_true, Bool.true_and, Bool.and_self, Bool.not_false, Bool.not_true, decide_true, decide_false, and_self, and_true, true_and, Bool.false_eq_true, ge_iff_le, gt_iff_lt, p22, F22, c22, lay, hc, hw2]
theorem d22c {j : Int} (h1 : m1 = .ro ∨ m1 = .nl) (h2 : m2 = .ro ∨ m2 = .nl) (hc : ∀ B, EF pg 20 [.agg [.v (.int .u32 nx), .sl m1 z1 xs1, .sl m2 z2 xs2]] B = some (.v (.int .i64 0), B)) (hw : h42 code 0 255 = true)
  (hf : ∀ L, lk 6 L = some [.v (.int .u32 num)] -> lk 5 L = some [.v (.int .i64 fr)] -> EF pg 34 [.sl m1 z1 xs1, .clo 44 [.ptr B.length 6 0, .ptr B.length 5 0]] (B ++ [L]) = some (.v (.int .i64 j), B ++ [L])) (hj : j < 0) :
  EF pg 22 [.agg [.v (.int .u32 nx), .sl m1 z1 xs1, .sl m2 z2 xs2], .v (.int .i64 fr), .v (.int .u32 num), .v (.int .i64 code)] B = some (.tup [.agg [.v (.int .u32 0), .sl .nl 0 [], .sl .nl 0 []], .v (.int .i64 4)], B) := by
 rw [EF_eq]
 have hw2 := fun B => c42 (x := code) (lo := 0) (hi := 255) B
 simp only [hw] at hw2
 have hf2 := fun X Y => hf [(4, X), (5, [.v (.int .i64 fr)]), (6, [.v (.int .u32 num)]), (8, Y)] rfl rfl
 rcases h1 with rfl | rfl <;> rcases h2 with rfl | rfl <;> simp [runF, evC, evOps, evStp, evOp, rd, rdL, rds, get, put, putO, argE, res1, resL, mkRes, doCall, unsnoc_append, S.wl, S.wo, lk, ins, sb, bx, sbx, pick, over, D.strip, D.strip2, D.strip1, D.tupB, D.cells, D.bnd2, D.bnd1, D.frz2, D.frz1, D.frzP, D.sto1, Value.oneCell', zc, bz, Tc.er, TStp.er, u_, ug_, s_, g_, n_, List.map_cons, List.map_nil, List.all_cons, List.all_nil, List.length_cons, List.length_nil, List.drop_succ_cons, List.drop_zero, List.take_succ_cons, List.take_zero, List.nil_append, List.cons_append, List.append_nil, List.getElem?_cons_succ, List.getElem?_cons_zero, Option.bind_some, Option.map_some, D.capB, dwnA, Nat.reduceEqDiff, Nat.reduceAdd, Nat.reduceLeDiff, Nat.reduceSub, Nat.reduceLT, Nat.reduceMul, Nat.zero_add, Nat.add_zero, reduceCtorEq, ↓reduceIte, Bool.and_true, Bool.true_and, Bool.and_self, Bool.not_false, Bool.not_true, decide_true, decide_false, and_self, and_true, true_and, Bool.false_eq_true, ge_iff_le, gt_iff_lt, p22, F22, c22, lay, hc, hw2, hf2, hj]
theorem d22d {j : Nat} {nx' : Int} {es es' hs hs' : List D} {m3 : Mode} {z3 : Nat} (h1 : m1 = .ro ∨ m1 = .nl) (h2 : m2 = .ro ∨ m2 = .nl) (h3 : m3 = .mu ∨ m3 = .nl) (hc : ∀ B, EF pg 20 [.agg [.v (.int .u32 nx), .sl m1 z1 xs1, .sl m2 z2 xs2]] B = some (.v (.int .i64 0), B)) (hw : h42 code 0 255 = true)
  (hf : ∀ L, lk 6 L = some [.v (.int .u32 num)] -> lk 5 L = some [.v (.int .i64 fr)] -> EF pg 34 [.sl m1 z1 xs1, .clo 44 [.ptr B.length 6 0, .ptr B.length 5 0]] (B ++ [L]) = some (.v (.int .i64 j), B ++ [L]))
  (ho : ∀ L, EF pg 33 [.agg [.v (.int .u32 nx), .sl m1 z1 xs1, .sl m2 z2 xs2]] (B ++ [L]) = some (.agg [.v (.int .u32 nx'), .sl .mu 6 es, .sl m3 z3 hs], B ++ [L]))
  (he : EF pg 45 [.ptr B.length 4 0, .v (.int .i64 j), .v (.int .i64 code)] (B ++ [[(4, [.v (.int .u32 nx'), .sl .mu 6 es, .sl m3 z3 hs]), (5, [.v (.int .i64 fr)]), (6, [.v (.int .u32 num)]), (8, [.v (.int .u32 0), .sl .nl 0 [], .sl .nl 0 []])]]) =
   some (.tup [], B ++ [[(4, [.v (.int .u32 nx'), .sl .mu 6 es', .sl .mu 2 hs']), (5, [.v (.int .i64 fr)]), (6, [.v (.int .u32 num)]), (8, [.v (.int .u32 0), .sl .nl 0 [], .sl .nl 0 []])]])) :
  EF pg 22 [.agg [.v (.int .u32 nx), .sl m1 z1 xs1, .sl m2 z2 xs2], .v (.int .i64 fr), .v (.int .u32 num), .v (.int .i64 code)] B = some (.tup [.agg [.v (.int .u32 nx'), .sl .ro 6 es', .sl .ro 2 hs'], .v (.int .i64 0)], B) := by
 rw [EF_eq]
 have hw2 := fun B => c42 (x := code) (lo := 0) (hi := 255) B
 simp only [hw] at hw2
 have hf2 := fun X Y => hf [(4, X), (5, [.v (.int .i64 fr)]), (6, [.v (.int .u32 num)]), (8, Y)] rfl rfl
 have hj : ¬ (j : Int) < 0 := by omega
 rcases h1 with rfl | rfl <;> rcases h2 with rfl | rfl <;> rcases h3 with rfl | rfl <;> simp [runF, evC, evOps, evStp, evOp, rd, rdL, rds, get, put, putO, argE, res1, resL, mkRes, doCall, unsnoc_append, S.wl, S.wo, lk, ins, sb, bx, sbx, pick, over, D.strip, D.strip2, D.strip1, D.tupB, D.cells, D.bnd2, D.bnd1, D.frz2, D.frz1, D.frzP, D.sto1, Value.oneCell', zc, bz, Tc.er, TStp.er, u_, ug_, s_, g_, n_, List.map_cons, List.map_nil, List.all_cons, List.all_nil, List.length_cons, List.length_nil, List.drop_succ_cons, List.drop_zero, List.take_succ_cons, List.take_zero, List.nil_append, List.cons_append, List.append_nil, List.getElem?_cons_succ, List.getElem?_cons_zero, Option.bind_some, Option.map_some, D.capB, dwnA, Nat.reduceEqDiff, Nat.reduceAdd, Nat.reduceLeDiff, Nat.reduceSub, Nat.reduceLT, Nat.reduceMul, Nat.zero_add, Nat.add_zero, reduceCtorEq, ↓reduceIte, Bool.and_true, Bool.true_and, Bool.and_self, Bool.not_false, Bool.not_true, decide_true, decide_false, and_self, and_true, true_and, Bool.false_eq_true, ge_iff_le, gt_iff_lt, p22, F22, c22, lay, hc, hw2, hf2, hj, ho, he, evG, evG1, unsnoc2]
end
end Go.Proofs.Ytlhjdikklmkihaa.Ev.U
set_option maxRecDepth 100000
namespace Go.Proofs.Ytlhjdikklmkihaa.Ev.U
open Go
theorem argl_inv {c : Cx} : ∀ {ak : List AK} {ws : List W} {ds : List D} {rg : List Rg} {Y : List (List D)}, (∀ a ∈ ak, ∃ τ, a = .v τ) -> ArgL c ak ws ds rg Y -> All2 (Rep3 c) ws ds ∧ rg = [] ∧ Y = []
 | [], ws, ds, rg, Y, _, h => by
  cases ws <;> cases ds <;> cases rg <;> cases Y <;> first | exact h.elim | exact ⟨trivial, rfl, rfl⟩
 | a :: ak, ws, ds, rg, Y, hv, h => by
  obtain ⟨τ, rfl⟩ := hv a (by simp)
  cases ws with
  | nil => cases ds <;> cases rg <;> cases Y <;> exact h.elim
  | cons w ws => cases ds with
   | nil => cases rg <;> cases Y <;> exact h.elim
   | cons d ds =>
    have h2 : Rep3 c w d ∧ ArgL c ak ws ds rg Y := by cases rg <;> cases Y <;> exact h
    obtain ⟨q1, q2, q3⟩ := argl_inv (fun b hb => hv b (by simp [hb])) h2.2
    exact ⟨⟨h2.1, q1⟩, q2, q3⟩
theorem fo_rep {x : FileOut} {F : List Fx} {d : D} (h : RepL (EF pg) YFileOut F x [d]) : ∃ m1 z1 es m2 z2 hs, d = .agg [.v (.int .u32 x.1), .sl m1 z1 es, .sl m2 z2 hs] ∧ (m1 = .ro ∨ m1 = .nl) ∧ (m2 = .ro ∨ m2 = .nl) ∧ inK .u32 x.1 = true ∧ RepL (EF pg) (.l .ro YOutgoing) [] x.2.1 [.sl m1 z1 es] ∧ RepL (EF pg) (.l .ro YEnded) [] x.2.2 [.sl m2 z2 hs] := by
 have h : RepL (EF pg) YFileOut [] x [d] := RepL.fo rfl h
 obtain ⟨_, cs, hcs, hrow⟩ := h
 injection hcs with hcs
 subst hcs
 obtain ⟨a, b, c⟩ := x
 obtain ⟨_, d1, q, rfl, r1, hrow⟩ := hrow
 obtain ⟨_, d2, q, rfl, r2, hrow⟩ := hrow
 obtain ⟨d3, hd3⟩ : ∃ d, q = [d] := one_sing rfl hrow
 subst hd3
 obtain ⟨rfl, k1⟩ := i_d r1
 have w2 := r2
 have w3 := hrow
 obtain ⟨_, es, _, h4⟩ := l_d r2
 obtain ⟨_, hs, _, h5⟩ := l_d hrow
 rcases h4 with rfl | ⟨rfl, z, rfl⟩ <;> rcases h5 with rfl | ⟨rfl, z', rfl⟩
 ·exact ⟨_, _, _, _, _, _, rfl, .inl rfl, .inl rfl, k1, w2, w3⟩
 ·exact ⟨_, _, _, _, _, _, rfl, .inl rfl, .inr rfl, k1, w2, w3⟩
 ·exact ⟨_, _, _, _, _, _, rfl, .inr rfl, .inl rfl, k1, w2, w3⟩
 ·exact ⟨_, _, _, _, _, _, rfl, .inr rfl, .inr rfl, k1, w2, w3⟩
def g45 (z : FileOut) (i : Nat) (code : Int) : Option FileOut :=
 if (z.2.2.length + 1) * 16 <= 140737488355328 ∧ (z.2.1.length : Int) <= 140737488355328 ∧ inK .i64 code = true then
  (z.2.1[i]?).map fun o => (z.1, z.2.1.take i ++ z.2.1.drop (i + 1), cutE (z.2.2 ++ [(o.1, code)]))
 else none
theorem All2.tk {α β : Type} {R : α -> β -> Prop} : ∀ {xs : List α} {ys : List β}, All2 R xs ys -> ∀ n, All2 R (xs.take n) (ys.take n)
 | [], [], _, n => by simp; trivial
 | [], _ :: _, h, _ => h.elim
 | _ :: _, [], h, _ => h.elim
 | a :: xs, b :: ys, h, 0 => trivial
 | a :: xs, b :: ys, h, n + 1 => ⟨h.1, All2.tk h.2 n⟩
theorem All2.dr {α β : Type} {R : α -> β -> Prop} : ∀ {xs : List α} {ys : List β}, All2 R xs ys -> ∀ n, All2 R (xs.drop n) (ys.drop n)
 | [], [], _, n => by simp; trivial
 | [], _ :: _, h, _ => h.elim
 | _ :: _, [], h, _ => h.elim
 | a :: xs, b :: ys, h, 0 => h
 | a :: xs, b :: ys, h, n + 1 => All2.dr h.2 n
theorem All2.apd {α β : Type} {R : α -> β -> Prop} : ∀ {xs : List α} {ys : List β} {us : List α} {vs : List β}, All2 R xs ys -> All2 R us vs -> All2 R (xs ++ us) (ys ++ vs)
 | [], [], _, _, _, h => h
 | [], _ :: _, _, _, h, _ => h.elim
 | _ :: _, [], _, _, h, _ => h.elim
 | a :: xs, b :: ys, _, _, h, h' => ⟨h.1, All2.apd h.2 h'⟩
theorem g45_len {z z' : FileOut} {i : Nat} {code : Int} (h : g45 z i code = some z') : z'.1 = z.1 ∧ z'.2.1.length + 1 = z.2.1.length ∧ z'.2.2.length <= 16 ∧ z.2.1.length <= 140737488355328 := by
 unfold g45 at h
 split at h
 case isFalse => cases h
 rename_i hc
 obtain ⟨o, ho, rfl⟩ := Option.map_eq_some_iff.1 h
 have hi := getq_lt ho
 refine ⟨rfl, ?_, ?_, by omega⟩
 ·simp; omega
 ·simp [cutE]; omega
theorem e45 {nx code : Int} {ys : List Outgoing} {hs : List Ended} {es hd : List D} {m3 : Mode} {z3 i : Nat} {z' : FileOut} (h3 : (m3 = .mu ∧ z3 = 2) ∨ (m3 = .nl ∧ hd = [])) (hm : All2 (fun y e => RepL (EF pg) YOutgoing [] y [e]) ys es) (he : All2 (fun y e => RepL (EF pg) YEnded [] y [e]) hs hd) (hg : g45 (nx, ys, hs) i code = some z') :
  ∃ es' hd', All2 (fun y e => RepL (EF pg) YOutgoing [] y [e]) z'.2.1 es' ∧ All2 (fun y e => RepL (EF pg) YEnded [] y [e]) z'.2.2 hd' ∧ z'.1 = nx ∧ ∀ (B : List Bx) (L : Bx) (b : Nat), lk b L = some [.v (.int .u32 nx), .sl .mu 6 es, .sl m3 z3 hd] -> lk 500001 L = none -> lk 500002 L = none -> klL B.length 500001 L = L -> klL B.length 500002 L = L ->
   EF pg 45 [.ptr B.length b 0, .v (.int .i64 i), .v (.int .i64 code)] (B ++ [L]) = some (.tup [], B ++ [sb b [.v (.int .u32 nx), .sl .mu 6 es', .sl .mu 2 hd'] L]) := by
 unfold g45 at hg
 split at hg
 case isFalse => cases hg
 rename_i hc
 obtain ⟨c1, c2, c3⟩ := hc
 obtain ⟨o, ho, rfl⟩ := Option.map_eq_some_iff.1 hg
 obtain ⟨e, q1, q2⟩ := hm.get ho
 obtain ⟨nm, m, z, xs, rfl, hmm⟩ := out_rep q2
 have k1 : inK .u32 o.1 = true := (wf_rep q2).1
 refine ⟨es.take i ++ es.drop (i + 1), cutE (hd ++ [.agg [.v (.int .u32 o.1), .v (.int .i64 code)]]), (hm.tk i).apd (hm.dr _), ?_, rfl, fun B L b hb l1 l2 k1 k2 => ?_⟩
 ·have hl := he.length
  simp only [cutE, List.length_append, List.length_singleton, <- hl]
  have h1 : All2 (fun (y : Ended) e => RepL (EF pg) YEnded [] y [e]) [(o.1, code)] [D.agg [.v (.int .u32 o.1), .v (.int .i64 code)]] := ⟨⟨rfl, _, rfl, ⟨rfl, rfl⟩, _, _, rfl, ⟨rfl, k1⟩, rfl, c3⟩, trivial⟩
  exact (he.apd h1).dr _
 ·refine x45 ?_ hb l1 l2 k1 k2 (out_el hm) (end_el he) q1 (by rw [<- he.length]; exact c1) (by rw [<- hm.length]; exact c2)
  rcases h3 with ⟨rfl, rfl⟩ | ⟨rfl, rfl⟩
  ·exact .inl rfl
  ·exact .inr ⟨rfl, _, rfl⟩
noncomputable def g22 (a0 : FileOut) (a1 a2 a3 : Int) : Option (FileOut × Int) :=
 (g20 a0).bind fun y1 => if y1 ≠ 0 then some ((0, [], []), y1) else
 if h42 a3 0 255 = false then some ((0, [], []), 2) else
 (g34 a0.2.1 (fun o => some (h44 o a2 a1))).bind fun y3 => if y3 < 0 then some ((0, [], []), 4) else
 (g33 a0).bind fun z => (g45 z y3.toNat a3).map fun z' => (z', 0)
noncomputable def tf22 : TF := .par ⟨[.v YFileOut, .v (.i .i64), .v (.i .u32), .v (.i .i64)], .t YFileOut (.i .i64)⟩ (fun x => g22 x.1 x.2.1 x.2.2.1 x.2.2.2)
theorem none_rep : RepL (EF pg) YFileOut [] ((0, [], []) : FileOut) [.agg [.v (.int .u32 0), .sl .nl 0 [], .sl .nl 0 []]] :=
 ⟨rfl, _, rfl, ⟨rfl, rfl⟩, _, _, rfl, ⟨rfl, rfl⟩, ⟨rfl, rfl⟩, _, _, rfl, ⟨Nat.zero_le _, [], trivial, .inr ⟨rfl, _, rfl⟩⟩, ⟨Nat.zero_le _, [], trivial, .inr ⟨rfl, _, rfl⟩⟩⟩
theorem res2 {x : FileOut} {y : Int} {d1 : D} (h1 : RepL (EF pg) YFileOut [] x [d1]) (h2 : inK .i64 y = true) : Rep4 (c0 (EF pg)) (resW (.t YFileOut (.i .i64)) (x, y)) (.tup [d1, .v (.int .i64 y)]) := by
 have h : RepL (EF pg) (.t YFileOut (.i .i64)) [] (x, y) [d1, .v (.int .i64 y)] := ⟨⟨rfl, rfl⟩, d1, _, rfl, h1, rfl, h2⟩
 exact ⟨_, rfl, tupW_ok (c := c0 (EF pg)) rfl h⟩
theorem mu_rep {ys : List Outgoing} {d : D} (h : RepL (EF pg) (.l .mu YOutgoing) [] ys [d]) : ∃ es, All2 (fun y e => RepL (EF pg) YOutgoing [] y [e]) ys es ∧ (d = .sl .mu 6 es ∨ (ys = [] ∧ es = [] ∧ ∃ z, d = .sl .nl z [])) := by
 obtain ⟨_, es, h1, h2⟩ := l_d h
 rcases h2 with rfl | ⟨rfl, z, rfl⟩
 ·exact ⟨es, h1, .inl rfl⟩
 ·exact ⟨[], h1, .inr ⟨h1.nil_r, rfl, z, rfl⟩⟩
theorem mu_rep2 {ys : List Ended} {d : D} (h : RepL (EF pg) (.l .mu YEnded) [] ys [d]) : ∃ es m z, All2 (fun y e => RepL (EF pg) YEnded [] y [e]) ys es ∧ d = .sl m z es ∧ ((m = .mu ∧ z = 2) ∨ (m = .nl ∧ es = [])) := by
 obtain ⟨_, es, h1, h2⟩ := l_d h
 rcases h2 with rfl | ⟨rfl, z, rfl⟩
 ·exact ⟨es, _, _, h1, rfl, .inl ⟨rfl, rfl⟩⟩
 ·exact ⟨[], _, _, h1, rfl, .inr ⟨rfl, rfl⟩⟩
theorem own_rep {y : Int × List Outgoing × List Ended} {d : D} (h : RepL (EF pg) (.g (.p (.i .u32) (.p (.l .mu YOutgoing) (.l .mu YEnded)))) [] y [d]) : ∃ d2 d3, d = .agg [.v (.int .u32 y.1), d2, d3] ∧ inK .u32 y.1 = true ∧ RepL (EF pg) (.l .mu YOutgoing) [] y.2.1 [d2] ∧ RepL (EF pg) (.l .mu YEnded) [] y.2.2 [d3] := by
 obtain ⟨_, cs, hcs, hrow⟩ := h
 injection hcs with hcs
 subst hcs
 obtain ⟨a, b, c⟩ := y
 obtain ⟨_, d1, q, rfl, r1, hrow⟩ := hrow
 obtain ⟨_, d2, q, rfl, r2, hrow⟩ := hrow
 obtain ⟨d3, hd3⟩ : ∃ d, q = [d] := one_sing rfl hrow
 subst hd3
 obtain ⟨rfl, k1⟩ := i_d r1
 exact ⟨d2, d3, rfl, k1, r2, hrow⟩
theorem o22 : TOK (EF pg) 22 tf22 := by
 refine ⟨fun F n rg K Y hc hK x ds harg y hy => ?_, trivial⟩
 obtain ⟨ha, rfl, rfl⟩ := argl_inv (by simp [tf22, TF.sg]) harg
 obtain ⟨x0, x1, x2, x3⟩ := x
 have hrep : RepL (EF pg) (.t YFileOut (.t (.i .i64) (.t (.i .u32) (.i .i64)))) F (x0, x1, x2, x3) ds := (tup_inv (c := ⟨EF pg, F, n, [], K⟩) (τ := .t YFileOut (.t (.i .i64) (.t (.i .u32) (.i .i64)))) rfl ha).2
 obtain ⟨_, d0, q, rfl, r0, hrep⟩ := hrep
 obtain ⟨_, d1, q, rfl, r1, hrep⟩ := hrep
 obtain ⟨_, d2, q, rfl, r2, hrep⟩ := hrep
 obtain ⟨d3, hd3⟩ : ∃ d, q = [d] := one_sing rfl hrep
 subst hd3
 obtain ⟨rfl, k1⟩ := i_d r1
 obtain ⟨rfl, k2⟩ := i_d r2
 obtain ⟨rfl, k3⟩ := i_d hrep
 have r00 : RepL (EF pg) YFileOut [] x0 [d0] := RepL.fo rfl r0
 obtain ⟨m1, z1, es, m2, z2, hs, rfl, h1, h2, k0, w1, w2⟩ := fo_rep r0
 have hy : g22 x0 x1 x2 x3 = some y := hy
 unfold g22 at hy
 obtain ⟨y1, hy1, hy⟩ := Option.bind_eq_some_iff.1 hy
 have hc20 := fun B => c20 r00 hy1 B
 split at hy
 ·rename_i hne
  have := Option.some.inj hy
  subst this
  exact ⟨_, [], res2 none_rep (c20k r00 hy1), trivial, fun B hB hat => d22a h1 h2 hne hc20⟩
 rename_i hne
 have hz : y1 = 0 := by simpa using hne
 subst hz
 split at hy
 ·rename_i hw
  have := Option.some.inj hy
  subst this
  exact ⟨_, [], res2 none_rep rfl, trivial, fun B hB hat => d22b h1 h2 hc20 hw⟩
 rename_i hw
 have hw : h42 x3 0 255 = true := by simpa using hw
 obtain ⟨y3, hy3, hy⟩ := Option.bind_eq_some_iff.1 hy
 split at hy
 ·rename_i hj
  have := Option.some.inj hy
  subst this
  exact ⟨_, [], res2 none_rep rfl, trivial, fun B hB hat => d22c h1 h2 hc20 hw (fun L l6 l5 => c34a w1 l6 l5 hy3) hj⟩
 rename_i hj
 obtain ⟨z, hz, hy⟩ := Option.bind_eq_some_iff.1 hy
 obtain ⟨z', hz', rfl⟩ := Option.map_eq_some_iff.1 hy
 obtain ⟨j, rfl⟩ := Int.eq_ofNat_of_zero_le (Int.not_lt.1 hj)
 obtain ⟨zn, zl, ze⟩ := z
 obtain ⟨dr, hr, ho⟩ := c33 r00 hz (n + 1)
 obtain ⟨d2, d3, rfl, kn, q2, q3⟩ := own_rep hr
 obtain ⟨es1, a1, hd2⟩ := mu_rep q2
 obtain ⟨hs1, m3, z3, a2, rfl, h3⟩ := mu_rep2 q3
 have hz2 : g45 (zn, zl, ze) j x3 = some z' := by simpa using hz'
 have hne : zl ≠ [] := fun e => by
  subst e
  unfold g45 at hz2
  split at hz2
  ·simp at hz2
  ·cases hz2
 have hd2 : d2 = .sl .mu 6 es1 := hd2.resolve_right fun q => hne q.1
 subst hd2
 obtain ⟨es', hd', b1, b2, b3, b4⟩ := e45 h3 a1 a2 hz2
 obtain ⟨zn', zl', ze'⟩ := z'
 obtain rfl : zn' = zn := b3
 refine ⟨.tup [.agg [.v (.int .u32 zn'), .sl .ro 6 es', .sl .ro 2 hd'], .v (.int .i64 0)], [], res2 ?_ rfl, trivial, fun B hB hat => d22d h1 h2 (h3.imp And.left And.left) hc20 hw (fun L l6 l5 => c34a w1 l6 l5 hy3) (fun L => ho _ (by simp [hB.len])) ?_⟩
 ·refine ⟨rfl, _, rfl, ⟨rfl, rfl⟩, _, _, rfl, ⟨rfl, kn⟩, ⟨rfl, rfl⟩, _, _, rfl, ⟨?_, es', b1, .inl rfl⟩, ⟨?_, hd', b2, .inl rfl⟩⟩
  ·have := g45_len hz2; simp only [maxLn]; simp only at this; omega
  ·have := g45_len hz2; simp only [maxLn]; simp only at this; omega
 ·exact b4 B _ 4 rfl rfl rfl rfl rfl
end Go.Proofs.Ytlhjdikklmkihaa.Ev.U
set_option maxRecDepth 100000
namespace Go.Proofs.Ytlhjdikklmkihaa.Ev.U
open Go
section
variable {B : List Bx} {nx now num : Int} {m3 m4 : Mode} {z1 z3 z4 : Nat} {es es' hd hd' ls cs : List D}
def sH (B : List Bx) (nx now : Int) (L E l : D) : S := ⟨[(2, .ptr B.length 2 0), (3, .ptr B.length 3 0), (4, .ptr B.length 4 0), (8, l)], [(2, [.v (.int .u32 nx), L, E]), (3, [.v (.int .i64 now)]), (4, [.v (.int .u32 0), .sl .nl 0 [], .sl .nl 0 []])], B⟩
def DoneS (B : List Bx) (nx : Int) (xs hs ls : D) (s : S) : Prop := s.o = B ∧ get 4 s.e = .ptr B.length 4 0 ∧ (∃ c2 c3, s.l = [(2, c2), (3, c3), (4, [.v (.int .u32 nx), xs, hs])]) ∧ get 5 s.e = ls ∧ get 6 s.e = .v (.int .i64 0)
theorem snp_mu (he : ElZ 6 es) : ∀ {s : S}, lk 500003 s.l = some (es.flatMap D.cells) -> s.o = B -> (D.ref B.length 500003 0 es.length 6).snp s = some (.sl .ro 6 es) := by
 intro s h ho
 simp only [D.snp, D.snp1]
 by_cases h0 : es.length = 0
 ·obtain rfl : es = [] := List.eq_nil_of_length_eq_zero h0
  rfl
 ·rw [if_neg h0]
  simp only [Ev.bx, ho, if_true, h, Option.bind_some]
  rw [if_pos ⟨by rw [he.len]; omega, he.flatAll⟩, List.drop_zero, he.chunks (by decide)]
theorem snp_nl {s : S} {z : Nat} {xs : List D} : (D.sl .nl z xs).snp s = some (.sl .nl z xs) := rfl
theorem snp_cl {s : S} (h : lk 3 s.l = some [.v (.int .i64 now)]) (ho : s.o = B) : (D.clo 46 [.ptr B.length 3 0]).snp s = some (.clo 46 [.fptr [.v (.int .i64 now)] 0]) := by
 simp [D.snp, D.snp1, snpC, D.snpP, Ev.bx, ho, h, D.rf1, Value.oneCell']
theorem r23a {l : D} {j : Int} (he : ElZ 6 es) (hf : EF pg 34 [.sl .ro 6 es, .clo 46 [.fptr [.v (.int .i64 now)] 0]] [] = some (.v (.int .i64 j), [])) :
  evC (EF pg) (.gs [.th 2 1 500003] (.rg [s_ 22 (.fa (.t 2) 1), s_ 23 (.ld none (.t 22)), s_ 24 (.mf 46 [(.t 3)]), s_ 25 (.pcal 34 [(.t 23), (.t 24)]), s_ 9 (.mv (.t 25))])) (sH B nx now (.sl .mu 6 es) (.sl m3 z3 hd) l) =
   some (.nm, ⟨(9, .v (.int .i64 j)) :: (25, .v (.int .i64 j)) :: (24, .clo 46 [.ptr B.length 3 0]) :: (23, .ref B.length 500003 0 es.length 6) :: (22, .ptr B.length 2 1) :: (sH B nx now (.sl .mu 6 es) (.sl m3 z3 hd) l).e, [(2, [.v (.int .u32 nx), .ref B.length 500003 0 es.length 6, .sl m3 z3 hd]), (3, [.v (.int .i64 now)]), (4, [.v (.int .u32 0), .sl .nl 0 [], .sl .nl 0 []]), (500003, es.flatMap D.cells)], B⟩) := by
 have hth : evG [.th 2 1 500003] (sH B nx now (.sl .mu 6 es) (.sl m3 z3 hd) l) = some ⟨(sH B nx now (.sl .mu 6 es) (.sl m3 z3 hd) l).e, [(2, [.v (.int .u32 nx), .ref B.length 500003 0 es.length 6, .sl m3 z3 hd]), (3, [.v (.int .i64 now)]), (4, [.v (.int .u32 0), .sl .nl 0 [], .sl .nl 0 []]), (500003, es.flatMap D.cells)], B⟩ := by
  have := he.all
  simp only [evG, evG1, sH, lk]
  simp [sb, ins, S.wl]
  simpa using this
 simp only [evC, hth]
 have hs1 := fun e l ho => snp_mu (B := B) he (s := ⟨e, l, B⟩) ho rfl
 have hs2 := fun e l ho => snp_cl (B := B) (now := now) (s := ⟨e, l, B⟩) ho rfl
 simp only [ops_c, ops_n, s_]
 simp [runF, evC, evOps, evStp, evOp, rd, rdL, rds, get, put, putO, argE, res1, resL, mkRes, doCall, unsnoc_append, S.wl, S.wo, lk, ins, sb, bx, sbx, pick, over, D.tupB, D.bnd2, D.bnd1, D.frz2, D.frz1, D.frzP, D.sto1, Value.oneCell', zc, bz, Tc.er, TStp.er, u_, ug_, s_, g_, n_, List.map_cons, List.map_nil, List.all_cons, List.all_nil, List.length_cons, List.length_nil, List.drop_succ_cons, List.drop_zero, List.take_succ_cons, List.take_zero, List.nil_append, List.cons_append, List.append_nil, List.getElem?_cons_succ, List.getElem?_cons_zero, Option.bind_some, Option.map_some, D.capB, dwnA, Nat.reduceEqDiff, Nat.reduceAdd, Nat.reduceLeDiff, Nat.reduceSub, Nat.reduceLT, Nat.reduceMul, Nat.zero_add, Nat.add_zero, reduceCtorEq, ↓reduceIte, Bool.and_true, Bool.true_and, Bool.and_self, Bool.not_false, Bool.not_true, decide_true, decide_false, and_self, and_true, true_and, Bool.false_eq_true, ge_iff_le, gt_iff_lt, st_v, st_p, st_p2, st_r, st_c, sH, get, snpA, rdR, hs1, hs2, hf, lk]
theorem r23n {l : D} {j : Int} (hf : EF pg 34 [.sl .nl z1 [], .clo 46 [.fptr [.v (.int .i64 now)] 0]] [] = some (.v (.int .i64 j), [])) :
  evC (EF pg) (.gs [.th 2 1 500003] (.rg [s_ 22 (.fa (.t 2) 1), s_ 23 (.ld none (.t 22)), s_ 24 (.mf 46 [(.t 3)]), s_ 25 (.pcal 34 [(.t 23), (.t 24)]), s_ 9 (.mv (.t 25))])) (sH B nx now (.sl .nl z1 []) (.sl m3 z3 hd) l) =
   some (.nm, ⟨(9, .v (.int .i64 j)) :: (25, .v (.int .i64 j)) :: (24, .clo 46 [.ptr B.length 3 0]) :: (23, .sl .nl z1 []) :: (22, .ptr B.length 2 1) :: (sH B nx now (.sl .nl z1 []) (.sl m3 z3 hd) l).e, [(2, [.v (.int .u32 nx), .sl .nl z1 [], .sl m3 z3 hd]), (3, [.v (.int .i64 now)]), (4, [.v (.int .u32 0), .sl .nl 0 [], .sl .nl 0 []])], B⟩) := by
 have hth : evG [.th 2 1 500003] (sH B nx now (.sl .nl z1 []) (.sl m3 z3 hd) l) = some (sH B nx now (.sl .nl z1 []) (.sl m3 z3 hd) l) := by
  simp [evG, evG1, sH, lk]
 simp only [evC, hth]
 have hs2 := fun e l ho => snp_cl (B := B) (now := now) (s := ⟨e, l, B⟩) ho rfl
 simp only [ops_c, ops_n, s_]
 simp [runF, evC, evOps, evStp, evOp, rd, rdL, rds, get, put, putO, argE, res1, resL, mkRes, doCall, unsnoc_append, S.wl, S.wo, lk, ins, sb, bx, sbx, pick, over, D.tupB, D.bnd2, D.bnd1, D.frz2, D.frz1, D.frzP, D.sto1, Value.oneCell', zc, bz, Tc.er, TStp.er, u_, ug_, s_, g_, n_, List.map_cons, List.map_nil, List.all_cons, List.all_nil, List.length_cons, List.length_nil, List.drop_succ_cons, List.drop_zero, List.take_succ_cons, List.take_zero, List.nil_append, List.cons_append, List.append_nil, List.getElem?_cons_succ, List.getElem?_cons_zero, Option.bind_some, Option.map_some, D.capB, dwnA, Nat.reduceEqDiff, Nat.reduceAdd, Nat.reduceLeDiff, Nat.reduceSub, Nat.reduceLT, Nat.reduceMul, Nat.zero_add, Nat.add_zero, reduceCtorEq, ↓reduceIte, Bool.and_true, Bool.true_and, Bool.and_self, Bool.not_false, Bool.not_true, decide_true, decide_false, and_self, and_true, true_and, Bool.false_eq_true, ge_iff_le, gt_iff_lt, st_v, st_p, st_p2, st_r, st_c, st_nl, sH, get, snpA, rdR, hs2, hf, lk, snp_nl]
def rM : Mode -> Mode
 | .mu => .ro
 | .app => .ro
 | m => m
theorem r23b {j : Int} {e : Env} (hj : j < 0) (he : ElZ 6 es) (h3 : m3 = .mu ∨ m3 = .nl) (h4 : m4 = .app ∨ m4 = .nl) (g9 : get 9 e = .v (.int .i64 j)) (g2 : get 2 e = .ptr B.length 2 0) (g4 : get 4 e = .ptr B.length 4 0) (g8 : get 8 e = .sl m4 z4 ls) :
  ∃ s', evC (EF pg) (.sq (.rg [s_ 26 (.mv (.t 9)), s_ 27 (.bin .lss (.t 26) (I 0))]) (.ff (.t 27) (.sq (.gs [.ufc 2 1 500003, .dg 2 1, .dg 2 2] (.rg [s_ 28 (.ld (some 3) (.t 2)), s_ 29 (.mv (.t 8)), n_ (.st 3 (.t 4) (.m 28)), s_ 5 (.mv (.m 29)), s_ 6 (.mv (I 0))])) .rt) .sk))
   ⟨e, [(2, [.v (.int .u32 nx), .ref B.length 500003 0 es.length 6, .sl m3 z3 hd]), (3, [.v (.int .i64 now)]), (4, [.v (.int .u32 0), .sl .nl 0 [], .sl .nl 0 []]), (500003, es.flatMap D.cells)], B⟩ = some (.rt, s') ∧ DoneS B nx (.sl .ro 6 es) (.sl (rM m3) z3 hd) (.sl (rM m4) z4 ls) s' := by
 have hrg : evOps (EF pg) [s_ 26 (.mv (.t 9)), s_ 27 (.bin .lss (.t 26) (I 0))] ⟨e, [(2, [.v (.int .u32 nx), .ref B.length 500003 0 es.length 6, .sl m3 z3 hd]), (3, [.v (.int .i64 now)]), (4, [.v (.int .u32 0), .sl .nl 0 [], .sl .nl 0 []]), (500003, es.flatMap D.cells)], B⟩ = some ⟨(27, .v (.bool true)) :: (26, .v (.int .i64 j)) :: e, [(2, [.v (.int .u32 nx), .ref B.length 500003 0 es.length 6, .sl m3 z3 hd]), (3, [.v (.int .i64 now)]), (4, [.v (.int .u32 0), .sl .nl 0 [], .sl .nl 0 []]), (500003, es.flatMap D.cells)], B⟩ := by
  simp only [ops_c, ops_n, s_]
  simp [runF, evC, evOps, evStp, evOp, rd, rdL, rds, get, put, putO, argE, res1, resL, mkRes, doCall, unsnoc_append, S.wl, S.wo, lk, ins, sb, bx, sbx, pick, over, D.tupB, D.bnd2, D.bnd1, D.frz2, D.frz1, D.frzP, D.sto1, Value.oneCell', zc, bz, Tc.er, TStp.er, u_, ug_, s_, g_, n_, List.map_cons, List.map_nil, List.all_cons, List.all_nil, List.length_cons, List.length_nil, List.drop_succ_cons, List.drop_zero, List.take_succ_cons, List.take_zero, List.nil_append, List.cons_append, List.append_nil, List.getElem?_cons_succ, List.getElem?_cons_zero, Option.bind_some, Option.map_some, D.capB, dwnA, Nat.reduceEqDiff, Nat.reduceAdd, Nat.reduceLeDiff, Nat.reduceSub, Nat.reduceLT, Nat.reduceMul, Nat.zero_add, Nat.add_zero, reduceCtorEq, ↓reduceIte, Bool.and_true, Bool.true_and, Bool.and_self, Bool.not_false, Bool.not_true, decide_true, decide_false, and_self, and_true, true_and, Bool.false_eq_true, ge_iff_le, gt_iff_lt, st_v, g9, get, hj]
 rw [sq_nm (rg_ok hrg), ff_t (by simp [rd, get, st_v])]
 have hfl : es.length * 6 = (es.flatMap D.cells).length := he.len.symm
 have hall := he.flatAll
 have hch := he.chunks (by decide)
 have hgs : evG [.ufc 2 1 500003, .dg 2 1, .dg 2 2] ⟨(27, .v (.bool true)) :: (26, .v (.int .i64 j)) :: e, [(2, [.v (.int .u32 nx), .ref B.length 500003 0 es.length 6, .sl m3 z3 hd]), (3, [.v (.int .i64 now)]), (4, [.v (.int .u32 0), .sl .nl 0 [], .sl .nl 0 []]), (500003, es.flatMap D.cells)], B⟩ = some ⟨klE B.length 500003 ((27, .v (.bool true)) :: (26, .v (.int .i64 j)) :: e), [(2, [.v (.int .u32 nx), .sl .app 6 es, .sl (if m3 = .mu then .app else m3) z3 hd]), (3, [.v (.int .i64 now)]), (4, [.v (.int .u32 0), .sl .nl 0 [], .sl .nl 0 []])], B⟩ := by
  have hu : evG1 (.ufc 2 1 500003) ⟨(27, .v (.bool true)) :: (26, .v (.int .i64 j)) :: e, [(2, [.v (.int .u32 nx), .ref B.length 500003 0 es.length 6, .sl m3 z3 hd]), (3, [.v (.int .i64 now)]), (4, [.v (.int .u32 0), .sl .nl 0 [], .sl .nl 0 []]), (500003, es.flatMap D.cells)], B⟩ = some ⟨klE B.length 500003 ((27, .v (.bool true)) :: (26, .v (.int .i64 j)) :: e), [(2, [.v (.int .u32 nx), .sl .mu 6 es, .sl m3 z3 hd]), (3, [.v (.int .i64 now)]), (4, [.v (.int .u32 0), .sl .nl 0 [], .sl .nl 0 []])], B⟩ := by
   simp only [evG1, lk, if_true, Nat.reduceEqDiff, if_false, List.getElem?_cons_succ, List.getElem?_cons_zero]
   rw [if_pos ⟨trivial, trivial, trivial, hfl, hall, by decide⟩, hch]
   simp [rmL, klL, sb, D.kl1, D.klP]
  simp only [evG, hu, Option.bind_some]
  rcases h3 with rfl | rfl <;> simp [evG1, lk, sb, S.wl]
 generalize hE : klE B.length 500003 ((27, .v (.bool true)) :: (26, .v (.int .i64 j)) :: e) = E at hgs
 have q2 : get 2 E = .ptr B.length 2 0 := by rw [<- hE, get_kl]; simp [get, g2, D.kl3, D.kl2, D.kl1, D.klP]
 have q4 : get 4 E = .ptr B.length 4 0 := by rw [<- hE, get_kl]; simp [get, g4, D.kl3, D.kl2, D.kl1, D.klP]
 have q8 : get 8 E = .sl m4 z4 ls := by rw [<- hE, get_kl]; simp [get, g8, D.kl3, D.kl2, D.kl1, D.klP]
 have hops : ∃ s', evOps (EF pg) [s_ 28 (.ld (some 3) (.t 2)), s_ 29 (.mv (.t 8)), n_ (.st 3 (.t 4) (.m 28)), s_ 5 (.mv (.m 29)), s_ 6 (.mv (I 0))] ⟨E, [(2, [.v (.int .u32 nx), .sl .app 6 es, .sl (if m3 = .mu then .app else m3) z3 hd]), (3, [.v (.int .i64 now)]), (4, [.v (.int .u32 0), .sl .nl 0 [], .sl .nl 0 []])], B⟩ = some s' ∧ DoneS B nx (.sl .ro 6 es) (.sl (rM m3) z3 hd) (.sl (rM m4) z4 ls) s' := by
  simp only [ops_c, ops_n, s_, n_]
  rcases h3 with rfl | rfl <;> rcases h4 with rfl | rfl <;> simp [runF, evC, evOps, evStp, evOp, rd, rdL, rds, get, put, putO, argE, res1, resL, mkRes, doCall, unsnoc_append, S.wl, S.wo, lk, ins, sb, bx, sbx, pick, over, D.tupB, D.bnd2, D.bnd1, D.frz2, D.frz1, D.frzP, D.sto1, Value.oneCell', zc, bz, Tc.er, TStp.er, u_, ug_, s_, g_, n_, List.map_cons, List.map_nil, List.all_cons, List.all_nil, List.length_cons, List.length_nil, List.drop_succ_cons, List.drop_zero, List.take_succ_cons, List.take_zero, List.nil_append, List.cons_append, List.append_nil, List.getElem?_cons_succ, List.getElem?_cons_zero, Option.bind_some, Option.map_some, D.capB, dwnA, Nat.reduceEqDiff, Nat.reduceAdd, Nat.reduceLeDiff, Nat.reduceSub, Nat.reduceLT, Nat.reduceMul, Nat.zero_add, Nat.add_zero, reduceCtorEq, ↓reduceIte, Bool.and_true, Bool.true_and, Bool.and_self, Bool.not_false, Bool.not_true, decide_true, decide_false, and_self, and_true, true_and, Bool.false_eq_true, ge_iff_le, gt_iff_lt, st_v, st_v1, st_p, st_app, st_app1, st_nl, st_nl1, st_ro, st_ro1, st_a, st_a2, ce_a, q2, q4, q8, get, DoneS, rM]
 obtain ⟨s', k1, k2⟩ := hops
 refine ⟨s', ?_, k2⟩
 have : evC (EF pg) (.gs [.ufc 2 1 500003, .dg 2 1, .dg 2 2] (.rg [s_ 28 (.ld (some 3) (.t 2)), s_ 29 (.mv (.t 8)), n_ (.st 3 (.t 4) (.m 28)), s_ 5 (.mv (.m 29)), s_ 6 (.mv (I 0))])) ⟨(27, .v (.bool true)) :: (26, .v (.int .i64 j)) :: e, [(2, [.v (.int .u32 nx), .ref B.length 500003 0 es.length 6, .sl m3 z3 hd]), (3, [.v (.int .i64 now)]), (4, [.v (.int .u32 0), .sl .nl 0 [], .sl .nl 0 []]), (500003, es.flatMap D.cells)], B⟩ = some (.nm, s') := by
  simp only [evC, hgs, k1]; rfl
 rw [sq_nm this]; rfl
theorem r23m {j : Int} {e : Env} (hj : j < 0) (h3 : m3 = .mu ∨ m3 = .nl) (h4 : m4 = .app ∨ m4 = .nl) (g9 : get 9 e = .v (.int .i64 j)) (g2 : get 2 e = .ptr B.length 2 0) (g4 : get 4 e = .ptr B.length 4 0) (g8 : get 8 e = .sl m4 z4 ls) :
  ∃ s', evC (EF pg) (.sq (.rg [s_ 26 (.mv (.t 9)), s_ 27 (.bin .lss (.t 26) (I 0))]) (.ff (.t 27) (.sq (.gs [.ufc 2 1 500003, .dg 2 1, .dg 2 2] (.rg [s_ 28 (.ld (some 3) (.t 2)), s_ 29 (.mv (.t 8)), n_ (.st 3 (.t 4) (.m 28)), s_ 5 (.mv (.m 29)), s_ 6 (.mv (I 0))])) .rt) .sk))
   ⟨e, [(2, [.v (.int .u32 nx), .sl .nl z1 [], .sl m3 z3 hd]), (3, [.v (.int .i64 now)]), (4, [.v (.int .u32 0), .sl .nl 0 [], .sl .nl 0 []])], B⟩ = some (.rt, s') ∧ DoneS B nx (.sl .nl z1 []) (.sl (rM m3) z3 hd) (.sl (rM m4) z4 ls) s' := by
 have hrg : evOps (EF pg) [s_ 26 (.mv (.t 9)), s_ 27 (.bin .lss (.t 26) (I 0))] ⟨e, [(2, [.v (.int .u32 nx), .sl .nl z1 [], .sl m3 z3 hd]), (3, [.v (.int .i64 now)]), (4, [.v (.int .u32 0), .sl .nl 0 [], .sl .nl 0 []])], B⟩ = some ⟨(27, .v (.bool true)) :: (26, .v (.int .i64 j)) :: e, [(2, [.v (.int .u32 nx), .sl .nl z1 [], .sl m3 z3 hd]), (3, [.v (.int .i64 now)]), (4, [.v (.int .u32 0), .sl .nl 0 [], .sl .nl 0 []])], B⟩ := by
  simp only [ops_c, ops_n, s_]
  simp [runF, evC, evOps, evStp, evOp, rd, rdL, rds, get, put, putO, argE, res1, resL, mkRes, doCall, unsnoc_append, S.wl, S.wo, lk, ins, sb, bx, sbx, pick, over, D.tupB, D.bnd2, D.bnd1, D.frz2, D.frz1, D.frzP, D.sto1, Value.oneCell', zc, bz, Tc.er, TStp.er, u_, ug_, s_, g_, n_, List.map_cons, List.map_nil, List.all_cons, List.all_nil, List.length_cons, List.length_nil, List.drop_succ_cons, List.drop_zero, List.take_succ_cons, List.take_zero, List.nil_append, List.cons_append, List.append_nil, List.getElem?_cons_succ, List.getElem?_cons_zero, Option.bind_some, Option.map_some, D.capB, dwnA, Nat.reduceEqDiff, Nat.reduceAdd, Nat.reduceLeDiff, Nat.reduceSub, Nat.reduceLT, Nat.reduceMul, Nat.zero_add, Nat.add_zero, reduceCtorEq, ↓reduceIte, Bool.and_true, Bool.true_and, Bool.and_self, Bool.not_false, Bool.not_true, decide_true, decide_false, and_self, and_true, true_and, Bool.false_eq_true, ge_iff_le, gt_iff_lt, st_v, g9, get, hj]
 rw [sq_nm (rg_ok hrg), ff_t (by simp [rd, get, st_v])]
 have hgs : evG [.ufc 2 1 500003, .dg 2 1, .dg 2 2] ⟨(27, .v (.bool true)) :: (26, .v (.int .i64 j)) :: e, [(2, [.v (.int .u32 nx), .sl .nl z1 [], .sl m3 z3 hd]), (3, [.v (.int .i64 now)]), (4, [.v (.int .u32 0), .sl .nl 0 [], .sl .nl 0 []])], B⟩ = some ⟨(27, .v (.bool true)) :: (26, .v (.int .i64 j)) :: e, [(2, [.v (.int .u32 nx), .sl .nl z1 [], .sl (if m3 = .mu then .app else m3) z3 hd]), (3, [.v (.int .i64 now)]), (4, [.v (.int .u32 0), .sl .nl 0 [], .sl .nl 0 []])], B⟩ := by
  rcases h3 with rfl | rfl <;> simp [evG, evG1, lk, sb, S.wl]
 have hops : ∃ s', evOps (EF pg) [s_ 28 (.ld (some 3) (.t 2)), s_ 29 (.mv (.t 8)), n_ (.st 3 (.t 4) (.m 28)), s_ 5 (.mv (.m 29)), s_ 6 (.mv (I 0))] ⟨(27, .v (.bool true)) :: (26, .v (.int .i64 j)) :: e, [(2, [.v (.int .u32 nx), .sl .nl z1 [], .sl (if m3 = .mu then .app else m3) z3 hd]), (3, [.v (.int .i64 now)]), (4, [.v (.int .u32 0), .sl .nl 0 [], .sl .nl 0 []])], B⟩ = some s' ∧ DoneS B nx (.sl .nl z1 []) (.sl (rM m3) z3 hd) (.sl (rM m4) z4 ls) s' := by
  simp only [ops_c, ops_n, s_, n_]
  rcases h3 with rfl | rfl <;> rcases h4 with rfl | rfl <;> simp [runF, evC, evOps, evStp, evOp, rd, rdL, rds, get, put, putO, argE, res1, resL, mkRes, doCall, unsnoc_append, S.wl, S.wo, lk, ins, sb, bx, sbx, pick, over, D.tupB, D.bnd2, D.bnd1, D.frz2, D.frz1, D.frzP, D.sto1, Value.oneCell', zc, bz, Tc.er, TStp.er, u_, ug_, s_, g_, n_, List.map_cons, List.map_nil, List.all_cons, List.all_nil, List.length_cons, List.length_nil, List.drop_succ_cons, List.drop_zero, List.take_succ_cons, List.take_zero, List.nil_append, List.cons_append, List.append_nil, List.getElem?_cons_succ, List.getElem?_cons_zero, Option.bind_some, Option.map_some, D.capB, dwnA, Nat.reduceEqDiff, Nat.reduceAdd, Nat.reduceLeDiff, Nat.reduceSub, Nat.reduceLT, Nat.reduceMul, Nat.zero_add, Nat.add_zero, reduceCtorEq, ↓reduceIte, Bool.and_true, Bool.true_and, Bool.and_self, Bool.not_false, Bool.not_true, decide_true, decide_false, and_self, and_true, true_and, Bool.false_eq_true, ge_iff_le, gt_iff_lt, st_v, st_v1, st_p, st_app, st_app1, st_nl, st_nl1, st_ro, st_ro1, st_a, st_a2, ce_a, g2, g4, g8, get, DoneS, rM]
 obtain ⟨s', k1, k2⟩ := hops
 refine ⟨s', ?_, k2⟩
 have : evC (EF pg) (.gs [.ufc 2 1 500003, .dg 2 1, .dg 2 2] (.rg [s_ 28 (.ld (some 3) (.t 2)), s_ 29 (.mv (.t 8)), n_ (.st 3 (.t 4) (.m 28)), s_ 5 (.mv (.m 29)), s_ 6 (.mv (I 0))])) ⟨(27, .v (.bool true)) :: (26, .v (.int .i64 j)) :: e, [(2, [.v (.int .u32 nx), .sl .nl z1 [], .sl m3 z3 hd]), (3, [.v (.int .i64 now)]), (4, [.v (.int .u32 0), .sl .nl 0 [], .sl .nl 0 []])], B⟩ = some (.nm, s') := by
  simp only [evC, hgs, k1]; rfl
 rw [sq_nm this]; rfl
theorem r23c {j : Nat} {e : Env} (he : ElZ 6 es) (hi : es[j]? = some (.agg (.v (.int .u32 num) :: cs))) (h4 : (m4 = .app ∧ z4 = 1) ∨ (m4 = .nl ∧ ls = [])) (hlen : (ls.length + 1) * 4 <= 140737488355328) (g9 : get 9 e = .v (.int .i64 j)) (g2 : get 2 e = .ptr B.length 2 0) (g3 : get 3 e = .ptr B.length 3 0) (g4 : get 4 e = .ptr B.length 4 0) (g8 : get 8 e = .sl m4 z4 ls)
  (h45 : EF pg 45 [.ptr B.length 2 0, .v (.int .i64 j), .v (.int .i64 254)] (B ++ [[(2, [.v (.int .u32 nx), .sl .mu 6 es, .sl m3 z3 hd]), (3, [.v (.int .i64 now)]), (4, [.v (.int .u32 0), .sl .nl 0 [], .sl .nl 0 []])]]) = some (.tup [], B ++ [[(2, [.v (.int .u32 nx), .sl .mu 6 es', .sl .mu 2 hd']), (3, [.v (.int .i64 now)]), (4, [.v (.int .u32 0), .sl .nl 0 [], .sl .nl 0 []])]])) :
  ∃ s', evC (EF pg) (.sq (.sq (.rg [s_ 26 (.mv (.t 9)), s_ 27 (.bin .lss (.t 26) (I 0))]) (.ff (.t 27) (.sq (.gs [.ufc 2 1 500003, .dg 2 1, .dg 2 2] (.rg [s_ 28 (.ld (some 3) (.t 2)), s_ 29 (.mv (.t 8)), n_ (.st 3 (.t 4) (.m 28)), s_ 5 (.mv (.m 29)), s_ 6 (.mv (I 0))])) .rt) .sk)) (.sq (.rg [s_ 30 (.mv (.m 8)), s_ 31 (.fa (.t 2) 1), s_ 32 (.ld none (.t 31)), s_ 33 (.mv (.t 9)), s_ 34 (.ia (.t 32) (.t 33) 6), s_ 35 (.fa (.t 34) 0), s_ 36 (.ld none (.t 35)), s_ 37 (.bs false 1 [(.t 36)]), s_ 38 (.ap false 1 4 (.m 30) (.t 37)), s_ 8 (.mv (.m 38))]) (.gs [.ufc 2 1 500003] (.rg [s_ 39 (.mv (.t 9)), s_ 40 (.call 45 [(.t 2), (.t 39), (I 254)])]))))
   ⟨e, [(2, [.v (.int .u32 nx), .ref B.length 500003 0 es.length 6, .sl m3 z3 hd]), (3, [.v (.int .i64 now)]), (4, [.v (.int .u32 0), .sl .nl 0 [], .sl .nl 0 []]), (500003, es.flatMap D.cells)], B⟩ = some (.nm, s') ∧ carry [2, 3, 4, 8] [2, 3, 4] s' = some (sH B nx now (.sl .mu 6 es') (.sl .mu 2 hd') (.sl .app 1 (ls ++ [.v (.int .u32 num)]))) := by
 have hrg : evOps (EF pg) [s_ 26 (.mv (.t 9)), s_ 27 (.bin .lss (.t 26) (I 0))] ⟨e, [(2, [.v (.int .u32 nx), .ref B.length 500003 0 es.length 6, .sl m3 z3 hd]), (3, [.v (.int .i64 now)]), (4, [.v (.int .u32 0), .sl .nl 0 [], .sl .nl 0 []]), (500003, es.flatMap D.cells)], B⟩ = some ⟨(27, .v (.bool false)) :: (26, .v (.int .i64 j)) :: e, [(2, [.v (.int .u32 nx), .ref B.length 500003 0 es.length 6, .sl m3 z3 hd]), (3, [.v (.int .i64 now)]), (4, [.v (.int .u32 0), .sl .nl 0 [], .sl .nl 0 []]), (500003, es.flatMap D.cells)], B⟩ := by
  have : ¬ (j : Int) < 0 := by omega
  simp only [ops_c, ops_n, s_]
  simp [runF, evC, evOps, evStp, evOp, rd, rdL, rds, get, put, putO, argE, res1, resL, mkRes, doCall, unsnoc_append, S.wl, S.wo, lk, ins, sb, bx, sbx, pick, over, D.tupB, D.bnd2, D.bnd1, D.frz2, D.frz1, D.frzP, D.sto1, Value.oneCell', zc, bz, Tc.er, TStp.er, u_, ug_, s_, g_, n_, List.map_cons, List.map_nil, List.all_cons, List.all_nil, List.length_cons, List.length_nil, List.drop_succ_cons, List.drop_zero, List.take_succ_cons, List.take_zero, List.nil_append, List.cons_append, List.append_nil, List.getElem?_cons_succ, List.getElem?_cons_zero, Option.bind_some, Option.map_some, D.capB, dwnA, Nat.reduceEqDiff, Nat.reduceAdd, Nat.reduceLeDiff, Nat.reduceSub, Nat.reduceLT, Nat.reduceMul, Nat.zero_add, Nat.add_zero, reduceCtorEq, ↓reduceIte, Bool.and_true, Bool.true_and, Bool.and_self, Bool.not_false, Bool.not_true, decide_true, decide_false, and_self, and_true, true_and, Bool.false_eq_true, ge_iff_le, gt_iff_lt, st_v, g9, get, this]
 have hff : evC (EF pg) (.sq (.rg [s_ 26 (.mv (.t 9)), s_ 27 (.bin .lss (.t 26) (I 0))]) (.ff (.t 27) (.sq (.gs [.ufc 2 1 500003, .dg 2 1, .dg 2 2] (.rg [s_ 28 (.ld (some 3) (.t 2)), s_ 29 (.mv (.t 8)), n_ (.st 3 (.t 4) (.m 28)), s_ 5 (.mv (.m 29)), s_ 6 (.mv (I 0))])) .rt) .sk)) ⟨e, [(2, [.v (.int .u32 nx), .ref B.length 500003 0 es.length 6, .sl m3 z3 hd]), (3, [.v (.int .i64 now)]), (4, [.v (.int .u32 0), .sl .nl 0 [], .sl .nl 0 []]), (500003, es.flatMap D.cells)], B⟩ = some (.nm, ⟨(27, .v (.bool false)) :: (26, .v (.int .i64 j)) :: e, [(2, [.v (.int .u32 nx), .ref B.length 500003 0 es.length 6, .sl m3 z3 hd]), (3, [.v (.int .i64 now)]), (4, [.v (.int .u32 0), .sl .nl 0 [], .sl .nl 0 []]), (500003, es.flatMap D.cells)], B⟩) := by
  rw [sq_nm (rg_ok hrg), ff_f (by simp [rd, get, st_v])]; rfl
 rw [sq_nm hff]
 have hlt := getq_lt hi
 have hq := he.num hi
 have hi2 : (j : Int) < es.length := by omega
 obtain ⟨E, hops, q2, q3, q4, q8, q9⟩ : ∃ E, evOps (EF pg) [s_ 30 (.mv (.m 8)), s_ 31 (.fa (.t 2) 1), s_ 32 (.ld none (.t 31)), s_ 33 (.mv (.t 9)), s_ 34 (.ia (.t 32) (.t 33) 6), s_ 35 (.fa (.t 34) 0), s_ 36 (.ld none (.t 35)), s_ 37 (.bs false 1 [(.t 36)]), s_ 38 (.ap false 1 4 (.m 30) (.t 37)), s_ 8 (.mv (.m 38))] ⟨(27, .v (.bool false)) :: (26, .v (.int .i64 j)) :: e, [(2, [.v (.int .u32 nx), .ref B.length 500003 0 es.length 6, .sl m3 z3 hd]), (3, [.v (.int .i64 now)]), (4, [.v (.int .u32 0), .sl .nl 0 [], .sl .nl 0 []]), (500003, es.flatMap D.cells)], B⟩ =
   some ⟨E, [(2, [.v (.int .u32 nx), .ref B.length 500003 0 es.length 6, .sl m3 z3 hd]), (3, [.v (.int .i64 now)]), (4, [.v (.int .u32 0), .sl .nl 0 [], .sl .nl 0 []]), (500003, es.flatMap D.cells)], B⟩ ∧ get 2 E = .ptr B.length 2 0 ∧ get 3 E = .ptr B.length 3 0 ∧ get 4 E = .ptr B.length 4 0 ∧ get 8 E = .sl .app 1 (ls ++ [.v (.int .u32 num)]) ∧ get 9 E = .v (.int .i64 j) := by
  simp only [ops_c, ops_n, s_, n_]
  rcases h4 with ⟨rfl, rfl⟩ | ⟨rfl, rfl⟩ <;> simp [runF, evC, evOps, evStp, evOp, rd, rdL, rds, get, put, putO, argE, res1, resL, mkRes, doCall, unsnoc_append, S.wl, S.wo, lk, ins, sb, bx, sbx, pick, over, D.tupB, D.bnd2, D.bnd1, D.frz2, D.frz1, D.frzP, D.sto1, Value.oneCell', zc, bz, Tc.er, TStp.er, u_, ug_, s_, g_, n_, List.map_cons, List.map_nil, List.all_cons, List.all_nil, List.length_cons, List.length_nil, List.drop_succ_cons, List.drop_zero, List.take_succ_cons, List.take_zero, List.nil_append, List.cons_append, List.append_nil, List.getElem?_cons_succ, List.getElem?_cons_zero, Option.bind_some, Option.map_some, D.capB, dwnA, Nat.reduceEqDiff, Nat.reduceAdd, Nat.reduceLeDiff, Nat.reduceSub, Nat.reduceLT, Nat.reduceMul, Nat.zero_add, Nat.add_zero, reduceCtorEq, ↓reduceIte, Bool.and_true, Bool.true_and, Bool.and_self, Bool.not_false, Bool.not_true, decide_true, decide_false, and_self, and_true, true_and, Bool.false_eq_true, ge_iff_le, gt_iff_lt, st_v, st_v1, st_p, st_r, st_app, st_app1, st_nl, st_nl1, st_ro, st_ro1, ce_v, rf_v, g2, g3, g4, g8, g9, get, hi2, hq, hlen]
 rw [sq_nm (rg_ok hops)]
 have hfl : es.length * 6 = (es.flatMap D.cells).length := he.len.symm
 have hall := he.flatAll
 have hch := he.chunks (by decide)
 have hu : evG [.ufc 2 1 500003] ⟨E, [(2, [.v (.int .u32 nx), .ref B.length 500003 0 es.length 6, .sl m3 z3 hd]), (3, [.v (.int .i64 now)]), (4, [.v (.int .u32 0), .sl .nl 0 [], .sl .nl 0 []]), (500003, es.flatMap D.cells)], B⟩ = some ⟨klE B.length 500003 E, [(2, [.v (.int .u32 nx), .sl .mu 6 es, .sl m3 z3 hd]), (3, [.v (.int .i64 now)]), (4, [.v (.int .u32 0), .sl .nl 0 [], .sl .nl 0 []])], B⟩ := by
  simp only [evG, evG1, lk, if_true, Nat.reduceEqDiff, if_false, List.getElem?_cons_succ, List.getElem?_cons_zero]
  rw [if_pos ⟨trivial, trivial, trivial, hfl, hall, by decide⟩, hch]
  simp [rmL, klL, sb, D.kl1, D.klP]
 have p2 : get 2 (klE B.length 500003 E) = .ptr B.length 2 0 := by rw [get_kl, q2]; simp [D.kl3, D.kl2, D.kl1, D.klP]
 have p3 : get 3 (klE B.length 500003 E) = .ptr B.length 3 0 := by rw [get_kl, q3]; simp [D.kl3, D.kl2, D.kl1, D.klP]
 have p4 : get 4 (klE B.length 500003 E) = .ptr B.length 4 0 := by rw [get_kl, q4]; simp [D.kl3, D.kl2, D.kl1, D.klP]
 have p8 : get 8 (klE B.length 500003 E) = .sl .app 1 (ls ++ [.v (.int .u32 num)]) := by rw [get_kl, q8]; rfl
 have p9 : get 9 (klE B.length 500003 E) = .v (.int .i64 j) := by rw [get_kl, q9]; rfl
 refine ⟨⟨(40, .tup []) :: (39, .v (.int .i64 j)) :: klE B.length 500003 E, [(2, [.v (.int .u32 nx), .sl .mu 6 es', .sl .mu 2 hd']), (3, [.v (.int .i64 now)]), (4, [.v (.int .u32 0), .sl .nl 0 [], .sl .nl 0 []])], B⟩, ?_, ?_⟩
 ·simp only [evC, hu]
  simp only [ops_c, ops_n, s_, n_]
  simp [runF, evC, evOps, evStp, evOp, rd, rdL, rds, get, put, putO, argE, res1, resL, mkRes, doCall, unsnoc_append, S.wl, S.wo, lk, ins, sb, bx, sbx, pick, over, D.tupB, D.bnd2, D.bnd1, D.frz2, D.frz1, D.frzP, D.sto1, Value.oneCell', zc, bz, Tc.er, TStp.er, u_, ug_, s_, g_, n_, List.map_cons, List.map_nil, List.all_cons, List.all_nil, List.length_cons, List.length_nil, List.drop_succ_cons, List.drop_zero, List.take_succ_cons, List.take_zero, List.nil_append, List.cons_append, List.append_nil, List.getElem?_cons_succ, List.getElem?_cons_zero, Option.bind_some, Option.map_some, D.capB, dwnA, Nat.reduceEqDiff, Nat.reduceAdd, Nat.reduceLeDiff, Nat.reduceSub, Nat.reduceLT, Nat.reduceMul, Nat.zero_add, Nat.add_zero, reduceCtorEq, ↓reduceIte, Bool.and_true, Bool.true_and, Bool.and_self, Bool.not_false, Bool.not_true, decide_true, decide_false, and_self, and_true, true_and, Bool.false_eq_true, ge_iff_le, gt_iff_lt, st_v, st_p, get, p2, p9, h45]
 ·simp [carry, carE, carL, get, p2, p3, p4, p8, lk, D.inn, D.in2, D.in1, sH]
end
end Go.Proofs.Ytlhjdikklmkihaa.Ev.U
set_option maxRecDepth 100000
namespace Go.Proofs.Ytlhjdikklmkihaa.Ev.U
open Go
noncomputable def exl (now : Int) : Nat -> FileOut -> List Int -> Option (FileOut × List Int)
 | 0, _, _ => none
 | n + 1, z, l => (g34 z.2.1 (fun o => some (h46 o now))).bind fun j => if j < 0 then some (z, l) else
  if (l.length + 1) * 4 <= 140737488355328 then (z.2.1[j.toNat]?).bind fun o => (g45 z j.toNat 254).bind fun z' => exl now n z' (l ++ [o.1]) else none
abbrev v32 (x : Int) : D := .v (.int .u32 x)
def MuO (ys : List Outgoing) (d : D) : Prop := ∃ es, All2 (fun y e => RepL (EF pg) YOutgoing [] y [e]) ys es ∧ (d = .sl .mu 6 es ∨ (ys = [] ∧ es = [] ∧ ∃ z, d = .sl .nl z []))
def RoO (ys : List Outgoing) (d : D) : Prop := ∃ es, All2 (fun y e => RepL (EF pg) YOutgoing [] y [e]) ys es ∧ (d = .sl .ro 6 es ∨ (es = [] ∧ ∃ z, d = .sl .nl z []))
def MuE (ys : List Ended) (d : D) : Prop := ∃ es m z, All2 (fun y e => RepL (EF pg) YEnded [] y [e]) ys es ∧ d = .sl m z es ∧ ((m = .mu ∧ z = 2) ∨ (m = .nl ∧ es = []))
def RoE (ys : List Ended) (d : D) : Prop := ∃ es, All2 (fun y e => RepL (EF pg) YEnded [] y [e]) ys es ∧ (d = .sl .ro 2 es ∨ (es = [] ∧ ∃ z, d = .sl .nl z []))
def ApL (l : List Int) (d : D) : Prop := ∃ m z, d = .sl m z (l.map v32) ∧ ((m = .app ∧ z = 1) ∨ (m = .nl ∧ l = []))
def RoL (l : List Int) (d : D) : Prop := d = .sl .ro 1 (l.map v32) ∨ (l = [] ∧ ∃ z, d = .sl .nl z [])
theorem bl_ex {c : Caller} {id : Nat} {a : Cd} {s s1 : S} {x : Ex} (h : evC c a s = some (x, s1)) (hx : x = .nm ∨ x = .rt) : evC c (.bl id a) s = some (x, s1) := by
 simp only [evC, h]
 rcases hx with rfl | rfl <;> rfl
theorem sq_rt {c : Caller} {a b : Cd} {s s1 : S} (h : evC c a s = some (.rt, s1)) : evC c (.sq a b) s = some (.rt, s1) := by simp only [evC, h]
theorem exl_ok (now : Int) : ∀ (n : Nat) {z z' : FileOut} {l l' : List Int} {L E d : D}, exl now n z l = some (z', l') -> MuO z.2.1 L -> MuE z.2.2 E -> ApL l d -> z.2.1.length <= maxLn -> (∀ x ∈ l, inK .u32 x = true) ->
  ∃ X H q, z'.1 = z.1 ∧ RoO z'.2.1 X ∧ RoE z'.2.2 H ∧ RoL l' q ∧ (z'.2.2 = z.2.2 ∨ z'.2.2.length <= 16) ∧ z'.2.1.length <= z.2.1.length ∧ (∀ x ∈ l', inK .u32 x = true) ∧ l'.length <= l.length + z.2.1.length ∧
   ∀ B : List Bx, ∃ s', DoneS B z.1 X H q s' ∧ ∀ s, carry [2, 3, 4, 8] [2, 3, 4] s = some (sH B z.1 now L E d) -> iter (evC (EF pg) b23x0) (carry [2, 3, 4, 8] [2, 3, 4]) n s = some (.rt, s')
 | 0, z, z', l, l', L, E, d, he, _, _, _, _, _ => by cases he
 | n + 1, (zn, zl, ze), z', l, l', L, E, d, he, hL, hE, hd, hmax, hk => by
  simp only [exl] at he
  obtain ⟨j, hj, he⟩ := Option.bind_eq_some_iff.1 he
  obtain ⟨es, a1, a2⟩ := hL
  obtain ⟨hs, m3, z3, b1, rfl, b2⟩ := hE
  obtain ⟨m4, z4, rfl, d2⟩ := hd
  have hrep : ∀ D0, (D0 = .sl .ro 6 es ∨ (es = [] ∧ ∃ z, D0 = .sl .nl z [])) -> EF pg 34 [D0, .clo 46 [.fptr [.v (.int .i64 now)] 0]] [] = some (.v (.int .i64 j), []) := fun D0 h0 => by
   refine c34b ⟨hmax, es, a1, ?_⟩ hj
   rcases h0 with rfl | ⟨rfl, z, rfl⟩
   ·exact .inl rfl
   ·exact .inr ⟨rfl, z, rfl⟩
  split at he
  ·rename_i hneg
   have := Option.some.inj he
   injection this with e1 e2
   subst e1 e2
   have hq : RoL l (.sl (rM m4) z4 (l.map v32)) := by
    rcases d2 with ⟨rfl, rfl⟩ | ⟨rfl, rfl⟩
    ·exact .inl rfl
    ·exact .inr ⟨rfl, _, rfl⟩
   have hh : RoE ze (.sl (rM m3) z3 hs) := by
    rcases b2 with ⟨rfl, rfl⟩ | ⟨rfl, rfl⟩
    ·exact ⟨hs, b1, .inl rfl⟩
    ·exact ⟨[], b1, .inr ⟨rfl, _, rfl⟩⟩
   rcases a2 with rfl | ⟨rfl, rfl, z1, rfl⟩
   ·refine ⟨.sl .ro 6 es, _, _, rfl, ⟨es, a1, .inl rfl⟩, hh, hq, .inl rfl, Nat.le_refl _, hk, by omega, fun B => ?_⟩
    obtain ⟨s', k1, k2⟩ := r23b (B := B) (nx := zn) (now := now) (hd := hs) (ls := l.map v32) (z3 := z3) (z4 := z4) (e := (9, .v (.int .i64 j)) :: (25, .v (.int .i64 j)) :: (24, .clo 46 [.ptr B.length 3 0]) :: (23, .ref B.length 500003 0 es.length 6) :: (22, .ptr B.length 2 1) :: (sH B zn now (.sl .mu 6 es) (.sl m3 z3 hs) (.sl m4 z4 (l.map v32))).e) hneg (out_el a1) (b2.imp And.left And.left) (d2.imp And.left And.left) (by simp [get]) (by simp [get, sH]) (by simp [get, sH]) (by simp [get, sH])
    refine ⟨s', k2, fun s hs => ?_⟩
    simp only [iter, hs]
    have : evC (EF pg) b23x0 (sH B zn now (.sl .mu 6 es) (.sl m3 z3 _) (.sl m4 z4 (l.map v32))) = some (.rt, s') := bl_ex ((sq_nm (r23a (out_el a1) (hrep _ (.inl rfl)))).trans (sq_rt k1)) (.inr rfl)
    rw [this]
   ·refine ⟨.sl .nl z1 [], _, _, rfl, ⟨[], a1, .inr ⟨rfl, _, rfl⟩⟩, hh, hq, .inl rfl, Nat.le_refl _, hk, by omega, fun B => ?_⟩
    obtain ⟨s', k1, k2⟩ := r23m (B := B) (nx := zn) (now := now) (hd := hs) (ls := l.map v32) (z1 := z1) (z3 := z3) (z4 := z4) (e := (9, .v (.int .i64 j)) :: (25, .v (.int .i64 j)) :: (24, .clo 46 [.ptr B.length 3 0]) :: (23, .sl .nl z1 []) :: (22, .ptr B.length 2 1) :: (sH B zn now (.sl .nl z1 []) (.sl m3 z3 hs) (.sl m4 z4 (l.map v32))).e) hneg (b2.imp And.left And.left) (d2.imp And.left And.left) (by simp [get]) (by simp [get, sH]) (by simp [get, sH]) (by simp [get, sH])
    refine ⟨s', k2, fun s hs => ?_⟩
    simp only [iter, hs]
    have : evC (EF pg) b23x0 (sH B zn now (.sl .nl z1 []) (.sl m3 z3 _) (.sl m4 z4 (l.map v32))) = some (.rt, s') := bl_ex ((sq_nm (r23n (hrep _ (.inr ⟨rfl, _, rfl⟩)))).trans (sq_rt k1)) (.inr rfl)
    rw [this]
  ·rename_i hneg
   obtain ⟨jn, rfl⟩ := Int.eq_ofNat_of_zero_le (Int.not_lt.1 hneg)
   split at he
   case isFalse => cases he
   rename_i hlen
   simp only [Int.ofNat_eq_natCast, Int.toNat_natCast] at he hj hrep
   obtain ⟨o, ho, hee⟩ := Option.bind_eq_some_iff.1 he
   obtain ⟨z1, hz1, heee⟩ := Option.bind_eq_some_iff.1 hee
   obtain ⟨es', hd', f1, f2, f3, f4⟩ := e45 b2 a1 b1 hz1
   obtain ⟨g1, g2, g3, g4⟩ := g45_len hz1
   obtain ⟨e, q1, q2⟩ := a1.get ho
   obtain ⟨nm, mm, zz, xs, rfl, hmm⟩ := out_rep q2
   have k32 : inK .u32 o.1 = true := (wf_rep q2).1
   have hes : es ≠ [] := fun e => by subst e; simp at q1
   have a2 : L = .sl .mu 6 es := a2.resolve_right fun q => hes q.2.1
   subst a2
   obtain ⟨zn1, zl1, ze1⟩ := z1
   obtain rfl : zn1 = zn := f3
   simp only at g2 g3 g4
   obtain ⟨X, H, q, r1, r2, r3, r4, r5, r6, r7, r8, r9⟩ := exl_ok now n (z := (zn1, zl1, ze1)) (L := .sl .mu 6 es') (E := .sl .mu 2 hd') (d := .sl .app 1 ((l ++ [o.1]).map v32)) heee ⟨es', f1, .inl rfl⟩ ⟨hd', _, _, f2, rfl, .inl ⟨rfl, rfl⟩⟩ ⟨_, _, rfl, .inl ⟨rfl, rfl⟩⟩ (by simp only [maxLn]; omega) (fun x hx => by
    rw [List.mem_append] at hx
    rcases hx with hx | hx
    ·exact hk x hx
    ·simp at hx; rw [hx]; exact k32)
   refine ⟨X, H, q, r1, r2, r3, r4, ?_, by simp only at r6 ⊢; omega, r7, by simp only [List.length_append, List.length_singleton] at r8 ⊢; omega, fun B => ?_⟩
   ·rcases r5 with r5 | r5
    ·right; rw [r5]; exact g3
    ·exact .inr r5
   obtain ⟨s', k1, k2⟩ := r9 B
   refine ⟨s', k1, fun s hs0 => ?_⟩
   simp only [iter, hs0]
   obtain ⟨s2, w1, w2⟩ := r23c (B := B) (nx := zn1) (now := now) (num := o.1) (hd := hs) (ls := l.map v32) (z3 := z3) (z4 := z4) (m3 := m3) (e := (9, .v (.int .i64 jn)) :: (25, .v (.int .i64 jn)) :: (24, .clo 46 [.ptr B.length 3 0]) :: (23, .ref B.length 500003 0 es.length 6) :: (22, .ptr B.length 2 1) :: (sH B zn1 now (.sl .mu 6 es) (.sl m3 z3 hs) (.sl m4 z4 (l.map v32))).e) (out_el a1) q1 (d2.imp id fun q => ⟨q.1, by simp [q.2]⟩) (by simpa using hlen) (by simp [get]) (by simp [get, sH]) (by simp [get, sH]) (by simp [get, sH]) (by simp [get, sH])
    (f4 B [(2, [.v (.int .u32 zn1), .sl .mu 6 es, .sl m3 z3 hs]), (3, [.v (.int .i64 now)]), (4, [.v (.int .u32 0), .sl .nl 0 [], .sl .nl 0 []])] 2 rfl rfl rfl rfl rfl)
   have : evC (EF pg) b23x0 (sH B zn1 now (.sl .mu 6 es) (.sl m3 z3 hs) (.sl m4 z4 (l.map v32))) = some (.nm, s2) := bl_ex ((sq_nm (r23a (out_el a1) (hrep _ (.inl rfl)))).trans w1) (.inl rfl)
   rw [this]
   refine k2 s2 ?_
   rw [w2, List.map_append]; rfl
section
variable {B : List Bx} {nx now : Int} {m1 m2 : Mode} {z1 z2 : Nat} {xs1 xs2 : List D}
theorem d23a (h1 : m1 = .ro ∨ m1 = .nl) (h2 : m2 = .ro ∨ m2 = .nl) {y : Int} (hy : y ≠ 0) (hc : ∀ B, EF pg 20 [.agg [.v (.int .u32 nx), .sl m1 z1 xs1, .sl m2 z2 xs2]] B = some (.v (.int .i64 y), B)) :
  EF pg 23 [.agg [.v (.int .u32 nx), .sl m1 z1 xs1, .sl m2 z2 xs2], .v (.int .i64 now)] B = some (.tup [.agg [.v (.int .u32 0), .sl .nl 0 [], .sl .nl 0 []], .sl .nl 0 [], .v (.int .i64 y)], B) := by
 rw [EF_eq]
 rcases h1 with rfl | rfl <;> rcases h2 with rfl | rfl <;> simp [runF, evC, evOps, evStp, evOp, rd, rdL, rds, get, put, putO, argE, res1, resL, mkRes, doCall, unsnoc_append, S.wl, S.wo, lk, ins, sb, bx, sbx, pick, over, D.strip, D.strip2, D.strip1, D.tupB, D.cells, D.bnd2, D.bnd1, D.frz2, D.frz1, D.frzP, D.sto1, Value.oneCell', zc, bz, Tc.er, TStp.er, u_, ug_, s_, g_, n_, List.map_cons, List.map_nil, List.all_cons, List.all_nil, List.length_cons, List.length_nil, List.drop_succ_cons, List.drop_zero, List.take_succ_cons, List.take_zero, List.nil_append, List.cons_append, List.append_nil, List.getElem?_cons_succ, List.getElem?_cons_zero, Option.bind_some, Option.map_some, D.capB, dwnA, Nat.reduceEqDiff, Nat.reduceAdd, Nat.reduceLeDiff, Nat.reduceSub, Nat.reduceLT, Nat.reduceMul, Nat.zero_add, Nat.add_zero, reduceCtorEq, ↓reduceIte, Bool.and_true, Bool.true_and, Bool.and_self, Bool.not_false, Bool.not_true, decide_true, decide_false, and_self, and_true, true_and, Bool.false_eq_true, ge_iff_le, gt_iff_lt, p23, F23, c23, lay, hc, hy]
theorem d23b (h1 : m1 = .ro ∨ m1 = .nl) (h2 : m2 = .ro ∨ m2 = .nl) (hc : ∀ B, EF pg 20 [.agg [.v (.int .u32 nx), .sl m1 z1 xs1, .sl m2 z2 xs2]] B = some (.v (.int .i64 0), B)) (hw : h42 now 0 1048576 = false) :
  EF pg 23 [.agg [.v (.int .u32 nx), .sl m1 z1 xs1, .sl m2 z2 xs2], .v (.int .i64 now)] B = some (.tup [.agg [.v (.int .u32 0), .sl .nl 0 [], .sl .nl 0 []], .sl .nl 0 [], .v (.int .i64 2)], B) := by
 rw [EF_eq]
 have hw2 := fun B => c42 (x := now) (lo := 0) (hi := 1048576) B
 simp only [hw] at hw2
 rcases h1 with rfl | rfl <;> rcases h2 with rfl | rfl <;> simp [runF, evC, evOps, evStp, evOp, rd, rdL, rds, get, put, putO, argE, res1, resL, mkRes, doCall, unsnoc_append, S.wl, S.wo, lk, ins, sb, bx, sbx, pick, over, D.strip, D.strip2, D.strip1, D.tupB, D.cells, D.bnd2, D.bnd1, D.frz2, D.frz1, D.frzP, D.sto1, Value.oneCell', zc, bz, Tc.er, TStp.er, u_, ug_, s_, g_, n_, List.map_cons, List.map_nil, List.all_cons, List.all_nil, List.length_cons, List.length_nil, List.drop_succ_cons, List.drop_zero, List.take_succ_cons, List.take_zero, List.nil_append, List.cons_append, List.append_nil, List.getElem?_cons_succ, List.getElem?_cons_zero, Option.bind_some, Option.map_some, D.capB, dwnA, Nat.reduceEqDiff, Nat.reduceAdd, Nat.reduceLeDiff, Nat.reduceSub, Nat.reduceLT, Nat.reduceMul, Nat.zero_add, Nat.add_zero, reduceCtorEq, ↓reduceIte, Bool.and_true, Bool.true_and, Bool.and_self, Bool.not_false, Bool.not_true, decide_true, decide_false, and_self, and_true, true_and, Bool.false_eq_true, ge_iff_le, gt_iff_lt, p23, F23, c23, lay, hc, hw2]
def mo (b : Bool) : Mode := if b then .ro else .nl
theorem mo_c {m : Mode} (h : m = .ro ∨ m = .nl) : ∃ b, m = mo b := by rcases h with rfl | rfl; exact ⟨true, rfl⟩; exact ⟨false, rfl⟩
theorem mo_s {b : Bool} {z : Nat} {xs : List D} : (D.sl (mo b) z xs).strip1 = D.sl (mo b) z xs := by cases b <;> rfl
theorem mo_s2 {b : Bool} {z : Nat} {xs : List D} : (D.sl (mo b) z xs).strip2 = D.sl (mo b) z xs := by cases b <;> rfl
theorem mo_s3 {b : Bool} {z : Nat} {xs : List D} : (D.sl (mo b) z xs).strip = D.sl (mo b) z xs := by cases b <;> rfl
theorem st_t {ds : List D} : (D.tup ds).strip = .tup (ds.map D.strip2) := rfl
theorem d23d {nx' : Int} {es hs xX xH xq : List D} {m3 m4 : Mode} {z3 z4 zX zH zq : Nat} {b1 b2 bX bH bq : Bool} {s' : S} (hc : ∀ B, EF pg 20 [.agg [.v (.int .u32 nx), .sl (mo b1) z1 xs1, .sl (mo b2) z2 xs2]] B = some (.v (.int .i64 0), B)) (hw : h42 now 0 1048576 = true)
  (ho : ∀ L, EF pg 33 [.agg [.v (.int .u32 nx), .sl (mo b1) z1 xs1, .sl (mo b2) z2 xs2]] (B ++ [L]) = some (.agg [.v (.int .u32 nx'), .sl m4 z4 es, .sl m3 z3 hs], B ++ [L]))
  (hD : DoneS B nx' (.sl (mo bX) zX xX) (.sl (mo bH) zH xH) (.sl (mo bq) zq xq) s')
  (hl : ∀ e, get 2 e = .ptr B.length 2 0 -> get 3 e = .ptr B.length 3 0 -> get 4 e = .ptr B.length 4 0 -> get 8 e = .sl .nl 0 [] -> evC (EF pg) l23x0 ⟨e, [(2, [.v (.int .u32 nx'), .sl m4 z4 es, .sl m3 z3 hs]), (3, [.v (.int .i64 now)]), (4, [.v (.int .u32 0), .sl .nl 0 [], .sl .nl 0 []])], B⟩ = some (.rt, s')) :
  EF pg 23 [.agg [.v (.int .u32 nx), .sl (mo b1) z1 xs1, .sl (mo b2) z2 xs2], .v (.int .i64 now)] B = some (.tup [.agg [.v (.int .u32 nx'), .sl (mo bX) zX xX, .sl (mo bH) zH xH], .sl (mo bq) zq xq, .v (.int .i64 0)], B) := by
 rw [EF_eq]
 have hw2 := fun B => c42 (x := now) (lo := 0) (hi := 1048576) B
 simp only [hw] at hw2
 obtain ⟨e', l', o'⟩ := s'
 obtain ⟨rfl, g4, ⟨c2, c3, rfl⟩, g5, g6⟩ := hD
 simp only at g4 g5 g6
 simp only [runF, p23, F23, c23]
 simp [runF, evC, evOps, evStp, evOp, rd, rdL, rds, get, put, putO, argE, res1, resL, mkRes, doCall, unsnoc_append, S.wl, S.wo, lk, ins, sb, bx, sbx, pick, over, D.tupB, D.bnd2, D.bnd1, D.frz2, D.frz1, D.frzP, D.sto1, Value.oneCell', zc, bz, Tc.er, TStp.er, u_, ug_, s_, g_, n_, List.map_cons, List.map_nil, List.all_cons, List.all_nil, List.length_cons, List.length_nil, List.drop_succ_cons, List.drop_zero, List.take_succ_cons, List.take_zero, List.nil_append, List.cons_append, List.append_nil, List.getElem?_cons_succ, List.getElem?_cons_zero, Option.bind_some, Option.map_some, D.capB, dwnA, Nat.reduceEqDiff, Nat.reduceAdd, Nat.reduceLeDiff, Nat.reduceSub, Nat.reduceLT, Nat.reduceMul, Nat.zero_add, Nat.add_zero, reduceCtorEq, ↓reduceIte, Bool.and_true, Bool.true_and, Bool.and_self, Bool.not_false, Bool.not_true, decide_true, decide_false, and_self, and_true, true_and, Bool.false_eq_true, ge_iff_le, gt_iff_lt, st_v, st_v1, st_v2, st_p, st_p2, st_u, st_a, st_a2, st_nl, st_nl1, st_t, ce_v, ce_a, ce_s, mo_s, mo_s2, mo_s3, lay, hc, hw2, ho, hl, get, g4, g5, g6, unsnoc2]
end
end Go.Proofs.Ytlhjdikklmkihaa.Ev.U
set_option maxRecDepth 100000
namespace Go.Proofs.Ytlhjdikklmkihaa.Ev.U
open Go
noncomputable def g23 (a0 : FileOut) (now : Int) : Option (FileOut × List Int × Int) :=
 (g20 a0).bind fun y1 => if y1 ≠ 0 then some ((0, [], []), [], y1) else
 if h42 now 0 1048576 = false then some ((0, [], []), [], 2) else
 (g33 a0).bind fun z => (exl now (z.2.1.length + 1) z []).map fun r => (r.1, r.2, 0)
noncomputable def tf23 : TF := .par ⟨[.v YFileOut, .v (.i .i64)], .t YFileOut (.t (.l .ro (.i .u32)) (.i .i64))⟩ (fun x => g23 x.1 x.2)
theorem res3 {x : FileOut} {l : List Int} {y : Int} {d1 d2 : D} (h1 : RepL (EF pg) YFileOut [] x [d1]) (hl : RepL (EF pg) (.l .ro (.i .u32)) [] l [d2]) (h2 : inK .i64 y = true) : Rep4 (c0 (EF pg)) (resW (.t YFileOut (.t (.l .ro (.i .u32)) (.i .i64))) (x, l, y)) (.tup [d1, d2, .v (.int .i64 y)]) := by
 have h : RepL (EF pg) (.t YFileOut (.t (.l .ro (.i .u32)) (.i .i64))) [] (x, l, y) [d1, d2, .v (.int .i64 y)] := ⟨⟨rfl, rfl⟩, d1, _, rfl, h1, ⟨rfl, rfl⟩, d2, _, rfl, hl, rfl, h2⟩
 exact ⟨_, rfl, tupW_ok (c := c0 (EF pg)) rfl h⟩
theorem nil_rep : RepL (EF pg) (.l .ro (.i .u32)) [] ([] : List Int) [.sl .nl 0 []] := ⟨Nat.zero_le _, [], trivial, .inr ⟨rfl, _, rfl⟩⟩
theorem u32_all : ∀ {l : List Int}, (∀ x ∈ l, inK .u32 x = true) -> All2 (fun (y : Int) e => RepL (EF pg) (.i .u32) [] y [e]) l (l.map v32)
 | [], _ => trivial
 | x :: l, h => ⟨⟨rfl, h x (by simp)⟩, u32_all fun y hy => h y (by simp [hy])⟩
theorem o23 : TOK (EF pg) 23 tf23 := by
 refine ⟨fun F n rg K Y hc hK x ds harg y hy => ?_, trivial⟩
 obtain ⟨ha, rfl, rfl⟩ := argl_inv (by simp [tf23, TF.sg]) harg
 obtain ⟨x0, x1⟩ := x
 have hrep : RepL (EF pg) (.t YFileOut (.i .i64)) F (x0, x1) ds := (tup_inv (c := ⟨EF pg, F, n, [], K⟩) (τ := .t YFileOut (.i .i64)) rfl ha).2
 obtain ⟨_, d0, q, rfl, r0, hrep⟩ := hrep
 obtain ⟨d3, hd3⟩ : ∃ d, q = [d] := one_sing rfl hrep
 subst hd3
 obtain ⟨rfl, k3⟩ := i_d hrep
 have r00 : RepL (EF pg) YFileOut [] x0 [d0] := RepL.fo rfl r0
 obtain ⟨m1, z1, es, m2, z2, hs, rfl, h1, h2, k0, w1, w2⟩ := fo_rep r0
 have hy : g23 x0 x1 = some y := hy
 unfold g23 at hy
 obtain ⟨y1, hy1, hy⟩ := Option.bind_eq_some_iff.1 hy
 have hc20 := fun B => c20 r00 hy1 B
 split at hy
 ·rename_i hne
  have := Option.some.inj hy
  subst this
  exact ⟨_, [], res3 none_rep nil_rep (c20k r00 hy1), trivial, fun B hB hat => d23a h1 h2 hne hc20⟩
 rename_i hne
 have hz : y1 = 0 := by simpa using hne
 subst hz
 split at hy
 ·rename_i hw
  have := Option.some.inj hy
  subst this
  exact ⟨_, [], res3 none_rep nil_rep rfl, trivial, fun B hB hat => d23b h1 h2 hc20 hw⟩
 rename_i hw
 have hw : h42 x1 0 1048576 = true := by simpa using hw
 obtain ⟨z, hz, hy⟩ := Option.bind_eq_some_iff.1 hy
 obtain ⟨r, hr0, rfl⟩ := Option.map_eq_some_iff.1 hy
 obtain ⟨z', l'⟩ := r
 obtain ⟨zn, zl, ze⟩ := z
 obtain ⟨dr, hr, ho⟩ := c33 r00 hz (n + 1)
 obtain ⟨d2, d3, rfl, kn, q2, q3⟩ := own_rep hr
 have hmax : zl.length <= maxLn := q2.1
 have hmaxe : ze.length <= maxLn := q3.1
 obtain ⟨X, H, q, e1, e2, e3, e4, e5, e6, e7, e8, e9⟩ := exl_ok x1 (zl.length + 1) (L := d2) (E := d3) (d := .sl .nl 0 []) hr0 (mu_rep q2) (mu_rep2 q3) ⟨.nl, 0, rfl, .inr ⟨rfl, rfl⟩⟩ hmax (by simp)
 obtain ⟨zn', zl', ze'⟩ := z'
 obtain rfl : zn' = zn := e1
 simp only at e5 e6 e8
 obtain ⟨xX, f1, f2⟩ := e2
 obtain ⟨xH, f3, f4⟩ := e3
 have rX : RepL (EF pg) (.l .ro YOutgoing) [] zl' [X] := ⟨by omega, xX, f1, by
  rcases f2 with rfl | ⟨rfl, z, rfl⟩
  ·exact .inl rfl
  ·exact .inr ⟨rfl, z, rfl⟩⟩
 have rH : RepL (EF pg) (.l .ro YEnded) [] ze' [H] := ⟨by
  rcases e5 with e5 | e5
  ·rw [e5]; exact hmaxe
  ·simp only [maxLn]; omega, xH, f3, by
  rcases f4 with rfl | ⟨rfl, z, rfl⟩
  ·exact .inl rfl
  ·exact .inr ⟨rfl, z, rfl⟩⟩
 have rq : RepL (EF pg) (.l .ro (.i .u32)) [] l' [q] := by
  have hll : List.length (α := Int) l' <= maxLn := by simp at e8; omega
  rcases e4 with rfl | ⟨rfl, z, rfl⟩
  ·exact ⟨hll, _, u32_all e7, .inl rfl⟩
  ·exact ⟨hll, [], trivial, .inr ⟨rfl, z, rfl⟩⟩
 have rr : RepL (EF pg) YFileOut [] (zn', zl', ze') [.agg [.v (.int .u32 zn'), X, H]] := ⟨rfl, _, rfl, ⟨rfl, rfl⟩, _, _, rfl, ⟨rfl, kn⟩, ⟨rfl, rfl⟩, _, _, rfl, rX, rH⟩
 refine ⟨.tup [.agg [.v (.int .u32 zn'), X, H], q, .v (.int .i64 0)], [], res3 rr rq rfl, trivial, fun B hB hat => ?_⟩
 obtain ⟨s', k1, k2⟩ := e9 B
 obtain ⟨b1, rfl⟩ := mo_c h1
 obtain ⟨b2, rfl⟩ := mo_c h2
 obtain ⟨bX, zX, xX', hX⟩ : ∃ b z xs, X = .sl (mo b) z xs := by
  rcases f2 with rfl | ⟨rfl, z, rfl⟩
  ·exact ⟨true, _, _, rfl⟩
  ·exact ⟨false, _, _, rfl⟩
 obtain ⟨bH, zH, xH', hH⟩ : ∃ b z xs, H = .sl (mo b) z xs := by
  rcases f4 with rfl | ⟨rfl, z, rfl⟩
  ·exact ⟨true, _, _, rfl⟩
  ·exact ⟨false, _, _, rfl⟩
 obtain ⟨bq, zq, xq, hq⟩ : ∃ b z xs, q = .sl (mo b) z xs := by
  rcases e4 with rfl | ⟨rfl, z, rfl⟩
  ·exact ⟨true, _, _, rfl⟩
  ·exact ⟨false, _, _, rfl⟩
 obtain ⟨m4, z4, x4, h4⟩ : ∃ m z xs, d2 = .sl m z xs := by
  obtain ⟨es1, a1, hd2⟩ := mu_rep q2
  rcases hd2 with rfl | ⟨_, _, z, rfl⟩ <;> exact ⟨_, _, _, rfl⟩
 obtain ⟨m3, z3, x3, h3⟩ : ∃ m z xs, d3 = .sl m z xs := by
  obtain ⟨es1, m, z, a1, rfl, _⟩ := mu_rep2 q3
  exact ⟨_, _, _, rfl⟩
 subst hX hH hq h4 h3
 refine d23d hc20 hw (fun L => ho _ (by simp [hB.len])) k1 fun e g2 g3 g4 g8 => ?_
 simp only [l23x0, evC]
 refine lim_eq (n := zl.length + 1) (fun n r => iter_step n r) (k2 _ ?_)
 simp [carry, carE, carL, g2, g3, g4, g8, lk, D.inn, D.in2, D.in1, sH]
end Go.Proofs.Ytlhjdikklmkihaa.Ev.U
namespace Go.Proofs.Ytlhjdikklmkihaa.Ev.U
open Go
noncomputable def g5x0 (s : Int × Int × Int × (List Int) × Int × Int × (List Outgoing) × Int × Int × Int × (List Outgoing) × (List Ended) × Int × Int × Int × (List Outgoing) × (List Ended) × Int × (List Outgoing) × List Ended) : Option ((Int × Int × Int × (List Int) × Int × Int × (List Outgoing) × Int × Int × Int × (List Outgoing) × (List Ended) × Int × Int × Int × (List Outgoing) × (List Ended) × Int × (List Outgoing) × List Ended) ⊕ ((Int × Int × (List Int) × Int × Int × Int × (List Outgoing) × (List Ended) × Int × Int × Int × (List Outgoing) × (List Ended) × Int × (List Outgoing) × List Ended))) :=
if (decide (s.2.2.2.2.2.2.2.2.1 < s.2.2.2.2.2.2.2.1)) then
((idx s.2.2.2.2.2.2.1 s.2.2.2.2.2.2.2.2.1).bind fun y17 =>
if (if (y17.1 == s.2.2.2.2.2.2.2.2.2.2.2.2.1) then (y17.2.1 == s.1) else false) then
(
some (Sum.inl (s.1, s.2.1, s.2.2.1, s.2.2.2.1, s.2.2.2.2.1, s.2.2.2.2.2.2.2.2.1, s.2.2.2.2.2.2.1, s.2.2.2.2.2.2.2.1, (IntKind.i64.wrap (s.2.2.2.2.2.2.2.2.1 + (1 : Int))), s.2.2.2.2.2.2.2.2.2.1, s.2.2.2.2.2.2.2.2.2.2.1, s.2.2.2.2.2.2.2.2.2.2.2.1, s.2.2.2.2.2.2.2.2.2.2.2.2.1, s.2.2.2.2.2.2.2.2.2.2.2.2.2.1, s.2.2.2.2.2.2.2.2.2.2.2.2.2.2.1, s.2.2.2.2.2.2.2.2.2.2.2.2.2.2.2.1, s.2.2.2.2.2.2.2.2.2.2.2.2.2.2.2.2.1, s.2.2.2.2.2.2.2.2.2.2.2.2.2.2.2.2.2.1, s.2.2.2.2.2.2.2.2.2.2.2.2.2.2.2.2.2.2.1, s.2.2.2.2.2.2.2.2.2.2.2.2.2.2.2.2.2.2.2)))
else
(
some (Sum.inl (s.1, s.2.1, s.2.2.1, s.2.2.2.1, s.2.2.2.2.1, s.2.2.2.2.2.1, s.2.2.2.2.2.2.1, s.2.2.2.2.2.2.2.1, (IntKind.i64.wrap (s.2.2.2.2.2.2.2.2.1 + (1 : Int))), s.2.2.2.2.2.2.2.2.2.1, s.2.2.2.2.2.2.2.2.2.2.1, s.2.2.2.2.2.2.2.2.2.2.2.1, s.2.2.2.2.2.2.2.2.2.2.2.2.1, s.2.2.2.2.2.2.2.2.2.2.2.2.2.1, s.2.2.2.2.2.2.2.2.2.2.2.2.2.2.1, s.2.2.2.2.2.2.2.2.2.2.2.2.2.2.2.1, s.2.2.2.2.2.2.2.2.2.2.2.2.2.2.2.2.1, s.2.2.2.2.2.2.2.2.2.2.2.2.2.2.2.2.2.1, s.2.2.2.2.2.2.2.2.2.2.2.2.2.2.2.2.2.2.1, s.2.2.2.2.2.2.2.2.2.2.2.2.2.2.2.2.2.2.2))))
else
(some (Sum.inr (s.2.1, s.2.2.1, s.2.2.2.1, s.2.2.2.2.1, s.2.2.2.2.2.1, s.2.2.2.2.2.2.2.2.2.1, s.2.2.2.2.2.2.2.2.2.2.1, s.2.2.2.2.2.2.2.2.2.2.2.1, s.2.2.2.2.2.2.2.2.2.2.2.2.1, s.2.2.2.2.2.2.2.2.2.2.2.2.2.1, s.2.2.2.2.2.2.2.2.2.2.2.2.2.2.1, s.2.2.2.2.2.2.2.2.2.2.2.2.2.2.2.1, s.2.2.2.2.2.2.2.2.2.2.2.2.2.2.2.2.1, s.2.2.2.2.2.2.2.2.2.2.2.2.2.2.2.2.2.1, s.2.2.2.2.2.2.2.2.2.2.2.2.2.2.2.2.2.2.1, s.2.2.2.2.2.2.2.2.2.2.2.2.2.2.2.2.2.2.2)))
noncomputable def g5x1 (s : Int × (List Int) × Int × (List Int) × Int × Int × (List Outgoing) × (List Ended) × Int × (List Outgoing) × List Ended) : Option ((Int × (List Int) × Int × (List Int) × Int × Int × (List Outgoing) × (List Ended) × Int × (List Outgoing) × List Ended) ⊕ (((List Int) × Int × (List Int) × Int × (List Outgoing) × (List Ended) × Int × (List Outgoing) × List Ended))) :=
if (decide (s.2.2.2.2.1 < (s.2.2.2.2.2.2.2.2.2.1.length : Int))) then
((idx s.2.2.2.2.2.2.2.2.2.1 s.2.2.2.2.1).bind fun y49 =>
if (decide (y49.2.2.2.2.2 > s.1)) then
(
some (Sum.inl (s.1, s.2.1, s.2.2.1, s.2.2.2.1, (IntKind.i64.wrap (s.2.2.2.2.1 + (1 : Int))), s.2.2.2.2.2.1, s.2.2.2.2.2.2.1, s.2.2.2.2.2.2.2.1, s.2.2.2.2.2.2.2.2.1, s.2.2.2.2.2.2.2.2.2.1, s.2.2.2.2.2.2.2.2.2.2)))
else
((idx s.2.2.2.2.2.2.2.2.2.1 s.2.2.2.2.1).bind fun y52 =>
(apd 4 s.2.2.2.1 ([y52.1])).bind fun y53 =>
(g24 s.2.2.2.2.2.2.2.2 s.2.2.2.2.1 (254 : Int)).bind fun y54 =>
some (Sum.inl (s.1, s.2.1, s.2.2.1, y53, s.2.2.2.2.1, s.2.2.2.2.2.1, s.2.2.2.2.2.2.1, s.2.2.2.2.2.2.2.1, y54.1, y54.2.1, y54.2.2))))
else
(some (Sum.inr (s.2.1, s.2.2.1, s.2.2.2.1, s.2.2.2.2.2.1, s.2.2.2.2.2.2.1, s.2.2.2.2.2.2.2.1, s.2.2.2.2.2.2.2.2.1, s.2.2.2.2.2.2.2.2.2.1, s.2.2.2.2.2.2.2.2.2.2)))
noncomputable def g5x2 (s : (List Int) × (List Int) × Int × Int) : Option (((List Int) × (List Int) × Int × Int) ⊕ (Unit ⊕ Bool)) :=
if (decide (s.2.2.2 < s.2.2.1)) then
((idx s.1 s.2.2.2).bind fun y66 =>
(idx s.2.1 s.2.2.2).bind fun y67 =>
if (y66 != y67) then
(some (Sum.inr (Sum.inr (false))))
else
(
some (Sum.inl (s.1, s.2.1, s.2.2.1, (IntKind.i64.wrap (s.2.2.2 + (1 : Int)))))))
else
(some (Sum.inr (Sum.inl ())))
noncomputable def g5 (a0 : FileOut) (a1 : Ended) (a2 : Int × Int) : Option Bool :=
if (!true) then
(some false)
else
((g8 a0 []).bind fun y2 =>
if y2 then
(some true)
else
((g13 a0).bind fun y3 =>
(g22 y3 a2.1 a1.1 a1.2).bind fun y4 =>
(g13 a0).bind fun y5 =>
(g23 y5 a2.2).bind fun y6 =>
(g14 a0).bind fun y7 =>
if (!y7) then
((g19 y4.1 y4.2 (310 : Int)).bind fun y9 =>
(if y9 then g19 y6.1 y6.2.2 (310 : Int) else some false).bind fun y10 =>
some (if (if y9 then y10 else false) then ((y6.2.1.length : Int) == (0 : Int)) else false))
else
(
(lpU g5x0 (a2.1, a2.2, y4.2, y6.2.1, y6.2.2, (-1 : Int), a0.2.1, (a0.2.1.length : Int), (0 : Int), a0.1, a0.2.1, a0.2.2, a1.1, a1.2, y4.1.1, y4.1.2.1, y4.1.2.2, y6.1.1, y6.1.2.1, y6.1.2.2)).bind fun z23 =>
(
if (if (decide (z23.2.2.2.2.2.2.2.2.2.1 < (0 : Int))) then true else (decide (z23.2.2.2.2.2.2.2.2.2.1 > (255 : Int)))) then
((g19 (z23.2.2.2.2.2.2.2.2.2.2.1, z23.2.2.2.2.2.2.2.2.2.2.2.1, z23.2.2.2.2.2.2.2.2.2.2.2.2.1) z23.2.1 (2 : Int)).bind fun y27 =>
if (!y27) then
(some (Sum.inr (false)))
else
(some (Sum.inl (z23.1, z23.2.2.1, z23.2.2.2.1, z23.2.2.2.2.2.1, z23.2.2.2.2.2.2.1, z23.2.2.2.2.2.2.2.1, z23.2.2.2.2.2.2.2.2.2.2.2.2.2.1, z23.2.2.2.2.2.2.2.2.2.2.2.2.2.2.1, z23.2.2.2.2.2.2.2.2.2.2.2.2.2.2.2))))
else
(
if (decide (z23.2.2.2.2.1 < (0 : Int))) then
((g19 (z23.2.2.2.2.2.2.2.2.2.2.1, z23.2.2.2.2.2.2.2.2.2.2.2.1, z23.2.2.2.2.2.2.2.2.2.2.2.2.1) z23.2.1 (4 : Int)).bind fun y30 =>
if (!y30) then
(some (Sum.inr (false)))
else
(some (Sum.inl (z23.1, z23.2.2.1, z23.2.2.2.1, z23.2.2.2.2.2.1, z23.2.2.2.2.2.2.1, z23.2.2.2.2.2.2.2.1, z23.2.2.2.2.2.2.2.2.2.2.2.2.2.1, z23.2.2.2.2.2.2.2.2.2.2.2.2.2.2.1, z23.2.2.2.2.2.2.2.2.2.2.2.2.2.2.2))))
else
(let x32 := z23.2.1 != (0 : Int)
(if (!x32) then g24 (z23.2.2.2.2.2.1, z23.2.2.2.2.2.2.1, z23.2.2.2.2.2.2.2.1) z23.2.2.2.2.1 z23.2.2.2.2.2.2.2.2.2.1 else some ((0 : Int), ([], []))).bind fun y33 =>
(if (!x32) then g15 (z23.2.2.2.2.2.2.2.2.2.2.1, z23.2.2.2.2.2.2.2.2.2.2.2.1, z23.2.2.2.2.2.2.2.2.2.2.2.2.1) y33 else some false).bind fun y34 =>
if (if x32 then true else (!y34)) then
(some (Sum.inr (false)))
else
(some (Sum.inl (z23.1, z23.2.2.1, z23.2.2.2.1, z23.2.2.2.2.2.1, z23.2.2.2.2.2.2.1, z23.2.2.2.2.2.2.2.1, z23.2.2.2.2.2.2.2.2.2.2.2.2.2.1, z23.2.2.2.2.2.2.2.2.2.2.2.2.2.2.1, z23.2.2.2.2.2.2.2.2.2.2.2.2.2.2.2)))))).bind fun z37 =>
match z37 with
| Sum.inl z38 => (let x40 := decide (z38.1 < (0 : Int))
if (if x40 then true else (decide (z38.1 > (1048576 : Int)))) then
((g19 z38.2.2.2.2.2.2 z38.2.2.1 (2 : Int)).bind fun y43 =>
some (if y43 then ((z38.2.1.length : Int) == (0 : Int)) else false))
else
((lpU g5x1 (z38.1, z38.2.1, z38.2.2.1, [], (0 : Int), z38.2.2.2.2.2.2.1, z38.2.2.2.2.2.2.2.1, z38.2.2.2.2.2.2.2.2, z38.2.2.2.1, z38.2.2.2.2.1, z38.2.2.2.2.2.1)).bind fun z55 =>
let x60 := if (z55.2.1 != (0 : Int)) then true else ((z55.1.length : Int) != (z55.2.2.1.length : Int))
(if (!x60) then g15 (z55.2.2.2.1, z55.2.2.2.2.1, z55.2.2.2.2.2.1) z55.2.2.2.2.2.2 else some false).bind fun y61 =>
if (if x60 then true else (!y61)) then
(some false)
else
(
(lpU g5x2 (z55.1, z55.2.2.1, (z55.1.length : Int), (0 : Int))).bind fun z70 =>
match z70 with
| Sum.inl z71 => (some true)
| Sum.inr z72 => (some z72))))
| Sum.inr z39 => (some z39))))
noncomputable def tf5 : TF := .par ⟨[.v YFileOut, .v YEnded, .v (.g (.p (.i .i64) (.i .i64)))], .b⟩ (fun x => g5 x.1 x.2.1 x.2.2)
theorem e5 : evFn (tabU [(8, tf8), (13, tf13), (14, tf14), (15, tf15), (19, tf19), (22, tf22), (23, tf23), (24, tf24)]) ⟨F5.res, F5.keep, tf5.sg⟩ T5 = fun x => g5 x.1 x.2.1 x.2.2 := by kernel_rfl
theorem o5 : TOK1 (EF pg) (run1 E5 (EF pg)) tf5 := tok_run rfl (tabU_cons o8 (tabU_cons o13 (tabU_cons o14 (tabU_cons o15 (tabU_cons o19 (tabU_cons o22 (tabU_cons o23 (tabU_cons o24 (tabU_nil))))))))) ⟨rfl, rfl, by decide⟩ rfl (rndOk_of rfl) fun x y h => (congrFun e5 x).trans h
theorem v5 (ds : List D) : EF pg 5 ds [] = run1 E5 (EF pg) ds [] := (EF_run1 p5 rfl ds []).trans (wk_run1 (F := F5) (F' := E5) wakes_ok rfl rfl ds)
end Go.Proofs.Ytlhjdikklmkihaa.Ev.U
namespace Go.Proofs.Ytlhjdikklmkihaa.Ev.U
open Go
theorem wi64 {n : Int} (h : -9223372036854775808 <= n ∧ n <= 9223372036854775807) : IntKind.i64.wrap n = n := by
 simp [IntKind.wrap, IntKind.bits, IntKind.signed]; omega
theorem wu32 {n : Int} (h : 0 <= n ∧ n < 4294967296) : IntKind.u32.wrap n = n := by
 simp [IntKind.wrap, IntKind.bits, IntKind.signed]; omega
theorem wu8 {n : Int} (h : 0 <= n ∧ n < 256) : IntKind.u8.wrap n = n := by
 simp [IntKind.wrap, IntKind.bits, IntKind.signed]; omega
theorem wnext {i : Nat} (h : i < 1000000000000) : IntKind.i64.wrap ((i : Int) + 1) = ((i + 1 : Nat) : Int) := by rw [wi64 (by omega)]; omega
theorem idx_nat {α : Type} (xs : List α) (i : Nat) : idx xs (i : Int) = xs[i]? := by
 unfold idx
 rw [if_pos (by omega), Int.toNat_natCast]
theorem idx_some' {α : Type} {xs : List α} {i : Nat} (h : i < xs.length) : idx xs (i : Int) = some xs[i] := by rw [idx_nat, List.getElem?_eq_getElem h]
theorem apd_ok {α : Type} {b : Nat} {xs ys : List α} (h : (xs.length + ys.length) * b <= 140737488355328) : apd b xs ys = some (xs ++ ys) := if_pos h
theorem mkl_ok {α : Type} {b : Nat} {n c : Int} {x : α} (h0 : 0 <= n) (h1 : n <= c) (h2 : (b : Int) * c <= 140737488355328) : mkl b n c x = some (List.replicate n.toNat x) := if_pos ⟨h0, h1, h2⟩
theorem eqI_self (n : Int) : eqI n n = some () := if_pos rfl
theorem chkI_some {m n : Int} (h : 0 <= m ∧ m < n) : chkI m n = some () := if_pos h
theorem chkS_some {l h n : Int} (q : 0 <= l ∧ l <= h ∧ h <= n) : chkS l h n = some () := if_pos q
theorem amb_e {ρ : Type} {ne : Bool} {f : Bool -> Option ρ} {e : Bool} (h : e = true -> f true = f false) : amb e ne f = f ne := by
 unfold amb
 cases e with
 | false => rfl
 | true =>
  rw [if_pos rfl, if_pos (h rfl)]
  cases ne with
  | true => rfl
  | false => exact h rfl
theorem lp_next {σ ξ : Type} {body : σ -> Option (σ ⊕ ξ)} {s s' : σ} (h : body s = some (.inl s')) : lpU body s = lpU body s' := by rw [lpU_eq, h]
theorem lp_end {σ ξ : Type} {body : σ -> Option (σ ⊕ ξ)} {s : σ} {x : ξ} (h : body s = some (.inr x)) : lpU body s = some x := by rw [lpU_eq, h]
theorem drop_cons' {α : Type} {l : List α} {i : Nat} (h : i < l.length) : l.drop i = l[i] :: l.drop (i + 1) := List.drop_eq_getElem_cons h
theorem eq_step {α : Type} {x y : List α} (hl : x.length = y.length) {i : Nat} (hi : i < x.length) : (x.drop i = y.drop i) ↔ (x[i] = y[i]'(by omega) ∧ x.drop (i + 1) = y.drop (i + 1)) := by
 rw [drop_cons' hi, drop_cons' (show i < y.length by omega), List.cons.injEq]
theorem len_ne {α : Type} {x y : List α} (h : ((x.length : Int) != (y.length : Int)) = true) : x ≠ y := by
 intro e; subst e; simp at h
theorem len_eq {α : Type} {x y : List α} (h : ((x.length : Int) != (y.length : Int)) = false) : x.length = y.length := by
 have : (x.length : Int) = y.length := by simpa using h
 omega
end Go.Proofs.Ytlhjdikklmkihaa.Ev.U
namespace Go.Proofs.Ytlhjdikklmkihaa.Ev.U
open Go
structure SmO (o : Outgoing) : Prop where
 nm : o.2.2.1.length <= 1000
 by_ : o.2.2.2.1.length <= 5000
structure SmF (f : FileOut) : Prop where
 l : f.2.1.length <= 20
 e : f.2.2.length <= 100
 o : ∀ x ∈ f.2.1, SmO x
theorem w41 (x : List Int) (h : x.length <= 5000) : g41 x = some x := by
 unfold g41
 rw [amb_e (fun h => by
  obtain rfl : x = [] := by simpa using h
  rfl)]
 rw [if_neg (by simp), apd_ok (by simp; omega)]; rfl
theorem w55 (x : List Ended) (h : x.length <= 100) : g55 x = some x := by
 unfold g55
 rw [amb_e (fun h => by
  obtain rfl : x = [] := by simpa using h
  rfl)]
 rw [if_neg (by simp), apd_ok (by simp; omega)]; rfl
theorem take_snoc {α : Type} {xs : List α} {i : Nat} (h : i < xs.length) : xs.take i ++ [xs[i]] = xs.take (i + 1) := by rw [List.take_succ, List.getElem?_eq_getElem h]; rfl
theorem l33 (xs : List Outgoing) (e : List Ended) (a q : Int) (hl : xs.length <= 20) (ho : ∀ x ∈ xs, SmO x) : ∀ k i, i + k = xs.length -> lpU g33x0 (xs, (xs.length : Int), (i : Int), a, xs.take i, e, q) = some (a, xs, e, q)
 | 0, i, hi => by
  have hd : decide ((i : Int) < (xs.length : Int)) = false := decide_eq_false (by omega)
  rw [lp_end (x := (a, xs.take i, e, q)) (by simp only [g33x0, hd, Bool.false_eq_true, if_false]), List.take_of_length_le (by omega)]
 | k + 1, i, hi => by
  have hd : decide ((i : Int) < (xs.length : Int)) = true := decide_eq_true (by omega)
  have h1 : i < xs.length := by omega
  have hs := ho xs[i] (List.getElem_mem h1)
  rw [lp_next (s' := (xs, (xs.length : Int), ((i + 1 : Nat) : Int), a, xs.take (i + 1), e, q)) (by
   simp only [g33x0, hd, if_true, idx_some' h1, Option.bind_some, w41 _ hs.by_, wnext (show i < 1000000000000 by omega)]
   rw [apd_ok (by simp; omega), <- take_snoc h1]; rfl)]
  exact l33 xs e a q hl ho k (i + 1) (by omega)
theorem w33 (f : FileOut) (h : SmF f) : g33 f = some f := by
 unfold g33
 rw [w55 _ h.e]
 have := l33 f.2.1 f.2.2 f.1 0 h.l h.o f.2.1.length 0 (by omega)
 simp only [Option.bind_some]
 rw [show (([] : List Outgoing)) = f.2.1.take 0 from rfl]
 rw [show ((0 : Int)) = ((0 : Nat) : Int) from rfl] at this ⊢
 rw [this]; rfl
theorem l13 (xs : List Outgoing) (e : List Ended) (a q : Int) (hl : xs.length <= 20) (ho : ∀ x ∈ xs, SmO x) : ∀ k i, i + k = xs.length -> lpU g13x0 (xs, (xs.length : Int), (i : Int), q, a, xs.take i, e) = some (q, a, xs, e)
 | 0, i, hi => by
  have hd : decide ((i : Int) < (xs.length : Int)) = false := decide_eq_false (by omega)
  rw [lp_end (x := (q, a, xs.take i, e)) (by simp only [g13x0, hd, Bool.false_eq_true, if_false]), List.take_of_length_le (by omega)]
 | k + 1, i, hi => by
  have hd : decide ((i : Int) < (xs.length : Int)) = true := decide_eq_true (by omega)
  have h1 : i < xs.length := by omega
  have hs := ho xs[i] (List.getElem_mem h1)
  have hb := hs.by_
  rw [lp_next (s' := (xs, (xs.length : Int), ((i + 1 : Nat) : Int), q, a, xs.take (i + 1), e)) (by
   simp only [g13x0, hd, if_true, idx_some' h1, Option.bind_some, wnext (show i < 1000000000000 by omega)]
   rw [apd_ok (by simp; omega)]
   simp only [Option.bind_some]
   rw [apd_ok (by simp; omega), <- take_snoc h1]; rfl)]
  exact l13 xs e a q hl ho k (i + 1) (by omega)
theorem w13 (f : FileOut) (h : SmF f) : g13 f = some f := by
 unfold g13
 have he := h.e
 rw [apd_ok (by simp; omega)]
 have := l13 f.2.1 f.2.2 f.1 0 h.l h.o f.2.1.length 0 (by omega)
 simp only [Option.bind_some]
 rw [show (([] : List Outgoing)) = f.2.1.take 0 from rfl]
 rw [show ((0 : Int)) = ((0 : Nat) : Int) from rfl] at this ⊢
 simp only [List.nil_append]
 rw [this]; rfl
theorem l8 (xs : List Outgoing) (hl : xs.length <= 20) : ∀ k i, i + k = xs.length -> lpU g8x0 (xs, (xs.length : Int), (i : Int)) = some (.inr true) ∨ (lpU g8x0 (xs, (xs.length : Int), (i : Int)) = some (.inl ()) ∧ ∀ x ∈ xs.drop i, SmO x)
 | 0, i, hi => by
  have hd : decide ((i : Int) < (xs.length : Int)) = false := decide_eq_false (by omega)
  right
  rw [lp_end (x := .inl ()) (by simp only [g8x0, hd, Bool.false_eq_true, if_false]), List.drop_of_length_le (by omega)]
  exact ⟨rfl, by simp⟩
 | k + 1, i, hi => by
  have hd : decide ((i : Int) < (xs.length : Int)) = true := decide_eq_true (by omega)
  have h1 : i < xs.length := by omega
  by_cases hc : (xs[i].2.2.2.1.length : Int) > 5000 ∨ (xs[i].2.2.1.length : Int) > 1000
  ·left
   rw [lp_end (x := .inr true) (by
    simp only [g8x0, hd, if_true, idx_some' h1, Option.bind_some]
    rw [if_pos (by rcases hc with hc | hc <;> simp [hc])])]
  ·have hn : ¬ ((xs[i].2.2.2.1.length : Int) > 5000) ∧ ¬ ((xs[i].2.2.1.length : Int) > 1000) := not_or.1 hc
   rw [lp_next (s' := (xs, (xs.length : Int), ((i + 1 : Nat) : Int))) (by
    simp only [g8x0, hd, if_true, idx_some' h1, Option.bind_some, wnext (show i < 1000000000000 by omega)]
    rw [if_neg (by simp [hn.1, hn.2])])]
   rcases l8 xs hl k (i + 1) (by omega) with h | ⟨h, h2⟩
   ·exact .inl h
   ·refine .inr ⟨h, fun x hx => ?_⟩
    rw [drop_cons' h1] at hx
    rcases List.mem_cons.1 hx with rfl | hx
    ·exact ⟨by omega, by omega⟩
    ·exact h2 x hx
theorem w8 (f : FileOut) : g8 f [] = some true ∨ (g8 f [] = some false ∧ SmF f) := by
 unfold g8
 by_cases hc : (f.2.1.length : Int) > 20 ∨ (f.2.2.length : Int) > 100
 ·left
  rw [if_pos (by rcases hc with hc | hc <;> simp [hc])]
 ·have hn : ¬ ((f.2.1.length : Int) > 20) ∧ ¬ ((f.2.2.length : Int) > 100) := not_or.1 hc
  rw [if_neg (by simp [hn.1, hn.2]), apd_ok (by simp; omega)]
  simp only [Option.bind_some, List.nil_append]
  rw [apd_ok (by simp; omega)]
  simp only [Option.bind_some, List.append_nil]
  rw [show ((0 : Int)) = ((0 : Nat) : Int) from rfl]
  rcases l8 f.2.1 (by omega) f.2.1.length 0 (by omega) with h | ⟨h, h2⟩
  ·left; rw [h]; rfl
  ·right; rw [h]; exact ⟨rfl, ⟨by omega, by omega, fun x hx => h2 x (by simpa using hx)⟩⟩
theorem l32 (x : List Int) (hb : x.length < 1000000000) : ∀ k i, i + k = x.length -> lpU g32x0 (x, x, (i : Int)) = some (.inl ())
 | 0, i, hi => by
  have hd : decide ((i : Int) < (x.length : Int)) = false := decide_eq_false (by omega)
  rw [lp_end (x := .inl ()) (by simp only [g32x0, hd, Bool.false_eq_true, if_false])]
 | k + 1, i, hi => by
  have hd : decide ((i : Int) < (x.length : Int)) = true := decide_eq_true (by omega)
  have h1 : i < x.length := by omega
  rw [lp_next (s' := (x, x, ((i + 1 : Nat) : Int))) (by simp [h1, g32x0, hd, idx_some' h1, wnext (show i < 1000000000000 by omega)])]
  exact l32 x hb k (i + 1) (by omega)
theorem w32 (x : List Int) (hb : x.length < 1000000000) : g32 x x = some true := by
 unfold g32
 rw [if_neg (by simp), show ((0 : Int)) = ((0 : Nat) : Int) from rfl, l32 x hb x.length 0 (by omega)]; rfl
theorem l15 (a b : Int) (xs : List Outgoing) (e1 e2 : List Ended) (hl : xs.length <= 20) (ho : ∀ x ∈ xs, SmO x) : ∀ k i, i + k = xs.length -> lpU g15x0 ((i : Int), a, xs, e1, b, xs, e2) = some (.inl (a, xs, e1, b, xs, e2))
 | 0, i, hi => by
  have hd : decide ((i : Int) < (xs.length : Int)) = false := decide_eq_false (by omega)
  rw [lp_end (x := .inl (a, xs, e1, b, xs, e2)) (by simp only [g15x0, hd, Bool.false_eq_true, if_false])]
 | k + 1, i, hi => by
  have hd : decide ((i : Int) < (xs.length : Int)) = true := decide_eq_true (by omega)
  have h1 : i < xs.length := by omega
  have hs := (ho xs[i] (List.getElem_mem h1)).by_
  rw [lp_next (s' := (((i + 1 : Nat) : Int), a, xs, e1, b, xs, e2)) (by
   simp [h1, g15x0, hd, idx_some' h1, wnext (show i < 1000000000000 by omega), w32 _ (show xs[i].2.2.2.1.length < 1000000000 by omega)])]
  exact l15 a b xs e1 e2 hl ho k (i + 1) (by omega)
theorem l15b (a b : Int) (xs ys : List Outgoing) (e : List Ended) (hl : e.length <= 1000) : ∀ k i, i + k = e.length -> lpU g15x1 ((i : Int), a, xs, e, b, ys, e) = some (.inl ())
 | 0, i, hi => by
  have hd : decide ((i : Int) < (e.length : Int)) = false := decide_eq_false (by omega)
  rw [lp_end (x := .inl ()) (by simp only [g15x1, hd, Bool.false_eq_true, if_false])]
 | k + 1, i, hi => by
  have hd : decide ((i : Int) < (e.length : Int)) = true := decide_eq_true (by omega)
  have h1 : i < e.length := by omega
  rw [lp_next (s' := (((i + 1 : Nat) : Int), a, xs, e, b, ys, e)) (by
   simp [h1, g15x1, hd, idx_some' h1, wnext (show i < 1000000000000 by omega)])]
  exact l15b a b xs ys e hl k (i + 1) (by omega)
theorem w15 (f : FileOut) (h : SmF f) : g15 f f = some true := by
 obtain ⟨a, xs, e⟩ := f
 have hl : xs.length <= 20 := h.l
 have he : e.length <= 100 := h.e
 unfold g15
 rw [if_neg (by simp), show ((0 : Int)) = ((0 : Nat) : Int) from rfl, l15 a a xs e e hl h.o xs.length 0 (by omega)]
 simp only [Option.bind_some]
 rw [l15b a a xs xs e (by omega) e.length 0 (by omega)]; rfl
theorem sm0 : SmF ((0, [], []) : FileOut) := ⟨by simp, by simp, by simp⟩
theorem w19 (e : Int) : g19 (0, [], []) e e = some true := by
 unfold g19
 rw [w15 _ sm0]; simp
end Go.Proofs.Ytlhjdikklmkihaa.Ev.U
