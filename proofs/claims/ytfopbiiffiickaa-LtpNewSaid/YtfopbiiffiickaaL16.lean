/- The law LtpNew, as it is given: it returns true whatever it is given, and leaves it as it was. Conditions: none. -/
import Derived.Test.YtfopbiiffiickaaFt16
import Derived.Test.YtfopbiiffiickaaUn
import Derived.Test.YtfopbiiffiickaaRows
import Derived.KernelRfl
set_option linter.all false
set_option maxRecDepth 100000
namespace Go.Proofs.Ytfopbiiffiickaa.Ev.U
open Go
theorem x24 {x lo hi : Int} (h1 : lo ≤ x) (h2 : x ≤ hi) (B : List Bx) : EF pg 24 [.v (.int .i64 x), .v (.int .i64 lo), .v (.int .i64 hi)] B = some (.v (.bool true), B) := by
  rw [EF_eq]
  simp [runF, evC, evOps, evStp, evOp, rd, rdL, rds, get, put, putO, argE, res1, resL, mkRes, doCall, unsnoc_append, S.wl, S.wo, lk, ins, sb, bx, sbx, pick, over, D.strip, D.strip2, D.strip1, D.tupB, D.cells, D.bnd2, D.bnd1, D.frz2, D.frz1, D.frzP, D.sto1, Value.oneCell', zc, bz, Tc.er, TStp.er, u_, ug_, s_, g_, n_, List.map_cons, List.map_nil, List.all_cons, List.all_nil, List.length_cons, List.length_nil, List.drop_succ_cons, List.drop_zero, List.take_succ_cons, List.take_zero, List.nil_append, List.cons_append, List.append_nil, List.getElem?_cons_succ, List.getElem?_cons_zero, Option.bind_some, Option.map_some, D.capB, dwnA, Nat.reduceEqDiff, Nat.reduceAdd, Nat.reduceLeDiff, Nat.reduceSub, Nat.reduceLT, Nat.reduceMul, Nat.zero_add, Nat.add_zero, reduceCtorEq, ↓reduceIte, Bool.and_true, Bool.true_and, Bool.and_self, Bool.not_false, Bool.not_true, decide_true, decide_false, and_self, and_true, true_and, Bool.false_eq_true, ge_iff_le, gt_iff_lt, p24, F24, T24, h1, h2]
theorem x23 {x : Int} (h1 : 1 ≤ x) (h2 : x ≤ 6) (B : List Bx) : EF pg 23 [.v (.int .i64 x)] B = some (.v (.bool true), B) := by
  rw [EF_eq]
  simp [runF, evC, evOps, evStp, evOp, rd, rdL, rds, get, put, putO, argE, res1, resL, mkRes, doCall, unsnoc_append, S.wl, S.wo, lk, ins, sb, bx, sbx, pick, over, D.strip, D.strip2, D.strip1, D.tupB, D.cells, D.bnd2, D.bnd1, D.frz2, D.frz1, D.frzP, D.sto1, Value.oneCell', zc, bz, Tc.er, TStp.er, u_, ug_, s_, g_, n_, List.map_cons, List.map_nil, List.all_cons, List.all_nil, List.length_cons, List.length_nil, List.drop_succ_cons, List.drop_zero, List.take_succ_cons, List.take_zero, List.nil_append, List.cons_append, List.append_nil, List.getElem?_cons_succ, List.getElem?_cons_zero, Option.bind_some, Option.map_some, D.capB, dwnA, Nat.reduceEqDiff, Nat.reduceAdd, Nat.reduceLeDiff, Nat.reduceSub, Nat.reduceLT, Nat.reduceMul, Nat.zero_add, Nat.add_zero, reduceCtorEq, ↓reduceIte, Bool.and_true, Bool.true_and, Bool.and_self, Bool.not_false, Bool.not_true, decide_true, decide_false, and_self, and_true, true_and, Bool.false_eq_true, ge_iff_le, gt_iff_lt, p23, F23, T23, x24, h1, h2]
theorem x39 {a b c : Int} (h1 : 1 ≤ a) (h2 : a ≤ 4096) (h3 : 1 ≤ b) (h4 : b ≤ 16) (h5 : 1 ≤ c) (h6 : c ≤ 65536) (B : List Bx) : EF pg 39 [.agg [.v (.int .i64 a), .v (.int .i64 b), .v (.int .i64 c)]] B = some (.v (.bool true), B) := by
  rw [EF_eq]
  simp [runF, evC, evOps, evStp, evOp, rd, rdL, rds, get, put, putO, argE, res1, resL, mkRes, doCall, unsnoc_append, S.wl, S.wo, lk, ins, sb, bx, sbx, pick, over, D.strip, D.strip2, D.strip1, D.tupB, D.cells, D.bnd2, D.bnd1, D.frz2, D.frz1, D.frzP, D.sto1, Value.oneCell', zc, bz, Tc.er, TStp.er, u_, ug_, s_, g_, n_, List.map_cons, List.map_nil, List.all_cons, List.all_nil, List.length_cons, List.length_nil, List.drop_succ_cons, List.drop_zero, List.take_succ_cons, List.take_zero, List.nil_append, List.cons_append, List.append_nil, List.getElem?_cons_succ, List.getElem?_cons_zero, Option.bind_some, Option.map_some, D.capB, dwnA, Nat.reduceEqDiff, Nat.reduceAdd, Nat.reduceLeDiff, Nat.reduceSub, Nat.reduceLT, Nat.reduceMul, Nat.zero_add, Nat.add_zero, reduceCtorEq, ↓reduceIte, Bool.and_true, Bool.true_and, Bool.and_self, Bool.not_false, Bool.not_true, decide_true, decide_false, and_self, and_true, true_and, Bool.false_eq_true, ge_iff_le, gt_iff_lt, p39, F39, T39, x24, h1, h2, h3, h4, h5, h6]
def nmB : Option (Ex × S) → Bool
  | some (.nm, _) => true
  | _ => false
theorem lim_none {α : Type} {f : Nat → Option α} (h : ∀ n, f n = none) : lim f = none := by
  unfold lim
  rw [dif_neg]
  rintro ⟨n, r, hr⟩
  rw [h n] at hr
  cases hr
theorem inn_sl {m : Mode} {z k : Nat} {xs : List D} {bs : List Nat} : (D.sl m z xs).inn k bs = true := rfl
theorem inn_v {x : Value} {k : Nat} {bs : List Nat} : (D.v x).inn k bs = true := rfl
theorem inn_u {k : Nat} {bs : List Nat} : D.u.inn k bs = true := rfl
theorem lp_done {call : Caller} {ks bs : List Nat} {c : Cd} {s : S} (h : nmB ((carry ks bs s).bind (evC call c)) = false) : evC call (.lp ks bs c) s = (carry ks bs s).bind (evC call c) := by
  simp only [evC]
  cases hc : carry ks bs s with
  | none =>
    refine (lim_none fun n => ?_)
    cases n with
    | zero => rfl
    | succ n => simp [iter, hc]
  | some s1 =>
    simp only [Option.bind_some]
    rw [hc, Option.bind_some] at h
    cases hb : evC call c s1 with
    | none =>
      refine (lim_none fun n => ?_)
      cases n with
      | zero => rfl
      | succ n => simp [iter, hc, hb]
    | some p =>
      obtain ⟨x, s2⟩ := p
      refine lim_eq (n := 1) (fun n r => iter_step n r) ?_
      rw [hb] at h
      cases x with
      | nm => cases h
      | ex i => simp [iter, hc, hb]
      | rt => simp [iter, hc, hb]
theorem x89 {m : Mode} {z : Nat} {f : Nat} {caps : List D} {B : List Bx} (hm : m = .ro ∨ m = .nl) (hc : (D.clo f caps).inn B.length [] = true) : EF pg 89 [.sl m z [], .clo f caps] B = some (.v (.int .i64 (-1)), B) := by
  rw [EF_eq]
  simp only [runF, p89, F89, T89, Tc.er, TStp.er, u_, ug_, List.map_cons, List.map_nil]
  rcases hm with rfl | rfl <;> simp [↓lp_done, runF, evC, evOps, evStp, evOp, rd, rdL, rds, get, put, putO, argE, res1, resL, mkRes, doCall, unsnoc_append, S.wl, S.wo, lk, ins, sb, bx, sbx, pick, over, D.strip, D.strip2, D.strip1, D.tupB, D.cells, D.bnd2, D.bnd1, D.frz2, D.frz1, D.frzP, D.sto1, Value.oneCell', zc, bz, Tc.er, TStp.er, u_, ug_, s_, g_, n_, List.map_cons, List.map_nil, List.all_cons, List.all_nil, List.length_cons, List.length_nil, List.drop_succ_cons, List.drop_zero, List.take_succ_cons, List.take_zero, List.nil_append, List.cons_append, List.append_nil, List.getElem?_cons_succ, List.getElem?_cons_zero, Option.bind_some, Option.map_some, D.capB, dwnA, Nat.reduceEqDiff, Nat.reduceAdd, Nat.reduceLeDiff, Nat.reduceSub, Nat.reduceLT, Nat.reduceMul, Nat.zero_add, Nat.add_zero, reduceCtorEq, ↓reduceIte, Bool.and_true, Bool.true_and, Bool.and_self, Bool.not_false, Bool.not_true, decide_true, decide_false, and_self, and_true, true_and, Bool.false_eq_true, ge_iff_le, gt_iff_lt, inn_sl, inn_v, inn_u, carry, carE, carL, hc, nmB]
theorem x40 {m : Mode} {z : Nat} {f : Nat} {caps : List D} {B : List Bx} (hm : m = .ro ∨ m = .nl) (hc : (D.clo f caps).inn (B.length + 1) [] = true) : EF pg 40 [.sl m z [], .clo f caps] B = some (.v (.bool false), B) := by
  rw [EF_eq]
  rcases hm with rfl | rfl <;> simp [runF, evC, evOps, evStp, evOp, rd, rdL, rds, get, put, putO, argE, res1, resL, mkRes, doCall, unsnoc_append, S.wl, S.wo, lk, ins, sb, bx, sbx, pick, over, D.strip, D.strip2, D.strip1, D.tupB, D.cells, D.bnd2, D.bnd1, D.frz2, D.frz1, D.frzP, D.sto1, Value.oneCell', zc, bz, Tc.er, TStp.er, u_, ug_, s_, g_, n_, List.map_cons, List.map_nil, List.all_cons, List.all_nil, List.length_cons, List.length_nil, List.drop_succ_cons, List.drop_zero, List.take_succ_cons, List.take_zero, List.nil_append, List.cons_append, List.append_nil, List.getElem?_cons_succ, List.getElem?_cons_zero, Option.bind_some, Option.map_some, D.capB, dwnA, Nat.reduceEqDiff, Nat.reduceAdd, Nat.reduceLeDiff, Nat.reduceSub, Nat.reduceLT, Nat.reduceMul, Nat.zero_add, Nat.add_zero, reduceCtorEq, ↓reduceIte, Bool.and_true, Bool.true_and, Bool.and_self, Bool.not_false, Bool.not_true, decide_true, decide_false, and_self, and_true, true_and, Bool.false_eq_true, ge_iff_le, gt_iff_lt, p40, F40, T40, x89, hc]
theorem x90 {m : Mode} {z : Nat} {f : Nat} {caps : List D} {B : List Bx} (hm : m = .ro ∨ m = .nl) (hc : (D.clo f caps).inn B.length [] = true) : EF pg 90 [.sl m z [], .clo f caps] B = some (.v (.int .i64 (-1)), B) := by
  rw [EF_eq]
  simp only [runF, p90, F90, T90, Tc.er, TStp.er, u_, ug_, List.map_cons, List.map_nil]
  rcases hm with rfl | rfl <;> simp [↓lp_done, runF, evC, evOps, evStp, evOp, rd, rdL, rds, get, put, putO, argE, res1, resL, mkRes, doCall, unsnoc_append, S.wl, S.wo, lk, ins, sb, bx, sbx, pick, over, D.strip, D.strip2, D.strip1, D.tupB, D.cells, D.bnd2, D.bnd1, D.frz2, D.frz1, D.frzP, D.sto1, Value.oneCell', zc, bz, Tc.er, TStp.er, u_, ug_, s_, g_, n_, List.map_cons, List.map_nil, List.all_cons, List.all_nil, List.length_cons, List.length_nil, List.drop_succ_cons, List.drop_zero, List.take_succ_cons, List.take_zero, List.nil_append, List.cons_append, List.append_nil, List.getElem?_cons_succ, List.getElem?_cons_zero, Option.bind_some, Option.map_some, D.capB, dwnA, Nat.reduceEqDiff, Nat.reduceAdd, Nat.reduceLeDiff, Nat.reduceSub, Nat.reduceLT, Nat.reduceMul, Nat.zero_add, Nat.add_zero, reduceCtorEq, ↓reduceIte, Bool.and_true, Bool.true_and, Bool.and_self, Bool.not_false, Bool.not_true, decide_true, decide_false, and_self, and_true, true_and, Bool.false_eq_true, ge_iff_le, gt_iff_lt, inn_sl, inn_v, inn_u, carry, carE, carL, hc, nmB]
theorem x41 {m : Mode} {z : Nat} {f : Nat} {caps : List D} {B : List Bx} (hm : m = .ro ∨ m = .nl) (hc : (D.clo f caps).inn (B.length + 1) [] = true) : EF pg 41 [.sl m z [], .clo f caps] B = some (.v (.bool false), B) := by
  rw [EF_eq]
  rcases hm with rfl | rfl <;> simp [runF, evC, evOps, evStp, evOp, rd, rdL, rds, get, put, putO, argE, res1, resL, mkRes, doCall, unsnoc_append, S.wl, S.wo, lk, ins, sb, bx, sbx, pick, over, D.strip, D.strip2, D.strip1, D.tupB, D.cells, D.bnd2, D.bnd1, D.frz2, D.frz1, D.frzP, D.sto1, Value.oneCell', zc, bz, Tc.er, TStp.er, u_, ug_, s_, g_, n_, List.map_cons, List.map_nil, List.all_cons, List.all_nil, List.length_cons, List.length_nil, List.drop_succ_cons, List.drop_zero, List.take_succ_cons, List.take_zero, List.nil_append, List.cons_append, List.append_nil, List.getElem?_cons_succ, List.getElem?_cons_zero, Option.bind_some, Option.map_some, D.capB, dwnA, Nat.reduceEqDiff, Nat.reduceAdd, Nat.reduceLeDiff, Nat.reduceSub, Nat.reduceLT, Nat.reduceMul, Nat.zero_add, Nat.add_zero, reduceCtorEq, ↓reduceIte, Bool.and_true, Bool.true_and, Bool.and_self, Bool.not_false, Bool.not_true, decide_true, decide_false, and_self, and_true, true_and, Bool.false_eq_true, ge_iff_le, gt_iff_lt, p41, F41, T41, x90, hc]
theorem x91 {m : Mode} {z : Nat} {f : Nat} {caps : List D} {B : List Bx} (hm : m = .ro ∨ m = .nl) (hc : (D.clo f caps).inn B.length [] = true) : EF pg 91 [.sl m z [], .clo f caps] B = some (.v (.int .i64 (-1)), B) := by
  rw [EF_eq]
  simp only [runF, p91, F91, T91, Tc.er, TStp.er, u_, ug_, List.map_cons, List.map_nil]
  rcases hm with rfl | rfl <;> simp [↓lp_done, runF, evC, evOps, evStp, evOp, rd, rdL, rds, get, put, putO, argE, res1, resL, mkRes, doCall, unsnoc_append, S.wl, S.wo, lk, ins, sb, bx, sbx, pick, over, D.strip, D.strip2, D.strip1, D.tupB, D.cells, D.bnd2, D.bnd1, D.frz2, D.frz1, D.frzP, D.sto1, Value.oneCell', zc, bz, Tc.er, TStp.er, u_, ug_, s_, g_, n_, List.map_cons, List.map_nil, List.all_cons, List.all_nil, List.length_cons, List.length_nil, List.drop_succ_cons, List.drop_zero, List.take_succ_cons, List.take_zero, List.nil_append, List.cons_append, List.append_nil, List.getElem?_cons_succ, List.getElem?_cons_zero, Option.bind_some, Option.map_some, D.capB, dwnA, Nat.reduceEqDiff, Nat.reduceAdd, Nat.reduceLeDiff, Nat.reduceSub, Nat.reduceLT, Nat.reduceMul, Nat.zero_add, Nat.add_zero, reduceCtorEq, ↓reduceIte, Bool.and_true, Bool.true_and, Bool.and_self, Bool.not_false, Bool.not_true, decide_true, decide_false, and_self, and_true, true_and, Bool.false_eq_true, ge_iff_le, gt_iff_lt, inn_sl, inn_v, inn_u, carry, carE, carL, hc, nmB]
theorem x42 {m : Mode} {z : Nat} {f : Nat} {caps : List D} {B : List Bx} (hm : m = .ro ∨ m = .nl) (hc : (D.clo f caps).inn (B.length + 1) [] = true) : EF pg 42 [.sl m z [], .clo f caps] B = some (.v (.bool false), B) := by
  rw [EF_eq]
  rcases hm with rfl | rfl <;> simp [runF, evC, evOps, evStp, evOp, rd, rdL, rds, get, put, putO, argE, res1, resL, mkRes, doCall, unsnoc_append, S.wl, S.wo, lk, ins, sb, bx, sbx, pick, over, D.strip, D.strip2, D.strip1, D.tupB, D.cells, D.bnd2, D.bnd1, D.frz2, D.frz1, D.frzP, D.sto1, Value.oneCell', zc, bz, Tc.er, TStp.er, u_, ug_, s_, g_, n_, List.map_cons, List.map_nil, List.all_cons, List.all_nil, List.length_cons, List.length_nil, List.drop_succ_cons, List.drop_zero, List.take_succ_cons, List.take_zero, List.nil_append, List.cons_append, List.append_nil, List.getElem?_cons_succ, List.getElem?_cons_zero, Option.bind_some, Option.map_some, D.capB, dwnA, Nat.reduceEqDiff, Nat.reduceAdd, Nat.reduceLeDiff, Nat.reduceSub, Nat.reduceLT, Nat.reduceMul, Nat.zero_add, Nat.add_zero, reduceCtorEq, ↓reduceIte, Bool.and_true, Bool.true_and, Bool.and_self, Bool.not_false, Bool.not_true, decide_true, decide_false, and_self, and_true, true_and, Bool.false_eq_true, ge_iff_le, gt_iff_lt, p42, F42, T42, x91, hc]
theorem inn_clo {f k : Nat} {bs : List Nat} : (D.clo f []).inn k bs = true := rfl
theorem x43 {m : Mode} {z : Nat} {B : List Bx} (hm : m = .ro ∨ m = .nl) : EF pg 43 [.sl m z [], .clo 44 [], .u] B = some (.v (.bool false), B) := by
  rw [EF_eq]
  simp only [runF, p43, F43, c43, l43x0, b43x0]
  rcases hm with rfl | rfl <;> simp [↓lp_done, runF, evC, evOps, evStp, evOp, rd, rdL, rds, get, put, putO, argE, res1, resL, mkRes, doCall, unsnoc_append, S.wl, S.wo, lk, ins, sb, bx, sbx, pick, over, D.strip, D.strip2, D.strip1, D.tupB, D.cells, D.bnd2, D.bnd1, D.frz2, D.frz1, D.frzP, D.sto1, Value.oneCell', zc, bz, Tc.er, TStp.er, u_, ug_, s_, g_, n_, List.map_cons, List.map_nil, List.all_cons, List.all_nil, List.length_cons, List.length_nil, List.drop_succ_cons, List.drop_zero, List.take_succ_cons, List.take_zero, List.nil_append, List.cons_append, List.append_nil, List.getElem?_cons_succ, List.getElem?_cons_zero, Option.bind_some, Option.map_some, D.capB, dwnA, Nat.reduceEqDiff, Nat.reduceAdd, Nat.reduceLeDiff, Nat.reduceSub, Nat.reduceLT, Nat.reduceMul, Nat.zero_add, Nat.add_zero, reduceCtorEq, ↓reduceIte, Bool.and_true, Bool.true_and, Bool.and_self, Bool.not_false, Bool.not_true, decide_true, decide_false, and_self, and_true, true_and, Bool.false_eq_true, ge_iff_le, gt_iff_lt, inn_sl, inn_v, inn_u, inn_clo, carry, carE, carL, nmB]
theorem x45 {m : Mode} {z : Nat} {B : List Bx} (hm : m = .ro ∨ m = .nl) : EF pg 45 [.sl m z [], .clo 46 [], .u] B = some (.v (.bool false), B) := by
  rw [EF_eq]
  simp only [runF, p45, F45, c45, l45x0, b45x0]
  rcases hm with rfl | rfl <;> simp [↓lp_done, runF, evC, evOps, evStp, evOp, rd, rdL, rds, get, put, putO, argE, res1, resL, mkRes, doCall, unsnoc_append, S.wl, S.wo, lk, ins, sb, bx, sbx, pick, over, D.strip, D.strip2, D.strip1, D.tupB, D.cells, D.bnd2, D.bnd1, D.frz2, D.frz1, D.frzP, D.sto1, Value.oneCell', zc, bz, Tc.er, TStp.er, u_, ug_, s_, g_, n_, List.map_cons, List.map_nil, List.all_cons, List.all_nil, List.length_cons, List.length_nil, List.drop_succ_cons, List.drop_zero, List.take_succ_cons, List.take_zero, List.nil_append, List.cons_append, List.append_nil, List.getElem?_cons_succ, List.getElem?_cons_zero, Option.bind_some, Option.map_some, D.capB, dwnA, Nat.reduceEqDiff, Nat.reduceAdd, Nat.reduceLeDiff, Nat.reduceSub, Nat.reduceLT, Nat.reduceMul, Nat.zero_add, Nat.add_zero, reduceCtorEq, ↓reduceIte, Bool.and_true, Bool.true_and, Bool.and_self, Bool.not_false, Bool.not_true, decide_true, decide_false, and_self, and_true, true_and, Bool.false_eq_true, ge_iff_le, gt_iff_lt, inn_sl, inn_v, inn_u, inn_clo, carry, carE, carL, nmB]
theorem x47 {m : Mode} {z : Nat} {B : List Bx} (hm : m = .ro ∨ m = .nl) : EF pg 47 [.sl m z [], .clo 48 [], .u] B = some (.v (.bool false), B) := by
  rw [EF_eq]
  simp only [runF, p47, F47, c47, l47x0, b47x0]
  rcases hm with rfl | rfl <;> simp [↓lp_done, runF, evC, evOps, evStp, evOp, rd, rdL, rds, get, put, putO, argE, res1, resL, mkRes, doCall, unsnoc_append, S.wl, S.wo, lk, ins, sb, bx, sbx, pick, over, D.strip, D.strip2, D.strip1, D.tupB, D.cells, D.bnd2, D.bnd1, D.frz2, D.frz1, D.frzP, D.sto1, Value.oneCell', zc, bz, Tc.er, TStp.er, u_, ug_, s_, g_, n_, List.map_cons, List.map_nil, List.all_cons, List.all_nil, List.length_cons, List.length_nil, List.drop_succ_cons, List.drop_zero, List.take_succ_cons, List.take_zero, List.nil_append, List.cons_append, List.append_nil, List.getElem?_cons_succ, List.getElem?_cons_zero, Option.bind_some, Option.map_some, D.capB, dwnA, Nat.reduceEqDiff, Nat.reduceAdd, Nat.reduceLeDiff, Nat.reduceSub, Nat.reduceLT, Nat.reduceMul, Nat.zero_add, Nat.add_zero, reduceCtorEq, ↓reduceIte, Bool.and_true, Bool.true_and, Bool.and_self, Bool.not_false, Bool.not_true, decide_true, decide_false, and_self, and_true, true_and, Bool.false_eq_true, ge_iff_le, gt_iff_lt, inn_sl, inn_v, inn_u, inn_clo, carry, carE, carL, nmB]
end Go.Proofs.Ytfopbiiffiickaa.Ev.U
set_option maxRecDepth 100000
namespace Go.Proofs.Ytfopbiiffiickaa.Ev.U
open Go
def mo (b : Bool) : Mode := if b then .ro else .nl
theorem mo_c (b : Bool) : mo b = .ro ∨ mo b = .nl := by cases b <;> simp [mo]
theorem mo_s {b : Bool} {z : Nat} {xs : List D} : (D.sl (mo b) z xs).strip1 = D.sl (mo b) z xs := by cases b <;> rfl
theorem mo_s2 {b : Bool} {z : Nat} {xs : List D} : (D.sl (mo b) z xs).strip2 = D.sl (mo b) z xs := by cases b <;> rfl
theorem mo_s3 {b : Bool} {z : Nat} {xs : List D} : (D.sl (mo b) z xs).strip = D.sl (mo b) z xs := by cases b <;> rfl
theorem st_v {x : Value} : (D.v x).strip = .v x := rfl
theorem st_v1 {x : Value} : (D.v x).strip1 = .v x := rfl
theorem st_v2 {x : Value} : (D.v x).strip2 = .v x := rfl
theorem st_p {f s o : Nat} : (D.ptr f s o).strip = .ptr f s o := rfl
theorem st_p2 {f s o : Nat} : (D.ptr f s o).strip2 = .ptr f s o := rfl
theorem st_c {f : Nat} {cs : List D} : (D.clo f cs).strip = .clo f cs := rfl
theorem st_c2 {f : Nat} {cs : List D} : (D.clo f cs).strip2 = .clo f cs := rfl
theorem st_u : D.u.strip = .u := rfl
theorem st_a {cs : List D} : (D.agg cs).strip = .agg (cs.map D.strip1) := rfl
theorem st_a2 {cs : List D} : (D.agg cs).strip2 = .agg (cs.map D.strip1) := rfl
theorem cin1 {f k o g t : Nat} (h : g < k) : (D.clo f [.ptr g t o]).inn k [] = true := by simp [D.inn, D.in2, D.in1, h]
theorem cin2 {f k o g t o' g' t' : Nat} (h : g < k) (h' : g' < k) : (D.clo f [.ptr g t o, .ptr g' t' o']).inn k [] = true := by simp [D.inn, D.in2, D.in1, h, h']
theorem y40 {m : Bool} {z f s o s' o' : Nat} {B : List Bx} {l : Bx} : EF pg 40 [.sl (mo m) z [], .clo f [.ptr B.length s o, .ptr B.length s' o']] (B ++ [l]) = some (.v (.bool false), B ++ [l]) := x40 (mo_c m) (cin2 (by simp; omega) (by simp; omega))
theorem w40 {m : Bool} {z f s o : Nat} {B : List Bx} {l : Bx} : EF pg 40 [.sl (mo m) z [], .clo f [.ptr B.length s o]] (B ++ [l]) = some (.v (.bool false), B ++ [l]) := x40 (mo_c m) (cin1 (by simp; omega))
theorem y41 {m : Bool} {z f s o s' o' : Nat} {B : List Bx} {l : Bx} : EF pg 41 [.sl (mo m) z [], .clo f [.ptr B.length s o, .ptr B.length s' o']] (B ++ [l]) = some (.v (.bool false), B ++ [l]) := x41 (mo_c m) (cin2 (by simp; omega) (by simp; omega))
theorem w41 {m : Bool} {z f s o : Nat} {B : List Bx} {l : Bx} : EF pg 41 [.sl (mo m) z [], .clo f [.ptr B.length s o]] (B ++ [l]) = some (.v (.bool false), B ++ [l]) := x41 (mo_c m) (cin1 (by simp; omega))
theorem y42 {m : Bool} {z f s o s' o' : Nat} {B : List Bx} {l : Bx} : EF pg 42 [.sl (mo m) z [], .clo f [.ptr B.length s o, .ptr B.length s' o']] (B ++ [l]) = some (.v (.bool false), B ++ [l]) := x42 (mo_c m) (cin2 (by simp; omega) (by simp; omega))
theorem w42 {m : Bool} {z f s o : Nat} {B : List Bx} {l : Bx} : EF pg 42 [.sl (mo m) z [], .clo f [.ptr B.length s o]] (B ++ [l]) = some (.v (.bool false), B ++ [l]) := x42 (mo_c m) (cin1 (by simp; omega))
theorem y43 {m : Bool} {z : Nat} {B : List Bx} : EF pg 43 [.sl (mo m) z [], .clo 44 [], .u] B = some (.v (.bool false), B) := x43 (mo_c m)
theorem y45 {m : Bool} {z : Nat} {B : List Bx} : EF pg 45 [.sl (mo m) z [], .clo 46 [], .u] B = some (.v (.bool false), B) := x45 (mo_c m)
theorem y47 {m : Bool} {z : Nat} {B : List Bx} : EF pg 47 [.sl (mo m) z [], .clo 48 [], .u] B = some (.v (.bool false), B) := x47 (mo_c m)
theorem x12 {a b c d n : Int} {m1 m2 m3 : Bool} {z1 z2 z3 : Nat} (h1 : 1 ≤ a) (h2 : a ≤ 6) (h3 : 1 ≤ b) (h4 : b ≤ 4096) (h5 : 1 ≤ c) (h6 : c ≤ 16) (h7 : 1 ≤ d) (h8 : d ≤ 65536) (h9 : n ≠ 0) (B : List Bx) :
    EF pg 12 [.agg [.v (.int .i64 a), .v (.int .i64 b), .v (.int .i64 c), .v (.int .i64 d), .v (.int .u32 n), .sl (mo m1) z1 [], .sl (mo m2) z2 [], .sl (mo m3) z3 []]] B = some (.v (.int .i64 0), B) := by
  have hn : (n == 0) = false := by simpa using h9
  rw [EF_eq]
  simp only [runF, p12, F12, c12]
  simp [st_v, st_v1, st_v2, st_p, st_p2, st_c, st_c2, st_u, st_a, st_a2, mo_s, mo_s2, mo_s3, runF, evC, evOps, evStp, evOp, rd, rdL, rds, get, put, putO, argE, res1, resL, mkRes, doCall, unsnoc_append, S.wl, S.wo, lk, ins, sb, bx, sbx, pick, over, D.tupB, D.cells, D.bnd2, D.bnd1, D.frz2, D.frz1, D.frzP, D.sto1, Value.oneCell', zc, bz, Tc.er, TStp.er, u_, ug_, s_, g_, n_, List.map_cons, List.map_nil, List.all_cons, List.all_nil, List.length_cons, List.length_nil, List.drop_succ_cons, List.drop_zero, List.take_succ_cons, List.take_zero, List.nil_append, List.cons_append, List.append_nil, List.getElem?_cons_succ, List.getElem?_cons_zero, Option.bind_some, Option.map_some, D.capB, dwnA, Nat.reduceEqDiff, Nat.reduceAdd, Nat.reduceLeDiff, Nat.reduceSub, Nat.reduceLT, Nat.reduceMul, Nat.zero_add, Nat.add_zero, reduceCtorEq, ↓reduceIte, Bool.and_true, Bool.true_and, Bool.and_self, Bool.not_false, Bool.not_true, decide_true, decide_false, and_self, and_true, true_and, Bool.false_eq_true, ge_iff_le, gt_iff_lt, x23, x39, y40, y41, y42, w40, w41, w42, y43, y45, y47, h1, h2, h3, h4, h5, h6, h7, h8, hn]
/-- Check, of sessions that are none. -/
noncomputable def g12 (x : Ltp) : Option Int :=
  if (1 ≤ x.1 ∧ x.1 ≤ 6 ∧ 1 ≤ x.2.1 ∧ x.2.1 ≤ 4096 ∧ 1 ≤ x.2.2.1 ∧ x.2.2.1 ≤ 16 ∧ 1 ≤ x.2.2.2.1 ∧ x.2.2.2.1 ≤ 65536 ∧ x.2.2.2.2.1 ≠ 0) ∧ x.2.2.2.2.2.1.isEmpty = true ∧ x.2.2.2.2.2.2.1.isEmpty = true ∧ x.2.2.2.2.2.2.2.isEmpty = true then some 0 else none
noncomputable def tf12 : TF := .par ⟨[.v YLtp], .i .i64⟩ (fun x => g12 x)
theorem ro_nil {P : Caller} {F : List Fx} {t : Ty} {x : (Ty.l .ro t).T} {d : D} (h : RepL P (.l .ro t) F x [d]) (hx : List.isEmpty (α := t.T) x = true) : ∃ b z, d = .sl (mo b) z [] := by
  obtain ⟨_, es, h1, h2⟩ := h
  have hx : x = ([] : List t.T) := List.isEmpty_iff.1 hx
  subst hx
  obtain rfl := h1.nil_l
  rcases h2 with h2 | ⟨_, z, h2⟩
  · injection h2 with h2; exact ⟨true, csz t, h2⟩
  · injection h2 with h2; exact ⟨false, z, h2⟩
theorem o12 : TOK (EF pg) 12 tf12 := by
  refine ⟨fun F n rg K Y hc hK x ds harg y hy => ?_, trivial⟩
  have ha : ∃ d, ds = [d] ∧ rg = [] ∧ Y = [] ∧ Rep3 ⟨EF pg, F, n, rg, K⟩ (valW YLtp x) d := by
    have harg : ArgL ⟨EF pg, F, n, rg, K⟩ [.v YLtp] [valW YLtp x] ds rg Y := harg
    cases ds with
    | nil => cases rg <;> cases Y <;> exact harg.elim
    | cons d q =>
      have h2 : Rep3 ⟨EF pg, F, n, rg, K⟩ (valW YLtp x) d ∧ ArgL ⟨EF pg, F, n, rg, K⟩ [] [] q rg Y := by cases rg <;> cases Y <;> exact harg
      cases q with
      | nil => cases rg with
        | nil => cases Y with
          | nil => exact ⟨d, rfl, rfl, rfl, h2.1⟩
          | cons => exact h2.2.elim
        | cons => cases Y <;> exact h2.2.elim
      | cons => cases rg <;> cases Y <;> exact h2.2.elim
  obtain ⟨d, rfl, rfl, rfl, hd⟩ := ha
  have hrep := val_inv (τ := YLtp) rfl hd
  obtain ⟨_, cs, hcs, hrow⟩ := hrep
  injection hcs with hcs
  subst hcs
  obtain ⟨a, b, c, d, m, l1, l2, l3⟩ := x
  have hy : g12 (a, b, c, d, m, l1, l2, l3) = some y := hy
  unfold g12 at hy
  split at hy
  · rename_i hh
    obtain ⟨⟨h1, h2, h3, h4, h5, h6, h7, h8, h9⟩, e1, e2, e3⟩ := hh
    have := Option.some.inj hy
    subst this
    obtain ⟨_, d1, q, rfl, r1, hrow⟩ := hrow
    obtain ⟨_, d2, q, rfl, r2, hrow⟩ := hrow
    obtain ⟨_, d3, q, rfl, r3, hrow⟩ := hrow
    obtain ⟨_, d4, q, rfl, r4, hrow⟩ := hrow
    obtain ⟨_, d5, q, rfl, r5, hrow⟩ := hrow
    obtain ⟨_, d6, q, rfl, r6, hrow⟩ := hrow
    obtain ⟨_, d7, q, rfl, r7, hrow⟩ := hrow
    obtain ⟨r1, _⟩ := r1
    obtain ⟨r2, _⟩ := r2
    obtain ⟨r3, _⟩ := r3
    obtain ⟨r4, _⟩ := r4
    obtain ⟨r5, _⟩ := r5
    injection r1 with r1
    injection r2 with r2
    injection r3 with r3
    injection r4 with r4
    injection r5 with r5
    subst r1 r2 r3 r4 r5
    obtain ⟨m1, z1, rfl⟩ := ro_nil r6 e1
    obtain ⟨m2, z2, rfl⟩ := ro_nil r7 e2
    obtain ⟨d8, hd8⟩ : ∃ d, q = [d] := one_sing rfl hrow
    subst hd8
    obtain ⟨m3, z3, rfl⟩ := ro_nil hrow e3
    refine ⟨.v (.int .i64 0), [], ⟨rfl, rfl, rfl⟩, trivial, fun B hB hat => ?_⟩
    exact x12 h1 h2 h3 h4 h5 h6 h7 h8 h9 B
  · cases hy
end Go.Proofs.Ytfopbiiffiickaa.Ev.U
namespace Go.Proofs.Ytfopbiiffiickaa.Ev.U
open Go

/-- heliograph/ltp.in -/
noncomputable def h24 (a0 : Int) (a1 : Int) (a2 : Int) : Bool :=
(if (decide (a0 ≥ a1)) then (decide (a0 ≤ a2)) else false)
noncomputable def tf24 : TF := .tot ⟨[.v (.i .i64), .v (.i .i64), .v (.i .i64)], .b⟩ (fun x => h24 x.1 x.2.1 x.2.2)
theorem e24 : evFn (tabU []) ⟨F24.res, F24.keep, tf24.sg⟩ T24 = fun x => some (h24 x.1 x.2.1 x.2.2) := by kernel_rfl
theorem o24 : TOK (EF pg) 24 tf24 := tok_of p24 rfl (tabU_nil) ⟨rfl, rfl, by decide⟩ rfl (rndOk_of rfl) trivial fun x y h => (congrFun e24 x).trans h
/-- heliograph/ltp.node -/
noncomputable def h23 (a0 : Int) : Bool :=
(h24 a0 (1 : Int) (6 : Int))
noncomputable def tf23 : TF := .tot ⟨[.v (.i .i64)], .b⟩ (fun x => h23 x)
theorem e23 : evFn (tabU [(24, tf24)]) ⟨F23.res, F23.keep, tf23.sg⟩ T23 = fun x => some (h23 x) := by kernel_rfl
theorem o23 : TOK (EF pg) 23 tf23 := tok_of p23 rfl (tabU_cons o24 (tabU_nil)) ⟨rfl, rfl, by decide⟩ rfl (rndOk_of rfl) trivial fun x y h => (congrFun e23 x).trans h
/-- heliograph/heliographref16.node -/
noncomputable def h28 (a0 : Int) : Bool :=
(if (decide (a0 ≥ (1 : Int))) then (decide (a0 ≤ (6 : Int))) else false)
noncomputable def tf28 : TF := .tot ⟨[.v (.i .i64)], .b⟩ (fun x => h28 x)
theorem e28 : evFn (tabU []) ⟨F28.res, F28.keep, tf28.sg⟩ T28 = fun x => some (h28 x) := by kernel_rfl
theorem o28 : TOK (EF pg) 28 tf28 := tok_of p28 rfl (tabU_nil) ⟨rfl, rfl, by decide⟩ rfl (rndOk_of rfl) trivial fun x y h => (congrFun e28 x).trans h
/-- heliograph/heliographref16.Rule -/
noncomputable def h29 (a0 : Rules) : Bool :=
(if (if (if (if (if (decide (a0.1 ≥ (1 : Int))) then (decide (a0.1 ≤ (4096 : Int))) else false) then (decide (a0.2.1 ≥ (1 : Int))) else false) then (decide (a0.2.1 ≤ (16 : Int))) else false) then (decide (a0.2.2 ≥ (1 : Int))) else false) then (decide (a0.2.2 ≤ (65536 : Int))) else false)
noncomputable def tf29 : TF := .tot ⟨[.v YRules], .b⟩ (fun x => h29 x)
theorem e29 : evFn (tabU []) ⟨F29.res, F29.keep, tf29.sg⟩ T29 = fun x => some (h29 x) := by kernel_rfl
theorem o29 : TOK (EF pg) 29 tf29 := tok_of p29 rfl (tabU_nil) ⟨rfl, rfl, by decide⟩ rfl (rndOk_of rfl) trivial fun x y h => (congrFun e29 x).trans h
/-- heliograph/heliographref16.New -/
noncomputable def g18 (a0 : Int) (a1 : Int) (a2 : Rules) : Option (Ltp × Bool) :=
if (if (if (if (!(h28 a0)) then true else (decide (a1 < (1 : Int)))) then true else (decide (a1 > (65535 : Int)))) then true else (!(h29 a2))) then
(some (((0 : Int), (0 : Int), (0 : Int), (0 : Int), (0 : Int), [], [], []), false))
else
(
some ((a0, a2.1, a2.2.1, a2.2.2, (IntKind.u32.wrap ((65536 : Int) * a1)), [], [], []), true))
noncomputable def tf18 : TF := .par ⟨[.v (.i .i64), .v (.i .u32), .v YRules], (.t YLtp .b)⟩ (fun x => g18 x.1 x.2.1 x.2.2)
theorem e18 : evFn (tabU [(28, tf28), (29, tf29)]) ⟨F18.res, F18.keep, tf18.sg⟩ T18 = fun x => g18 x.1 x.2.1 x.2.2 := by kernel_rfl
theorem o18 : TOK (EF pg) 18 tf18 := tok_of p18 rfl (tabU_cons o28 (tabU_cons o29 (tabU_nil))) ⟨rfl, rfl, by decide⟩ rfl (rndOk_of rfl) trivial fun x y h => (congrFun e18 x).trans h
/-- heliograph/ltp.ruled -/
noncomputable def h39 (a0 : Rules) : Bool :=
(if (if (h24 a0.1 (1 : Int) (4096 : Int)) then (h24 a0.2.1 (1 : Int) (16 : Int)) else false) then (h24 a0.2.2 (1 : Int) (65536 : Int)) else false)
noncomputable def tf39 : TF := .tot ⟨[.v YRules], .b⟩ (fun x => h39 x)
theorem e39 : evFn (tabU [(24, tf24)]) ⟨F39.res, F39.keep, tf39.sg⟩ T39 = fun x => some (h39 x) := by kernel_rfl
theorem o39 : TOK (EF pg) 39 tf39 := tok_of p39 rfl (tabU_cons o24 (tabU_nil)) ⟨rfl, rfl, by decide⟩ rfl (rndOk_of rfl) trivial fun x y h => (congrFun e39 x).trans h
/-- heliograph/ltp.New -/
noncomputable def g17 (a0 : Int) (a1 : Int) (a2 : Rules) : Option (Ltp × Int) :=
if (if (if (if (!(h23 a0)) then true else (decide (a1 < (1 : Int)))) then true else (decide (a1 ≥ (65536 : Int)))) then true else (!(h39 a2))) then
(some (((0 : Int), (0 : Int), (0 : Int), (0 : Int), (0 : Int), [], [], []), (2 : Int)))
else
(
some ((a0, a2.1, a2.2.1, a2.2.2, (shlI .u32 a1 (16 : Int)), [], [], []), (0 : Int)))
noncomputable def tf17 : TF := .par ⟨[.v (.i .i64), .v (.i .u32), .v YRules], (.t YLtp (.i .i64))⟩ (fun x => g17 x.1 x.2.1 x.2.2)
theorem e17 : evFn (tabU [(23, tf23), (39, tf39)]) ⟨F17.res, F17.keep, tf17.sg⟩ T17 = fun x => g17 x.1 x.2.1 x.2.2 := by kernel_rfl
theorem o17 : TOK (EF pg) 17 tf17 := tok_of p17 rfl (tabU_cons o23 (tabU_cons o39 (tabU_nil))) ⟨rfl, rfl, by decide⟩ rfl (rndOk_of rfl) trivial fun x y h => (congrFun e17 x).trans h
/-- heliograph/ltp.ofOut -/
noncomputable def h44 (a0 : Outward) : Id :=
(a0.2.1, a0.2.2.1)
noncomputable def tf44 : TF := .tot ⟨[.v YOutward], YId⟩ (fun x => h44 x)
theorem e44 : evFn (tabU []) ⟨F44.res, F44.keep, tf44.sg⟩ T44 = fun x => some (h44 x) := by kernel_rfl
theorem o44 : TOK (EF pg) 44 tf44 := tok_of p44 rfl (tabU_nil) ⟨rfl, rfl, by decide⟩ rfl (rndOk_of rfl) trivial fun x y h => (congrFun e44 x).trans h
/-- heliograph/ltp.ofIn -/
noncomputable def h46 (a0 : Taking) : Id :=
(a0.1, a0.2.1)
noncomputable def tf46 : TF := .tot ⟨[.v YTaking], YId⟩ (fun x => h46 x)
theorem e46 : evFn (tabU []) ⟨F46.res, F46.keep, tf46.sg⟩ T46 = fun x => some (h46 x) := by kernel_rfl
theorem o46 : TOK (EF pg) 46 tf46 := tok_of p46 rfl (tabU_nil) ⟨rfl, rfl, by decide⟩ rfl (rndOk_of rfl) trivial fun x y h => (congrFun e46 x).trans h
/-- heliograph/ltp.ofClosed -/
noncomputable def h48 (a0 : Closed) : Id :=
(a0.1, a0.2.1)
noncomputable def tf48 : TF := .tot ⟨[.v YClosed], YId⟩ (fun x => h48 x)
theorem e48 : evFn (tabU []) ⟨F48.res, F48.keep, tf48.sg⟩ T48 = fun x => some (h48 x) := by kernel_rfl
theorem o48 : TOK (EF pg) 48 tf48 := tok_of p48 rfl (tabU_nil) ⟨rfl, rfl, by decide⟩ rfl (rndOk_of rfl) trivial fun x y h => (congrFun e48 x).trans h
/-- heliograph/heliographref10.Same -/
noncomputable def g54x0 (s : Int × Int × Int × Int × Int × Int × Int × Int × Int × Int × Int × Int × Bool × (List Int) × (List Claim) × Int × Int × Int × Int × Int × Int × Int × Int × Int × Int × Bool × (List Int) × List Claim) : Option ((Int × Int × Int × Int × Int × Int × Int × Int × Int × Int × Int × Int × Bool × (List Int) × (List Claim) × Int × Int × Int × Int × Int × Int × Int × Int × Int × Int × Bool × (List Int) × List Claim) ⊕ ((Int × Int × Int × Int × Int × Int × Int × Int × Int × Int × Bool × (List Int) × (List Claim) × Int × Int × Int × Int × Int × Int × Int × Int × Int × Int × Bool × (List Int) × List Claim) ⊕ Bool)) :=
if (decide (s.2.1 < s.1)) then
((idx s.2.2.2.2.2.2.2.2.2.2.2.2.2.2.1 s.2.1).bind fun y6 =>
(idx s.2.2.2.2.2.2.2.2.2.2.2.2.2.2.2.2.2.2.2.2.2.2.2.2.2.2.2 s.2.1).bind fun y7 =>
if (!((y6.1 == y7.1) && ((y6.2 == y7.2) && (true)))) then
(some (Sum.inr (Sum.inr (false))))
else
(
some (Sum.inl (s.1, (IntKind.i64.wrap (s.2.1 + (1 : Int))), s.2.2.1, s.2.2.2.1, s.2.2.2.2.1, s.2.2.2.2.2.1, s.2.2.2.2.2.2.1, s.2.2.2.2.2.2.2.1, s.2.2.2.2.2.2.2.2.1, s.2.2.2.2.2.2.2.2.2.1, s.2.2.2.2.2.2.2.2.2.2.1, s.2.2.2.2.2.2.2.2.2.2.2.1, s.2.2.2.2.2.2.2.2.2.2.2.2.1, s.2.2.2.2.2.2.2.2.2.2.2.2.2.1, s.2.2.2.2.2.2.2.2.2.2.2.2.2.2.1, s.2.2.2.2.2.2.2.2.2.2.2.2.2.2.2.1, s.2.2.2.2.2.2.2.2.2.2.2.2.2.2.2.2.1, s.2.2.2.2.2.2.2.2.2.2.2.2.2.2.2.2.2.1, s.2.2.2.2.2.2.2.2.2.2.2.2.2.2.2.2.2.2.1, s.2.2.2.2.2.2.2.2.2.2.2.2.2.2.2.2.2.2.2.1, s.2.2.2.2.2.2.2.2.2.2.2.2.2.2.2.2.2.2.2.2.1, s.2.2.2.2.2.2.2.2.2.2.2.2.2.2.2.2.2.2.2.2.2.1, s.2.2.2.2.2.2.2.2.2.2.2.2.2.2.2.2.2.2.2.2.2.2.1, s.2.2.2.2.2.2.2.2.2.2.2.2.2.2.2.2.2.2.2.2.2.2.2.1, s.2.2.2.2.2.2.2.2.2.2.2.2.2.2.2.2.2.2.2.2.2.2.2.2.1, s.2.2.2.2.2.2.2.2.2.2.2.2.2.2.2.2.2.2.2.2.2.2.2.2.2.1, s.2.2.2.2.2.2.2.2.2.2.2.2.2.2.2.2.2.2.2.2.2.2.2.2.2.2.1, s.2.2.2.2.2.2.2.2.2.2.2.2.2.2.2.2.2.2.2.2.2.2.2.2.2.2.2))))
else
(some (Sum.inr (Sum.inl (s.2.2.1, s.2.2.2.1, s.2.2.2.2.1, s.2.2.2.2.2.1, s.2.2.2.2.2.2.1, s.2.2.2.2.2.2.2.1, s.2.2.2.2.2.2.2.2.1, s.2.2.2.2.2.2.2.2.2.1, s.2.2.2.2.2.2.2.2.2.2.1, s.2.2.2.2.2.2.2.2.2.2.2.1, s.2.2.2.2.2.2.2.2.2.2.2.2.1, s.2.2.2.2.2.2.2.2.2.2.2.2.2.1, s.2.2.2.2.2.2.2.2.2.2.2.2.2.2.1, s.2.2.2.2.2.2.2.2.2.2.2.2.2.2.2.1, s.2.2.2.2.2.2.2.2.2.2.2.2.2.2.2.2.1, s.2.2.2.2.2.2.2.2.2.2.2.2.2.2.2.2.2.1, s.2.2.2.2.2.2.2.2.2.2.2.2.2.2.2.2.2.2.1, s.2.2.2.2.2.2.2.2.2.2.2.2.2.2.2.2.2.2.2.1, s.2.2.2.2.2.2.2.2.2.2.2.2.2.2.2.2.2.2.2.2.1, s.2.2.2.2.2.2.2.2.2.2.2.2.2.2.2.2.2.2.2.2.2.1, s.2.2.2.2.2.2.2.2.2.2.2.2.2.2.2.2.2.2.2.2.2.2.1, s.2.2.2.2.2.2.2.2.2.2.2.2.2.2.2.2.2.2.2.2.2.2.2.1, s.2.2.2.2.2.2.2.2.2.2.2.2.2.2.2.2.2.2.2.2.2.2.2.2.1, s.2.2.2.2.2.2.2.2.2.2.2.2.2.2.2.2.2.2.2.2.2.2.2.2.2.1, s.2.2.2.2.2.2.2.2.2.2.2.2.2.2.2.2.2.2.2.2.2.2.2.2.2.2.1, s.2.2.2.2.2.2.2.2.2.2.2.2.2.2.2.2.2.2.2.2.2.2.2.2.2.2.2))))
noncomputable def g54 (a0 : Segment) (a1 : Segment) : Option Bool :=
if ((a0.2.2.2.2.2.2.2.2.2.2.2.2.length : Int) != (a1.2.2.2.2.2.2.2.2.2.2.2.2.length : Int)) then
(some false)
else
(
(lpU g54x0 ((a0.2.2.2.2.2.2.2.2.2.2.2.2.length : Int), (0 : Int), a0.1, a0.2.1, a0.2.2.1, a0.2.2.2.1, a0.2.2.2.2.1, a0.2.2.2.2.2.1, a0.2.2.2.2.2.2.1, a0.2.2.2.2.2.2.2.1, a0.2.2.2.2.2.2.2.2.1, a0.2.2.2.2.2.2.2.2.2.1, a0.2.2.2.2.2.2.2.2.2.2.1, a0.2.2.2.2.2.2.2.2.2.2.2.1, a0.2.2.2.2.2.2.2.2.2.2.2.2, a1.1, a1.2.1, a1.2.2.1, a1.2.2.2.1, a1.2.2.2.2.1, a1.2.2.2.2.2.1, a1.2.2.2.2.2.2.1, a1.2.2.2.2.2.2.2.1, a1.2.2.2.2.2.2.2.2.1, a1.2.2.2.2.2.2.2.2.2.1, a1.2.2.2.2.2.2.2.2.2.2.1, a1.2.2.2.2.2.2.2.2.2.2.2.1, a1.2.2.2.2.2.2.2.2.2.2.2.2)).bind fun z10 =>
match z10 with
| Sum.inl z11 => (let x13 := z11.1 == z11.2.2.2.2.2.2.2.2.2.2.2.2.2.1
some (if (if (if (if (if (if (if (if (if (if (if x13 then (z11.2.1 == z11.2.2.2.2.2.2.2.2.2.2.2.2.2.2.1) else false) then (z11.2.2.1 == z11.2.2.2.2.2.2.2.2.2.2.2.2.2.2.2.1) else false) then (z11.2.2.2.1 == z11.2.2.2.2.2.2.2.2.2.2.2.2.2.2.2.2.1) else false) then (z11.2.2.2.2.1 == z11.2.2.2.2.2.2.2.2.2.2.2.2.2.2.2.2.2.1) else false) then (z11.2.2.2.2.2.1 == z11.2.2.2.2.2.2.2.2.2.2.2.2.2.2.2.2.2.2.1) else false) then (z11.2.2.2.2.2.2.1 == z11.2.2.2.2.2.2.2.2.2.2.2.2.2.2.2.2.2.2.2.1) else false) then (z11.2.2.2.2.2.2.2.1 == z11.2.2.2.2.2.2.2.2.2.2.2.2.2.2.2.2.2.2.2.2.1) else false) then (z11.2.2.2.2.2.2.2.2.1 == z11.2.2.2.2.2.2.2.2.2.2.2.2.2.2.2.2.2.2.2.2.2.1) else false) then (z11.2.2.2.2.2.2.2.2.2.1 == z11.2.2.2.2.2.2.2.2.2.2.2.2.2.2.2.2.2.2.2.2.2.2.1) else false) then ((z11.2.2.2.2.2.2.2.2.2.2.1 == z11.2.2.2.2.2.2.2.2.2.2.2.2.2.2.2.2.2.2.2.2.2.2.2.1) != false) else false) then (decide (z11.2.2.2.2.2.2.2.2.2.2.2.1 = z11.2.2.2.2.2.2.2.2.2.2.2.2.2.2.2.2.2.2.2.2.2.2.2.2.1)) else false))
| Sum.inr z12 => (some z12))
noncomputable def tf54 : TF := .par ⟨[.v YSegment, .v YSegment], .b⟩ (fun x => g54 x.1 x.2)
theorem e54 : evFn (tabU []) ⟨F54.res, F54.keep, tf54.sg⟩ T54 = fun x => g54 x.1 x.2 := by kernel_rfl
theorem o54 : TOK (EF pg) 54 tf54 := tok_of p54 rfl (tabU_nil) ⟨rfl, rfl, by decide⟩ rfl (rndOk_of rfl) trivial fun x y h => (congrFun e54 x).trans h
/-- heliograph/heliographref14.Same -/
noncomputable def g52x0 (s : Int × Int × Int × Int × (List Int) × Int × Int × Int × (List Claim) × Int × Int × Int × Int × Int × Int × Int × Int × Int × Int × Bool × (List Int) × (List Claim) × Int × Int × (List Int) × Int × Int × Int × (List Int) × Int × Int × Int × (List Claim) × Int × Int × Int × Int × Int × Int × Int × Int × Int × Int × Bool × (List Int) × (List Claim) × Int × Int × (List Int) × Int) : Option ((Int × Int × Int × Int × (List Int) × Int × Int × Int × (List Claim) × Int × Int × Int × Int × Int × Int × Int × Int × Int × Int × Bool × (List Int) × (List Claim) × Int × Int × (List Int) × Int × Int × Int × (List Int) × Int × Int × Int × (List Claim) × Int × Int × Int × Int × Int × Int × Int × Int × Int × Int × Bool × (List Int) × (List Claim) × Int × Int × (List Int) × Int) ⊕ ((Int × Int × (List Int) × Int × Int × Int × (List Claim) × Int × Int × Int × Int × Int × Int × Int × Int × Int × Int × Bool × (List Int) × (List Claim) × Int × Int × (List Int) × Int × Int × Int × (List Int) × Int × Int × Int × (List Claim) × Int × Int × Int × Int × Int × Int × Int × Int × Int × Int × Bool × (List Int) × (List Claim) × Int × Int × (List Int) × Int) ⊕ Bool)) :=
if (decide (s.2.1 < s.1)) then
((idx s.2.2.2.2.2.2.2.2.1 s.2.1).bind fun y31 =>
(idx s.2.2.2.2.2.2.2.2.2.2.2.2.2.2.2.2.2.2.2.2.2.2.2.2.2.2.2.2.2.2.2.2.1 s.2.1).bind fun y32 =>
if (!((y31.1 == y32.1) && ((y31.2 == y32.2) && (true)))) then
(some (Sum.inr (Sum.inr (false))))
else
(
some (Sum.inl (s.1, (IntKind.i64.wrap (s.2.1 + (1 : Int))), s.2.2.1, s.2.2.2.1, s.2.2.2.2.1, s.2.2.2.2.2.1, s.2.2.2.2.2.2.1, s.2.2.2.2.2.2.2.1, s.2.2.2.2.2.2.2.2.1, s.2.2.2.2.2.2.2.2.2.1, s.2.2.2.2.2.2.2.2.2.2.1, s.2.2.2.2.2.2.2.2.2.2.2.1, s.2.2.2.2.2.2.2.2.2.2.2.2.1, s.2.2.2.2.2.2.2.2.2.2.2.2.2.1, s.2.2.2.2.2.2.2.2.2.2.2.2.2.2.1, s.2.2.2.2.2.2.2.2.2.2.2.2.2.2.2.1, s.2.2.2.2.2.2.2.2.2.2.2.2.2.2.2.2.1, s.2.2.2.2.2.2.2.2.2.2.2.2.2.2.2.2.2.1, s.2.2.2.2.2.2.2.2.2.2.2.2.2.2.2.2.2.2.1, s.2.2.2.2.2.2.2.2.2.2.2.2.2.2.2.2.2.2.2.1, s.2.2.2.2.2.2.2.2.2.2.2.2.2.2.2.2.2.2.2.2.1, s.2.2.2.2.2.2.2.2.2.2.2.2.2.2.2.2.2.2.2.2.2.1, s.2.2.2.2.2.2.2.2.2.2.2.2.2.2.2.2.2.2.2.2.2.2.1, s.2.2.2.2.2.2.2.2.2.2.2.2.2.2.2.2.2.2.2.2.2.2.2.1, s.2.2.2.2.2.2.2.2.2.2.2.2.2.2.2.2.2.2.2.2.2.2.2.2.1, s.2.2.2.2.2.2.2.2.2.2.2.2.2.2.2.2.2.2.2.2.2.2.2.2.2.1, s.2.2.2.2.2.2.2.2.2.2.2.2.2.2.2.2.2.2.2.2.2.2.2.2.2.2.1, s.2.2.2.2.2.2.2.2.2.2.2.2.2.2.2.2.2.2.2.2.2.2.2.2.2.2.2.1, s.2.2.2.2.2.2.2.2.2.2.2.2.2.2.2.2.2.2.2.2.2.2.2.2.2.2.2.2.1, s.2.2.2.2.2.2.2.2.2.2.2.2.2.2.2.2.2.2.2.2.2.2.2.2.2.2.2.2.2.1, s.2.2.2.2.2.2.2.2.2.2.2.2.2.2.2.2.2.2.2.2.2.2.2.2.2.2.2.2.2.2.1, s.2.2.2.2.2.2.2.2.2.2.2.2.2.2.2.2.2.2.2.2.2.2.2.2.2.2.2.2.2.2.2.1, s.2.2.2.2.2.2.2.2.2.2.2.2.2.2.2.2.2.2.2.2.2.2.2.2.2.2.2.2.2.2.2.2.1, s.2.2.2.2.2.2.2.2.2.2.2.2.2.2.2.2.2.2.2.2.2.2.2.2.2.2.2.2.2.2.2.2.2.1, s.2.2.2.2.2.2.2.2.2.2.2.2.2.2.2.2.2.2.2.2.2.2.2.2.2.2.2.2.2.2.2.2.2.2.1, s.2.2.2.2.2.2.2.2.2.2.2.2.2.2.2.2.2.2.2.2.2.2.2.2.2.2.2.2.2.2.2.2.2.2.2.1, s.2.2.2.2.2.2.2.2.2.2.2.2.2.2.2.2.2.2.2.2.2.2.2.2.2.2.2.2.2.2.2.2.2.2.2.2.1, s.2.2.2.2.2.2.2.2.2.2.2.2.2.2.2.2.2.2.2.2.2.2.2.2.2.2.2.2.2.2.2.2.2.2.2.2.2.1, s.2.2.2.2.2.2.2.2.2.2.2.2.2.2.2.2.2.2.2.2.2.2.2.2.2.2.2.2.2.2.2.2.2.2.2.2.2.2.1, s.2.2.2.2.2.2.2.2.2.2.2.2.2.2.2.2.2.2.2.2.2.2.2.2.2.2.2.2.2.2.2.2.2.2.2.2.2.2.2.1, s.2.2.2.2.2.2.2.2.2.2.2.2.2.2.2.2.2.2.2.2.2.2.2.2.2.2.2.2.2.2.2.2.2.2.2.2.2.2.2.2.1, s.2.2.2.2.2.2.2.2.2.2.2.2.2.2.2.2.2.2.2.2.2.2.2.2.2.2.2.2.2.2.2.2.2.2.2.2.2.2.2.2.2.1, s.2.2.2.2.2.2.2.2.2.2.2.2.2.2.2.2.2.2.2.2.2.2.2.2.2.2.2.2.2.2.2.2.2.2.2.2.2.2.2.2.2.2.1, s.2.2.2.2.2.2.2.2.2.2.2.2.2.2.2.2.2.2.2.2.2.2.2.2.2.2.2.2.2.2.2.2.2.2.2.2.2.2.2.2.2.2.2.1, s.2.2.2.2.2.2.2.2.2.2.2.2.2.2.2.2.2.2.2.2.2.2.2.2.2.2.2.2.2.2.2.2.2.2.2.2.2.2.2.2.2.2.2.2.1, s.2.2.2.2.2.2.2.2.2.2.2.2.2.2.2.2.2.2.2.2.2.2.2.2.2.2.2.2.2.2.2.2.2.2.2.2.2.2.2.2.2.2.2.2.2.1, s.2.2.2.2.2.2.2.2.2.2.2.2.2.2.2.2.2.2.2.2.2.2.2.2.2.2.2.2.2.2.2.2.2.2.2.2.2.2.2.2.2.2.2.2.2.2.1, s.2.2.2.2.2.2.2.2.2.2.2.2.2.2.2.2.2.2.2.2.2.2.2.2.2.2.2.2.2.2.2.2.2.2.2.2.2.2.2.2.2.2.2.2.2.2.2.1, s.2.2.2.2.2.2.2.2.2.2.2.2.2.2.2.2.2.2.2.2.2.2.2.2.2.2.2.2.2.2.2.2.2.2.2.2.2.2.2.2.2.2.2.2.2.2.2.2.1, s.2.2.2.2.2.2.2.2.2.2.2.2.2.2.2.2.2.2.2.2.2.2.2.2.2.2.2.2.2.2.2.2.2.2.2.2.2.2.2.2.2.2.2.2.2.2.2.2.2))))
else
(some (Sum.inr (Sum.inl (s.2.2.1, s.2.2.2.1, s.2.2.2.2.1, s.2.2.2.2.2.1, s.2.2.2.2.2.2.1, s.2.2.2.2.2.2.2.1, s.2.2.2.2.2.2.2.2.1, s.2.2.2.2.2.2.2.2.2.1, s.2.2.2.2.2.2.2.2.2.2.1, s.2.2.2.2.2.2.2.2.2.2.2.1, s.2.2.2.2.2.2.2.2.2.2.2.2.1, s.2.2.2.2.2.2.2.2.2.2.2.2.2.1, s.2.2.2.2.2.2.2.2.2.2.2.2.2.2.1, s.2.2.2.2.2.2.2.2.2.2.2.2.2.2.2.1, s.2.2.2.2.2.2.2.2.2.2.2.2.2.2.2.2.1, s.2.2.2.2.2.2.2.2.2.2.2.2.2.2.2.2.2.1, s.2.2.2.2.2.2.2.2.2.2.2.2.2.2.2.2.2.2.1, s.2.2.2.2.2.2.2.2.2.2.2.2.2.2.2.2.2.2.2.1, s.2.2.2.2.2.2.2.2.2.2.2.2.2.2.2.2.2.2.2.2.1, s.2.2.2.2.2.2.2.2.2.2.2.2.2.2.2.2.2.2.2.2.2.1, s.2.2.2.2.2.2.2.2.2.2.2.2.2.2.2.2.2.2.2.2.2.2.1, s.2.2.2.2.2.2.2.2.2.2.2.2.2.2.2.2.2.2.2.2.2.2.2.1, s.2.2.2.2.2.2.2.2.2.2.2.2.2.2.2.2.2.2.2.2.2.2.2.2.1, s.2.2.2.2.2.2.2.2.2.2.2.2.2.2.2.2.2.2.2.2.2.2.2.2.2.1, s.2.2.2.2.2.2.2.2.2.2.2.2.2.2.2.2.2.2.2.2.2.2.2.2.2.2.1, s.2.2.2.2.2.2.2.2.2.2.2.2.2.2.2.2.2.2.2.2.2.2.2.2.2.2.2.1, s.2.2.2.2.2.2.2.2.2.2.2.2.2.2.2.2.2.2.2.2.2.2.2.2.2.2.2.2.1, s.2.2.2.2.2.2.2.2.2.2.2.2.2.2.2.2.2.2.2.2.2.2.2.2.2.2.2.2.2.1, s.2.2.2.2.2.2.2.2.2.2.2.2.2.2.2.2.2.2.2.2.2.2.2.2.2.2.2.2.2.2.1, s.2.2.2.2.2.2.2.2.2.2.2.2.2.2.2.2.2.2.2.2.2.2.2.2.2.2.2.2.2.2.2.1, s.2.2.2.2.2.2.2.2.2.2.2.2.2.2.2.2.2.2.2.2.2.2.2.2.2.2.2.2.2.2.2.2.1, s.2.2.2.2.2.2.2.2.2.2.2.2.2.2.2.2.2.2.2.2.2.2.2.2.2.2.2.2.2.2.2.2.2.1, s.2.2.2.2.2.2.2.2.2.2.2.2.2.2.2.2.2.2.2.2.2.2.2.2.2.2.2.2.2.2.2.2.2.2.1, s.2.2.2.2.2.2.2.2.2.2.2.2.2.2.2.2.2.2.2.2.2.2.2.2.2.2.2.2.2.2.2.2.2.2.2.1, s.2.2.2.2.2.2.2.2.2.2.2.2.2.2.2.2.2.2.2.2.2.2.2.2.2.2.2.2.2.2.2.2.2.2.2.2.1, s.2.2.2.2.2.2.2.2.2.2.2.2.2.2.2.2.2.2.2.2.2.2.2.2.2.2.2.2.2.2.2.2.2.2.2.2.2.1, s.2.2.2.2.2.2.2.2.2.2.2.2.2.2.2.2.2.2.2.2.2.2.2.2.2.2.2.2.2.2.2.2.2.2.2.2.2.2.1, s.2.2.2.2.2.2.2.2.2.2.2.2.2.2.2.2.2.2.2.2.2.2.2.2.2.2.2.2.2.2.2.2.2.2.2.2.2.2.2.1, s.2.2.2.2.2.2.2.2.2.2.2.2.2.2.2.2.2.2.2.2.2.2.2.2.2.2.2.2.2.2.2.2.2.2.2.2.2.2.2.2.1, s.2.2.2.2.2.2.2.2.2.2.2.2.2.2.2.2.2.2.2.2.2.2.2.2.2.2.2.2.2.2.2.2.2.2.2.2.2.2.2.2.2.1, s.2.2.2.2.2.2.2.2.2.2.2.2.2.2.2.2.2.2.2.2.2.2.2.2.2.2.2.2.2.2.2.2.2.2.2.2.2.2.2.2.2.2.1, s.2.2.2.2.2.2.2.2.2.2.2.2.2.2.2.2.2.2.2.2.2.2.2.2.2.2.2.2.2.2.2.2.2.2.2.2.2.2.2.2.2.2.2.1, s.2.2.2.2.2.2.2.2.2.2.2.2.2.2.2.2.2.2.2.2.2.2.2.2.2.2.2.2.2.2.2.2.2.2.2.2.2.2.2.2.2.2.2.2.1, s.2.2.2.2.2.2.2.2.2.2.2.2.2.2.2.2.2.2.2.2.2.2.2.2.2.2.2.2.2.2.2.2.2.2.2.2.2.2.2.2.2.2.2.2.2.1, s.2.2.2.2.2.2.2.2.2.2.2.2.2.2.2.2.2.2.2.2.2.2.2.2.2.2.2.2.2.2.2.2.2.2.2.2.2.2.2.2.2.2.2.2.2.2.1, s.2.2.2.2.2.2.2.2.2.2.2.2.2.2.2.2.2.2.2.2.2.2.2.2.2.2.2.2.2.2.2.2.2.2.2.2.2.2.2.2.2.2.2.2.2.2.2.1, s.2.2.2.2.2.2.2.2.2.2.2.2.2.2.2.2.2.2.2.2.2.2.2.2.2.2.2.2.2.2.2.2.2.2.2.2.2.2.2.2.2.2.2.2.2.2.2.2.1, s.2.2.2.2.2.2.2.2.2.2.2.2.2.2.2.2.2.2.2.2.2.2.2.2.2.2.2.2.2.2.2.2.2.2.2.2.2.2.2.2.2.2.2.2.2.2.2.2.2))))
noncomputable def g52x1 (s : Int × Int × Int × Int × (List Int) × Int × Int × Int × (List Claim) × Int × Int × Int × Int × Int × Int × Int × Int × Int × Int × Bool × (List Int) × (List Claim) × Int × Int × (List Int) × Int × Int × Int × (List Int) × Int × Int × Int × (List Claim) × Int × Int × Int × Int × Int × Int × Int × Int × Int × Int × Bool × (List Int) × (List Claim) × Int × Int × (List Int) × Int) : Option ((Int × Int × Int × Int × (List Int) × Int × Int × Int × (List Claim) × Int × Int × Int × Int × Int × Int × Int × Int × Int × Int × Bool × (List Int) × (List Claim) × Int × Int × (List Int) × Int × Int × Int × (List Int) × Int × Int × Int × (List Claim) × Int × Int × Int × Int × Int × Int × Int × Int × Int × Int × Bool × (List Int) × (List Claim) × Int × Int × (List Int) × Int) ⊕ (Unit ⊕ Bool)) :=
if (decide (s.2.1 < s.1)) then
((idx s.2.2.2.2.2.2.2.2.2.2.2.2.2.2.2.2.2.2.2.2.2.2.2.2.1 s.2.1).bind fun y40 =>
(idx s.2.2.2.2.2.2.2.2.2.2.2.2.2.2.2.2.2.2.2.2.2.2.2.2.2.2.2.2.2.2.2.2.2.2.2.2.2.2.2.2.2.2.2.2.2.2.2.2.1 s.2.1).bind fun y41 =>
if (y40 != y41) then
(some (Sum.inr (Sum.inr (false))))
else
(
some (Sum.inl (s.1, (IntKind.i64.wrap (s.2.1 + (1 : Int))), s.2.2.1, s.2.2.2.1, s.2.2.2.2.1, s.2.2.2.2.2.1, s.2.2.2.2.2.2.1, s.2.2.2.2.2.2.2.1, s.2.2.2.2.2.2.2.2.1, s.2.2.2.2.2.2.2.2.2.1, s.2.2.2.2.2.2.2.2.2.2.1, s.2.2.2.2.2.2.2.2.2.2.2.1, s.2.2.2.2.2.2.2.2.2.2.2.2.1, s.2.2.2.2.2.2.2.2.2.2.2.2.2.1, s.2.2.2.2.2.2.2.2.2.2.2.2.2.2.1, s.2.2.2.2.2.2.2.2.2.2.2.2.2.2.2.1, s.2.2.2.2.2.2.2.2.2.2.2.2.2.2.2.2.1, s.2.2.2.2.2.2.2.2.2.2.2.2.2.2.2.2.2.1, s.2.2.2.2.2.2.2.2.2.2.2.2.2.2.2.2.2.2.1, s.2.2.2.2.2.2.2.2.2.2.2.2.2.2.2.2.2.2.2.1, s.2.2.2.2.2.2.2.2.2.2.2.2.2.2.2.2.2.2.2.2.1, s.2.2.2.2.2.2.2.2.2.2.2.2.2.2.2.2.2.2.2.2.2.1, s.2.2.2.2.2.2.2.2.2.2.2.2.2.2.2.2.2.2.2.2.2.2.1, s.2.2.2.2.2.2.2.2.2.2.2.2.2.2.2.2.2.2.2.2.2.2.2.1, s.2.2.2.2.2.2.2.2.2.2.2.2.2.2.2.2.2.2.2.2.2.2.2.2.1, s.2.2.2.2.2.2.2.2.2.2.2.2.2.2.2.2.2.2.2.2.2.2.2.2.2.1, s.2.2.2.2.2.2.2.2.2.2.2.2.2.2.2.2.2.2.2.2.2.2.2.2.2.2.1, s.2.2.2.2.2.2.2.2.2.2.2.2.2.2.2.2.2.2.2.2.2.2.2.2.2.2.2.1, s.2.2.2.2.2.2.2.2.2.2.2.2.2.2.2.2.2.2.2.2.2.2.2.2.2.2.2.2.1, s.2.2.2.2.2.2.2.2.2.2.2.2.2.2.2.2.2.2.2.2.2.2.2.2.2.2.2.2.2.1, s.2.2.2.2.2.2.2.2.2.2.2.2.2.2.2.2.2.2.2.2.2.2.2.2.2.2.2.2.2.2.1, s.2.2.2.2.2.2.2.2.2.2.2.2.2.2.2.2.2.2.2.2.2.2.2.2.2.2.2.2.2.2.2.1, s.2.2.2.2.2.2.2.2.2.2.2.2.2.2.2.2.2.2.2.2.2.2.2.2.2.2.2.2.2.2.2.2.1, s.2.2.2.2.2.2.2.2.2.2.2.2.2.2.2.2.2.2.2.2.2.2.2.2.2.2.2.2.2.2.2.2.2.1, s.2.2.2.2.2.2.2.2.2.2.2.2.2.2.2.2.2.2.2.2.2.2.2.2.2.2.2.2.2.2.2.2.2.2.1, s.2.2.2.2.2.2.2.2.2.2.2.2.2.2.2.2.2.2.2.2.2.2.2.2.2.2.2.2.2.2.2.2.2.2.2.1, s.2.2.2.2.2.2.2.2.2.2.2.2.2.2.2.2.2.2.2.2.2.2.2.2.2.2.2.2.2.2.2.2.2.2.2.2.1, s.2.2.2.2.2.2.2.2.2.2.2.2.2.2.2.2.2.2.2.2.2.2.2.2.2.2.2.2.2.2.2.2.2.2.2.2.2.1, s.2.2.2.2.2.2.2.2.2.2.2.2.2.2.2.2.2.2.2.2.2.2.2.2.2.2.2.2.2.2.2.2.2.2.2.2.2.2.1, s.2.2.2.2.2.2.2.2.2.2.2.2.2.2.2.2.2.2.2.2.2.2.2.2.2.2.2.2.2.2.2.2.2.2.2.2.2.2.2.1, s.2.2.2.2.2.2.2.2.2.2.2.2.2.2.2.2.2.2.2.2.2.2.2.2.2.2.2.2.2.2.2.2.2.2.2.2.2.2.2.2.1, s.2.2.2.2.2.2.2.2.2.2.2.2.2.2.2.2.2.2.2.2.2.2.2.2.2.2.2.2.2.2.2.2.2.2.2.2.2.2.2.2.2.1, s.2.2.2.2.2.2.2.2.2.2.2.2.2.2.2.2.2.2.2.2.2.2.2.2.2.2.2.2.2.2.2.2.2.2.2.2.2.2.2.2.2.2.1, s.2.2.2.2.2.2.2.2.2.2.2.2.2.2.2.2.2.2.2.2.2.2.2.2.2.2.2.2.2.2.2.2.2.2.2.2.2.2.2.2.2.2.2.1, s.2.2.2.2.2.2.2.2.2.2.2.2.2.2.2.2.2.2.2.2.2.2.2.2.2.2.2.2.2.2.2.2.2.2.2.2.2.2.2.2.2.2.2.2.1, s.2.2.2.2.2.2.2.2.2.2.2.2.2.2.2.2.2.2.2.2.2.2.2.2.2.2.2.2.2.2.2.2.2.2.2.2.2.2.2.2.2.2.2.2.2.1, s.2.2.2.2.2.2.2.2.2.2.2.2.2.2.2.2.2.2.2.2.2.2.2.2.2.2.2.2.2.2.2.2.2.2.2.2.2.2.2.2.2.2.2.2.2.2.1, s.2.2.2.2.2.2.2.2.2.2.2.2.2.2.2.2.2.2.2.2.2.2.2.2.2.2.2.2.2.2.2.2.2.2.2.2.2.2.2.2.2.2.2.2.2.2.2.1, s.2.2.2.2.2.2.2.2.2.2.2.2.2.2.2.2.2.2.2.2.2.2.2.2.2.2.2.2.2.2.2.2.2.2.2.2.2.2.2.2.2.2.2.2.2.2.2.2.1, s.2.2.2.2.2.2.2.2.2.2.2.2.2.2.2.2.2.2.2.2.2.2.2.2.2.2.2.2.2.2.2.2.2.2.2.2.2.2.2.2.2.2.2.2.2.2.2.2.2))))
else
(some (Sum.inr (Sum.inl ())))
noncomputable def g52 (a0 : Sending) (a1 : Sending) : Option Bool :=
let x17 := if (if (if (if (if (if (if (if (a0.1 != a1.1) then true else (a0.2.1 != a1.2.1)) then true else (a0.2.2.2.1 != a1.2.2.2.1)) then true else (a0.2.2.2.2.1 != a1.2.2.2.2.1)) then true else (!decide (a0.2.2.1 = a1.2.2.1))) then true else (a0.2.2.2.2.2.1 != a1.2.2.2.2.2.1)) then true else (a0.2.2.2.2.2.2.2.2.2.2.2.2.2.2.2.2.2.2.2.2.1 != a1.2.2.2.2.2.2.2.2.2.2.2.2.2.2.2.2.2.2.2.2.1)) then true else (a0.2.2.2.2.2.2.2.2.2.2.2.2.2.2.2.2.2.2.2.2.2.1 != a1.2.2.2.2.2.2.2.2.2.2.2.2.2.2.2.2.2.2.2.2.2.1)) then true else (a0.2.2.2.2.2.2.2.2.2.2.2.2.2.2.2.2.2.2.2.2.2.2.2 != a1.2.2.2.2.2.2.2.2.2.2.2.2.2.2.2.2.2.2.2.2.2.2.2)
(if (!x17) then g54 (a0.2.2.2.2.2.2.2.1, a0.2.2.2.2.2.2.2.2.1, a0.2.2.2.2.2.2.2.2.2.1, a0.2.2.2.2.2.2.2.2.2.2.1, a0.2.2.2.2.2.2.2.2.2.2.2.1, a0.2.2.2.2.2.2.2.2.2.2.2.2.1, a0.2.2.2.2.2.2.2.2.2.2.2.2.2.1, a0.2.2.2.2.2.2.2.2.2.2.2.2.2.2.1, a0.2.2.2.2.2.2.2.2.2.2.2.2.2.2.2.1, a0.2.2.2.2.2.2.2.2.2.2.2.2.2.2.2.2.1, a0.2.2.2.2.2.2.2.2.2.2.2.2.2.2.2.2.2.1, a0.2.2.2.2.2.2.2.2.2.2.2.2.2.2.2.2.2.2.1, a0.2.2.2.2.2.2.2.2.2.2.2.2.2.2.2.2.2.2.2.1) (a1.2.2.2.2.2.2.2.1, a1.2.2.2.2.2.2.2.2.1, a1.2.2.2.2.2.2.2.2.2.1, a1.2.2.2.2.2.2.2.2.2.2.1, a1.2.2.2.2.2.2.2.2.2.2.2.1, a1.2.2.2.2.2.2.2.2.2.2.2.2.1, a1.2.2.2.2.2.2.2.2.2.2.2.2.2.1, a1.2.2.2.2.2.2.2.2.2.2.2.2.2.2.1, a1.2.2.2.2.2.2.2.2.2.2.2.2.2.2.2.1, a1.2.2.2.2.2.2.2.2.2.2.2.2.2.2.2.2.1, a1.2.2.2.2.2.2.2.2.2.2.2.2.2.2.2.2.2.1, a1.2.2.2.2.2.2.2.2.2.2.2.2.2.2.2.2.2.2.1, a1.2.2.2.2.2.2.2.2.2.2.2.2.2.2.2.2.2.2.2.1) else some false).bind fun y18 =>
if (if (if (if x17 then true else (!y18)) then true else ((a0.2.2.2.2.2.2.1.length : Int) != (a1.2.2.2.2.2.2.1.length : Int))) then true else ((a0.2.2.2.2.2.2.2.2.2.2.2.2.2.2.2.2.2.2.2.2.2.2.1.length : Int) != (a1.2.2.2.2.2.2.2.2.2.2.2.2.2.2.2.2.2.2.2.2.2.2.1.length : Int))) then
(some false)
else
(
(lpU g52x0 ((a0.2.2.2.2.2.2.1.length : Int), (0 : Int), a0.1, a0.2.1, a0.2.2.1, a0.2.2.2.1, a0.2.2.2.2.1, a0.2.2.2.2.2.1, a0.2.2.2.2.2.2.1, a0.2.2.2.2.2.2.2.1, a0.2.2.2.2.2.2.2.2.1, a0.2.2.2.2.2.2.2.2.2.1, a0.2.2.2.2.2.2.2.2.2.2.1, a0.2.2.2.2.2.2.2.2.2.2.2.1, a0.2.2.2.2.2.2.2.2.2.2.2.2.1, a0.2.2.2.2.2.2.2.2.2.2.2.2.2.1, a0.2.2.2.2.2.2.2.2.2.2.2.2.2.2.1, a0.2.2.2.2.2.2.2.2.2.2.2.2.2.2.2.1, a0.2.2.2.2.2.2.2.2.2.2.2.2.2.2.2.2.1, a0.2.2.2.2.2.2.2.2.2.2.2.2.2.2.2.2.2.1, a0.2.2.2.2.2.2.2.2.2.2.2.2.2.2.2.2.2.2.1, a0.2.2.2.2.2.2.2.2.2.2.2.2.2.2.2.2.2.2.2.1, a0.2.2.2.2.2.2.2.2.2.2.2.2.2.2.2.2.2.2.2.2.1, a0.2.2.2.2.2.2.2.2.2.2.2.2.2.2.2.2.2.2.2.2.2.1, a0.2.2.2.2.2.2.2.2.2.2.2.2.2.2.2.2.2.2.2.2.2.2.1, a0.2.2.2.2.2.2.2.2.2.2.2.2.2.2.2.2.2.2.2.2.2.2.2, a1.1, a1.2.1, a1.2.2.1, a1.2.2.2.1, a1.2.2.2.2.1, a1.2.2.2.2.2.1, a1.2.2.2.2.2.2.1, a1.2.2.2.2.2.2.2.1, a1.2.2.2.2.2.2.2.2.1, a1.2.2.2.2.2.2.2.2.2.1, a1.2.2.2.2.2.2.2.2.2.2.1, a1.2.2.2.2.2.2.2.2.2.2.2.1, a1.2.2.2.2.2.2.2.2.2.2.2.2.1, a1.2.2.2.2.2.2.2.2.2.2.2.2.2.1, a1.2.2.2.2.2.2.2.2.2.2.2.2.2.2.1, a1.2.2.2.2.2.2.2.2.2.2.2.2.2.2.2.1, a1.2.2.2.2.2.2.2.2.2.2.2.2.2.2.2.2.1, a1.2.2.2.2.2.2.2.2.2.2.2.2.2.2.2.2.2.1, a1.2.2.2.2.2.2.2.2.2.2.2.2.2.2.2.2.2.2.1, a1.2.2.2.2.2.2.2.2.2.2.2.2.2.2.2.2.2.2.2.1, a1.2.2.2.2.2.2.2.2.2.2.2.2.2.2.2.2.2.2.2.2.1, a1.2.2.2.2.2.2.2.2.2.2.2.2.2.2.2.2.2.2.2.2.2.1, a1.2.2.2.2.2.2.2.2.2.2.2.2.2.2.2.2.2.2.2.2.2.2.1, a1.2.2.2.2.2.2.2.2.2.2.2.2.2.2.2.2.2.2.2.2.2.2.2)).bind fun z35 =>
match z35 with
| Sum.inl z36 => (let x38 := (z36.2.2.2.2.2.2.2.2.2.2.2.2.2.2.2.2.2.2.2.2.2.2.1.length : Int)
(lpU g52x1 (x38, (0 : Int), z36.1, z36.2.1, z36.2.2.1, z36.2.2.2.1, z36.2.2.2.2.1, z36.2.2.2.2.2.1, z36.2.2.2.2.2.2.1, z36.2.2.2.2.2.2.2.1, z36.2.2.2.2.2.2.2.2.1, z36.2.2.2.2.2.2.2.2.2.1, z36.2.2.2.2.2.2.2.2.2.2.1, z36.2.2.2.2.2.2.2.2.2.2.2.1, z36.2.2.2.2.2.2.2.2.2.2.2.2.1, z36.2.2.2.2.2.2.2.2.2.2.2.2.2.1, z36.2.2.2.2.2.2.2.2.2.2.2.2.2.2.1, z36.2.2.2.2.2.2.2.2.2.2.2.2.2.2.2.1, z36.2.2.2.2.2.2.2.2.2.2.2.2.2.2.2.2.1, z36.2.2.2.2.2.2.2.2.2.2.2.2.2.2.2.2.2.1, z36.2.2.2.2.2.2.2.2.2.2.2.2.2.2.2.2.2.2.1, z36.2.2.2.2.2.2.2.2.2.2.2.2.2.2.2.2.2.2.2.1, z36.2.2.2.2.2.2.2.2.2.2.2.2.2.2.2.2.2.2.2.2.1, z36.2.2.2.2.2.2.2.2.2.2.2.2.2.2.2.2.2.2.2.2.2.1, z36.2.2.2.2.2.2.2.2.2.2.2.2.2.2.2.2.2.2.2.2.2.2.1, z36.2.2.2.2.2.2.2.2.2.2.2.2.2.2.2.2.2.2.2.2.2.2.2.1, z36.2.2.2.2.2.2.2.2.2.2.2.2.2.2.2.2.2.2.2.2.2.2.2.2.1, z36.2.2.2.2.2.2.2.2.2.2.2.2.2.2.2.2.2.2.2.2.2.2.2.2.2.1, z36.2.2.2.2.2.2.2.2.2.2.2.2.2.2.2.2.2.2.2.2.2.2.2.2.2.2.1, z36.2.2.2.2.2.2.2.2.2.2.2.2.2.2.2.2.2.2.2.2.2.2.2.2.2.2.2.1, z36.2.2.2.2.2.2.2.2.2.2.2.2.2.2.2.2.2.2.2.2.2.2.2.2.2.2.2.2.1, z36.2.2.2.2.2.2.2.2.2.2.2.2.2.2.2.2.2.2.2.2.2.2.2.2.2.2.2.2.2.1, z36.2.2.2.2.2.2.2.2.2.2.2.2.2.2.2.2.2.2.2.2.2.2.2.2.2.2.2.2.2.2.1, z36.2.2.2.2.2.2.2.2.2.2.2.2.2.2.2.2.2.2.2.2.2.2.2.2.2.2.2.2.2.2.2.1, z36.2.2.2.2.2.2.2.2.2.2.2.2.2.2.2.2.2.2.2.2.2.2.2.2.2.2.2.2.2.2.2.2.1, z36.2.2.2.2.2.2.2.2.2.2.2.2.2.2.2.2.2.2.2.2.2.2.2.2.2.2.2.2.2.2.2.2.2.1, z36.2.2.2.2.2.2.2.2.2.2.2.2.2.2.2.2.2.2.2.2.2.2.2.2.2.2.2.2.2.2.2.2.2.2.1, z36.2.2.2.2.2.2.2.2.2.2.2.2.2.2.2.2.2.2.2.2.2.2.2.2.2.2.2.2.2.2.2.2.2.2.2.1, z36.2.2.2.2.2.2.2.2.2.2.2.2.2.2.2.2.2.2.2.2.2.2.2.2.2.2.2.2.2.2.2.2.2.2.2.2.1, z36.2.2.2.2.2.2.2.2.2.2.2.2.2.2.2.2.2.2.2.2.2.2.2.2.2.2.2.2.2.2.2.2.2.2.2.2.2.1, z36.2.2.2.2.2.2.2.2.2.2.2.2.2.2.2.2.2.2.2.2.2.2.2.2.2.2.2.2.2.2.2.2.2.2.2.2.2.2.1, z36.2.2.2.2.2.2.2.2.2.2.2.2.2.2.2.2.2.2.2.2.2.2.2.2.2.2.2.2.2.2.2.2.2.2.2.2.2.2.2.1, z36.2.2.2.2.2.2.2.2.2.2.2.2.2.2.2.2.2.2.2.2.2.2.2.2.2.2.2.2.2.2.2.2.2.2.2.2.2.2.2.2.1, z36.2.2.2.2.2.2.2.2.2.2.2.2.2.2.2.2.2.2.2.2.2.2.2.2.2.2.2.2.2.2.2.2.2.2.2.2.2.2.2.2.2.1, z36.2.2.2.2.2.2.2.2.2.2.2.2.2.2.2.2.2.2.2.2.2.2.2.2.2.2.2.2.2.2.2.2.2.2.2.2.2.2.2.2.2.2.1, z36.2.2.2.2.2.2.2.2.2.2.2.2.2.2.2.2.2.2.2.2.2.2.2.2.2.2.2.2.2.2.2.2.2.2.2.2.2.2.2.2.2.2.2.1, z36.2.2.2.2.2.2.2.2.2.2.2.2.2.2.2.2.2.2.2.2.2.2.2.2.2.2.2.2.2.2.2.2.2.2.2.2.2.2.2.2.2.2.2.2.1, z36.2.2.2.2.2.2.2.2.2.2.2.2.2.2.2.2.2.2.2.2.2.2.2.2.2.2.2.2.2.2.2.2.2.2.2.2.2.2.2.2.2.2.2.2.2.1, z36.2.2.2.2.2.2.2.2.2.2.2.2.2.2.2.2.2.2.2.2.2.2.2.2.2.2.2.2.2.2.2.2.2.2.2.2.2.2.2.2.2.2.2.2.2.2.1, z36.2.2.2.2.2.2.2.2.2.2.2.2.2.2.2.2.2.2.2.2.2.2.2.2.2.2.2.2.2.2.2.2.2.2.2.2.2.2.2.2.2.2.2.2.2.2.2)).bind fun z44 =>
match z44 with
| Sum.inl z45 => (some true)
| Sum.inr z46 => (some z46))
| Sum.inr z37 => (some z37))
noncomputable def tf52 : TF := .par ⟨[.v YSending, .v YSending], .b⟩ (fun x => g52 x.1 x.2)
theorem e52 : evFn (tabU [(54, tf54)]) ⟨F52.res, F52.keep, tf52.sg⟩ T52 = fun x => g52 x.1 x.2 := by kernel_rfl
theorem o52 : TOK (EF pg) 52 tf52 := tok_of p52 rfl (tabU_cons o54 (tabU_nil)) ⟨rfl, rfl, by decide⟩ rfl (rndOk_of rfl) trivial fun x y h => (congrFun e52 x).trans h
/-- slices.IndexFunc[[]heliograph/api.Outward,heliograph/api.Outward] -/
noncomputable def g89x0 (s : (List Outward) × (Outward → Option Bool) × Int × Int) : Option (((List Outward) × (Outward → Option Bool) × Int × Int) ⊕ (Unit ⊕ Int)) :=
if (decide (s.2.2.2 < s.2.2.1)) then
((idx s.1 s.2.2.2).bind fun y3 =>
(s.2.1 y3).bind fun y4 =>
if y4 then
(some (Sum.inr (Sum.inr (s.2.2.2))))
else
(
some (Sum.inl (s.1, s.2.1, s.2.2.1, (IntKind.i64.wrap (s.2.2.2 + (1 : Int)))))))
else
(some (Sum.inr (Sum.inl ())))
noncomputable def g89 (a0 : List Outward) (a1 : Outward → Option Bool) : Option Int :=
(lpU g89x0 (a0, a1, (a0.length : Int), (0 : Int))).bind fun z6 =>
match z6 with
| Sum.inl z7 => (some (-1 : Int))
| Sum.inr z8 => (some z8)
noncomputable def tf89 : TF := .par ⟨[.v (.l .ro YOutward), .v (.fn YOutward .b)], (.i .i64)⟩ (fun x => g89 x.1 x.2)
theorem e89 : evFn (tabU []) ⟨F89.res, F89.keep, tf89.sg⟩ T89 = fun x => g89 x.1 x.2 := by kernel_rfl
theorem o89 : TOK (EF pg) 89 tf89 := tok_of p89 rfl (tabU_nil) ⟨rfl, rfl, by decide⟩ rfl (rndOk_of rfl) trivial fun x y h => (congrFun e89 x).trans h
/-- slices.ContainsFunc[[]heliograph/api.Outward,heliograph/api.Outward] -/
noncomputable def g40 (a0 : List Outward) (a1 : Outward → Option Bool) : Option Bool :=
(g89 a0 a1).bind fun y1 =>
some (decide (y1 ≥ (0 : Int)))
noncomputable def tf40 : TF := .par ⟨[.v (.l .ro YOutward), .v (.fn YOutward .b)], .b⟩ (fun x => g40 x.1 x.2)
theorem e40 : evFn (tabU [(89, tf89)]) ⟨F40.res, F40.keep, tf40.sg⟩ T40 = fun x => g40 x.1 x.2 := by kernel_rfl
theorem o40 : TOK (EF pg) 40 tf40 := tok_of p40 rfl (tabU_cons o89 (tabU_nil)) ⟨rfl, rfl, by decide⟩ rfl (rndOk_of rfl) trivial fun x y h => (congrFun e40 x).trans h
/-- slices.IndexFunc[[]heliograph/api.Taking,heliograph/api.Taking] -/
noncomputable def g90x0 (s : (List Taking) × (Taking → Option Bool) × Int × Int) : Option (((List Taking) × (Taking → Option Bool) × Int × Int) ⊕ (Unit ⊕ Int)) :=
if (decide (s.2.2.2 < s.2.2.1)) then
((idx s.1 s.2.2.2).bind fun y3 =>
(s.2.1 y3).bind fun y4 =>
if y4 then
(some (Sum.inr (Sum.inr (s.2.2.2))))
else
(
some (Sum.inl (s.1, s.2.1, s.2.2.1, (IntKind.i64.wrap (s.2.2.2 + (1 : Int)))))))
else
(some (Sum.inr (Sum.inl ())))
noncomputable def g90 (a0 : List Taking) (a1 : Taking → Option Bool) : Option Int :=
(lpU g90x0 (a0, a1, (a0.length : Int), (0 : Int))).bind fun z6 =>
match z6 with
| Sum.inl z7 => (some (-1 : Int))
| Sum.inr z8 => (some z8)
noncomputable def tf90 : TF := .par ⟨[.v (.l .ro YTaking), .v (.fn YTaking .b)], (.i .i64)⟩ (fun x => g90 x.1 x.2)
theorem e90 : evFn (tabU []) ⟨F90.res, F90.keep, tf90.sg⟩ T90 = fun x => g90 x.1 x.2 := by kernel_rfl
theorem o90 : TOK (EF pg) 90 tf90 := tok_of p90 rfl (tabU_nil) ⟨rfl, rfl, by decide⟩ rfl (rndOk_of rfl) trivial fun x y h => (congrFun e90 x).trans h
/-- slices.ContainsFunc[[]heliograph/api.Taking,heliograph/api.Taking] -/
noncomputable def g41 (a0 : List Taking) (a1 : Taking → Option Bool) : Option Bool :=
(g90 a0 a1).bind fun y1 =>
some (decide (y1 ≥ (0 : Int)))
noncomputable def tf41 : TF := .par ⟨[.v (.l .ro YTaking), .v (.fn YTaking .b)], .b⟩ (fun x => g41 x.1 x.2)
theorem e41 : evFn (tabU [(90, tf90)]) ⟨F41.res, F41.keep, tf41.sg⟩ T41 = fun x => g41 x.1 x.2 := by kernel_rfl
theorem o41 : TOK (EF pg) 41 tf41 := tok_of p41 rfl (tabU_cons o90 (tabU_nil)) ⟨rfl, rfl, by decide⟩ rfl (rndOk_of rfl) trivial fun x y h => (congrFun e41 x).trans h
/-- slices.IndexFunc[[]heliograph/api.Closed,heliograph/api.Closed] -/
noncomputable def g91x0 (s : (List Closed) × (Closed → Option Bool) × Int × Int) : Option (((List Closed) × (Closed → Option Bool) × Int × Int) ⊕ (Unit ⊕ Int)) :=
if (decide (s.2.2.2 < s.2.2.1)) then
((idx s.1 s.2.2.2).bind fun y3 =>
(s.2.1 y3).bind fun y4 =>
if y4 then
(some (Sum.inr (Sum.inr (s.2.2.2))))
else
(
some (Sum.inl (s.1, s.2.1, s.2.2.1, (IntKind.i64.wrap (s.2.2.2 + (1 : Int)))))))
else
(some (Sum.inr (Sum.inl ())))
noncomputable def g91 (a0 : List Closed) (a1 : Closed → Option Bool) : Option Int :=
(lpU g91x0 (a0, a1, (a0.length : Int), (0 : Int))).bind fun z6 =>
match z6 with
| Sum.inl z7 => (some (-1 : Int))
| Sum.inr z8 => (some z8)
noncomputable def tf91 : TF := .par ⟨[.v (.l .ro YClosed), .v (.fn YClosed .b)], (.i .i64)⟩ (fun x => g91 x.1 x.2)
theorem e91 : evFn (tabU []) ⟨F91.res, F91.keep, tf91.sg⟩ T91 = fun x => g91 x.1 x.2 := by kernel_rfl
theorem o91 : TOK (EF pg) 91 tf91 := tok_of p91 rfl (tabU_nil) ⟨rfl, rfl, by decide⟩ rfl (rndOk_of rfl) trivial fun x y h => (congrFun e91 x).trans h
/-- slices.ContainsFunc[[]heliograph/api.Closed,heliograph/api.Closed] -/
noncomputable def g42 (a0 : List Closed) (a1 : Closed → Option Bool) : Option Bool :=
(g91 a0 a1).bind fun y1 =>
some (decide (y1 ≥ (0 : Int)))
noncomputable def tf42 : TF := .par ⟨[.v (.l .ro YClosed), .v (.fn YClosed .b)], .b⟩ (fun x => g42 x.1 x.2)
theorem e42 : evFn (tabU [(91, tf91)]) ⟨F42.res, F42.keep, tf42.sg⟩ T42 = fun x => g42 x.1 x.2 := by kernel_rfl
theorem o42 : TOK (EF pg) 42 tf42 := tok_of p42 rfl (tabU_cons o91 (tabU_nil)) ⟨rfl, rfl, by decide⟩ rfl (rndOk_of rfl) trivial fun x y h => (congrFun e42 x).trans h
/-- heliograph/heliographref01.Same -/
noncomputable def g94x0 (s : (List Int) × (List Int) × Int) : Option (((List Int) × (List Int) × Int) ⊕ (Unit ⊕ Bool)) :=
if (decide (s.2.2 < (s.1.length : Int))) then
((idx s.1 s.2.2).bind fun y6 =>
(idx s.2.1 s.2.2).bind fun y7 =>
if (y6 != y7) then
(some (Sum.inr (Sum.inr (false))))
else
(
some (Sum.inl (s.1, s.2.1, (IntKind.i64.wrap (s.2.2 + (1 : Int)))))))
else
(some (Sum.inr (Sum.inl ())))
noncomputable def g94 (a0 : List Int) (a1 : List Int) : Option Bool :=
if ((a0.length : Int) != (a1.length : Int)) then
(some false)
else
((lpU g94x0 (a0, a1, (0 : Int))).bind fun z10 =>
match z10 with
| Sum.inl z11 => (some true)
| Sum.inr z12 => (some z12))
noncomputable def tf94 : TF := .par ⟨[.v (.l .ro (.i .u8)), .v (.l .ro (.i .u8))], .b⟩ (fun x => g94 x.1 x.2)
theorem e94 : evFn (tabU []) ⟨F94.res, F94.keep, tf94.sg⟩ T94 = fun x => g94 x.1 x.2 := by kernel_rfl
theorem o94 : TOK (EF pg) 94 tf94 := tok_of p94 rfl (tabU_nil) ⟨rfl, rfl, by decide⟩ rfl (rndOk_of rfl) trivial fun x y h => (congrFun e94 x).trans h
/-- heliograph/heliographref15.Same -/
noncomputable def g53x0 (s : Int × Int × Int × Int × (List Int) × (List Claim) × Int × Int × Int × Int × Int × Int × Int × (List Int) × (List Claim) × Int × Int × Int × Int) : Option ((Int × Int × Int × Int × (List Int) × (List Claim) × Int × Int × Int × Int × Int × Int × Int × (List Int) × (List Claim) × Int × Int × Int × Int) ⊕ (Unit ⊕ Bool)) :=
if (decide (s.1 < (s.2.2.2.2.2.1.length : Int))) then
((idx s.2.2.2.2.2.1 s.1).bind fun y23 =>
(idx s.2.2.2.2.2.2.2.2.2.2.2.2.2.2.1 s.1).bind fun y24 =>
if (!((y23.1 == y24.1) && ((y23.2 == y24.2) && (true)))) then
(some (Sum.inr (Sum.inr (false))))
else
(
some (Sum.inl ((IntKind.i64.wrap (s.1 + (1 : Int))), s.2.1, s.2.2.1, s.2.2.2.1, s.2.2.2.2.1, s.2.2.2.2.2.1, s.2.2.2.2.2.2.1, s.2.2.2.2.2.2.2.1, s.2.2.2.2.2.2.2.2.1, s.2.2.2.2.2.2.2.2.2.1, s.2.2.2.2.2.2.2.2.2.2.1, s.2.2.2.2.2.2.2.2.2.2.2.1, s.2.2.2.2.2.2.2.2.2.2.2.2.1, s.2.2.2.2.2.2.2.2.2.2.2.2.2.1, s.2.2.2.2.2.2.2.2.2.2.2.2.2.2.1, s.2.2.2.2.2.2.2.2.2.2.2.2.2.2.2.1, s.2.2.2.2.2.2.2.2.2.2.2.2.2.2.2.2.1, s.2.2.2.2.2.2.2.2.2.2.2.2.2.2.2.2.2.1, s.2.2.2.2.2.2.2.2.2.2.2.2.2.2.2.2.2.2))))
else
(some (Sum.inr (Sum.inl ())))
noncomputable def g53 (a0 : Taking) (a1 : Taking) : Option Bool :=
let x5 := if (if (a0.1 != a1.1) then true else (a0.2.1 != a1.2.1)) then true else (a0.2.2.1 != a1.2.2.1)
(if (!x5) then g94 a0.2.2.2.1 a1.2.2.2.1 else some false).bind fun y6 =>
if (if (if (if (if (if (if x5 then true else (!y6)) then true else ((a0.2.2.2.2.1.length : Int) != (a1.2.2.2.2.1.length : Int))) then true else (a0.2.2.2.2.2.1 != a1.2.2.2.2.2.1)) then true else (a0.2.2.2.2.2.2.1 != a1.2.2.2.2.2.2.1)) then true else (a0.2.2.2.2.2.2.2.1 != a1.2.2.2.2.2.2.2.1)) then true else (a0.2.2.2.2.2.2.2.2 != a1.2.2.2.2.2.2.2.2)) then
(some false)
else
((lpU g53x0 ((0 : Int), a0.1, a0.2.1, a0.2.2.1, a0.2.2.2.1, a0.2.2.2.2.1, a0.2.2.2.2.2.1, a0.2.2.2.2.2.2.1, a0.2.2.2.2.2.2.2.1, a0.2.2.2.2.2.2.2.2, a1.1, a1.2.1, a1.2.2.1, a1.2.2.2.1, a1.2.2.2.2.1, a1.2.2.2.2.2.1, a1.2.2.2.2.2.2.1, a1.2.2.2.2.2.2.2.1, a1.2.2.2.2.2.2.2.2)).bind fun z27 =>
match z27 with
| Sum.inl z28 => (some true)
| Sum.inr z29 => (some z29))
noncomputable def tf53 : TF := .par ⟨[.v YTaking, .v YTaking], .b⟩ (fun x => g53 x.1 x.2)
theorem e53 : evFn (tabU [(94, tf94)]) ⟨F53.res, F53.keep, tf53.sg⟩ T53 = fun x => g53 x.1 x.2 := by kernel_rfl
theorem o53 : TOK (EF pg) 53 tf53 := tok_of p53 rfl (tabU_cons o94 (tabU_nil)) ⟨rfl, rfl, by decide⟩ rfl (rndOk_of rfl) trivial fun x y h => (congrFun e53 x).trans h
/-- heliograph/heliographref16.Same -/
noncomputable def g14x0 (s : Int × Int × Int × Int × Int × Int × Int × (List Outward) × (List Taking) × (List Closed) × Int × Int × Int × Int × Int × (List Outward) × (List Taking) × List Closed) : Option ((Int × Int × Int × Int × Int × Int × Int × (List Outward) × (List Taking) × (List Closed) × Int × Int × Int × Int × Int × (List Outward) × (List Taking) × List Closed) ⊕ ((Int × Int × Int × Int × Int × (List Outward) × (List Taking) × (List Closed) × Int × Int × Int × Int × Int × (List Outward) × (List Taking) × List Closed) ⊕ Bool)) :=
if (decide (s.2.1 < s.1)) then
((idx s.2.2.2.2.2.2.2.1 s.2.1).bind fun y20 =>
(idx s.2.2.2.2.2.2.2.2.2.2.2.2.2.2.2.1 s.2.1).bind fun y21 =>
let x22 := y20.1 != y21.1
(if (!x22) then idx s.2.2.2.2.2.2.2.1 s.2.1 else some ((0 : Int), ((0 : Int), ((0 : Int), ([], ((0 : Int), ((0 : Int), ((0 : Int), ([], ((0 : Int), ((0 : Int), ((0 : Int), ((0 : Int), ((0 : Int), ((0 : Int), ((0 : Int), ((0 : Int), ((0 : Int), ((0 : Int), (false, ([], ([], ((0 : Int), ((0 : Int), ([], (0 : Int)))))))))))))))))))))))))).bind fun y23 =>
(if (!x22) then idx s.2.2.2.2.2.2.2.2.2.2.2.2.2.2.2.1 s.2.1 else some ((0 : Int), ((0 : Int), ((0 : Int), ([], ((0 : Int), ((0 : Int), ((0 : Int), ([], ((0 : Int), ((0 : Int), ((0 : Int), ((0 : Int), ((0 : Int), ((0 : Int), ((0 : Int), ((0 : Int), ((0 : Int), ((0 : Int), (false, ([], ([], ((0 : Int), ((0 : Int), ([], (0 : Int)))))))))))))))))))))))))).bind fun y24 =>
(if (!x22) then g52 y23.2 y24.2 else some false).bind fun y25 =>
if (if x22 then true else (!y25)) then
(some (Sum.inr (Sum.inr (false))))
else
(
some (Sum.inl (s.1, (IntKind.i64.wrap (s.2.1 + (1 : Int))), s.2.2.1, s.2.2.2.1, s.2.2.2.2.1, s.2.2.2.2.2.1, s.2.2.2.2.2.2.1, s.2.2.2.2.2.2.2.1, s.2.2.2.2.2.2.2.2.1, s.2.2.2.2.2.2.2.2.2.1, s.2.2.2.2.2.2.2.2.2.2.1, s.2.2.2.2.2.2.2.2.2.2.2.1, s.2.2.2.2.2.2.2.2.2.2.2.2.1, s.2.2.2.2.2.2.2.2.2.2.2.2.2.1, s.2.2.2.2.2.2.2.2.2.2.2.2.2.2.1, s.2.2.2.2.2.2.2.2.2.2.2.2.2.2.2.1, s.2.2.2.2.2.2.2.2.2.2.2.2.2.2.2.2.1, s.2.2.2.2.2.2.2.2.2.2.2.2.2.2.2.2.2))))
else
(some (Sum.inr (Sum.inl (s.2.2.1, s.2.2.2.1, s.2.2.2.2.1, s.2.2.2.2.2.1, s.2.2.2.2.2.2.1, s.2.2.2.2.2.2.2.1, s.2.2.2.2.2.2.2.2.1, s.2.2.2.2.2.2.2.2.2.1, s.2.2.2.2.2.2.2.2.2.2.1, s.2.2.2.2.2.2.2.2.2.2.2.1, s.2.2.2.2.2.2.2.2.2.2.2.2.1, s.2.2.2.2.2.2.2.2.2.2.2.2.2.1, s.2.2.2.2.2.2.2.2.2.2.2.2.2.2.1, s.2.2.2.2.2.2.2.2.2.2.2.2.2.2.2.1, s.2.2.2.2.2.2.2.2.2.2.2.2.2.2.2.2.1, s.2.2.2.2.2.2.2.2.2.2.2.2.2.2.2.2.2))))
noncomputable def g14x1 (s : Int × Int × Int × Int × Int × Int × Int × (List Outward) × (List Taking) × (List Closed) × Int × Int × Int × Int × Int × (List Outward) × (List Taking) × List Closed) : Option ((Int × Int × Int × Int × Int × Int × Int × (List Outward) × (List Taking) × (List Closed) × Int × Int × Int × Int × Int × (List Outward) × (List Taking) × List Closed) ⊕ ((Int × Int × Int × Int × Int × (List Outward) × (List Taking) × (List Closed) × Int × Int × Int × Int × Int × (List Outward) × (List Taking) × List Closed) ⊕ Bool)) :=
if (decide (s.2.1 < s.1)) then
((idx s.2.2.2.2.2.2.2.2.1 s.2.1).bind fun y34 =>
(idx s.2.2.2.2.2.2.2.2.2.2.2.2.2.2.2.2.1 s.2.1).bind fun y35 =>
(g53 y34 y35).bind fun y36 =>
if (!y36) then
(some (Sum.inr (Sum.inr (false))))
else
(
some (Sum.inl (s.1, (IntKind.i64.wrap (s.2.1 + (1 : Int))), s.2.2.1, s.2.2.2.1, s.2.2.2.2.1, s.2.2.2.2.2.1, s.2.2.2.2.2.2.1, s.2.2.2.2.2.2.2.1, s.2.2.2.2.2.2.2.2.1, s.2.2.2.2.2.2.2.2.2.1, s.2.2.2.2.2.2.2.2.2.2.1, s.2.2.2.2.2.2.2.2.2.2.2.1, s.2.2.2.2.2.2.2.2.2.2.2.2.1, s.2.2.2.2.2.2.2.2.2.2.2.2.2.1, s.2.2.2.2.2.2.2.2.2.2.2.2.2.2.1, s.2.2.2.2.2.2.2.2.2.2.2.2.2.2.2.1, s.2.2.2.2.2.2.2.2.2.2.2.2.2.2.2.2.1, s.2.2.2.2.2.2.2.2.2.2.2.2.2.2.2.2.2))))
else
(some (Sum.inr (Sum.inl (s.2.2.1, s.2.2.2.1, s.2.2.2.2.1, s.2.2.2.2.2.1, s.2.2.2.2.2.2.1, s.2.2.2.2.2.2.2.1, s.2.2.2.2.2.2.2.2.1, s.2.2.2.2.2.2.2.2.2.1, s.2.2.2.2.2.2.2.2.2.2.1, s.2.2.2.2.2.2.2.2.2.2.2.1, s.2.2.2.2.2.2.2.2.2.2.2.2.1, s.2.2.2.2.2.2.2.2.2.2.2.2.2.1, s.2.2.2.2.2.2.2.2.2.2.2.2.2.2.1, s.2.2.2.2.2.2.2.2.2.2.2.2.2.2.2.1, s.2.2.2.2.2.2.2.2.2.2.2.2.2.2.2.2.1, s.2.2.2.2.2.2.2.2.2.2.2.2.2.2.2.2.2))))
noncomputable def g14x2 (s : Int × Int × Int × Int × Int × Int × Int × (List Outward) × (List Taking) × (List Closed) × Int × Int × Int × Int × Int × (List Outward) × (List Taking) × List Closed) : Option ((Int × Int × Int × Int × Int × Int × Int × (List Outward) × (List Taking) × (List Closed) × Int × Int × Int × Int × Int × (List Outward) × (List Taking) × List Closed) ⊕ (Unit ⊕ Bool)) :=
if (decide (s.2.1 < s.1)) then
((idx s.2.2.2.2.2.2.2.2.2.1 s.2.1).bind fun y44 =>
(idx s.2.2.2.2.2.2.2.2.2.2.2.2.2.2.2.2.2 s.2.1).bind fun y45 =>
if (!((y44.1 == y45.1) && ((y44.2.1 == y45.2.1) && ((y44.2.2.1 == y45.2.2.1) && ((y44.2.2.2.1 == y45.2.2.2.1) && ((y44.2.2.2.2 == y45.2.2.2.2) && (true))))))) then
(some (Sum.inr (Sum.inr (false))))
else
(
some (Sum.inl (s.1, (IntKind.i64.wrap (s.2.1 + (1 : Int))), s.2.2.1, s.2.2.2.1, s.2.2.2.2.1, s.2.2.2.2.2.1, s.2.2.2.2.2.2.1, s.2.2.2.2.2.2.2.1, s.2.2.2.2.2.2.2.2.1, s.2.2.2.2.2.2.2.2.2.1, s.2.2.2.2.2.2.2.2.2.2.1, s.2.2.2.2.2.2.2.2.2.2.2.1, s.2.2.2.2.2.2.2.2.2.2.2.2.1, s.2.2.2.2.2.2.2.2.2.2.2.2.2.1, s.2.2.2.2.2.2.2.2.2.2.2.2.2.2.1, s.2.2.2.2.2.2.2.2.2.2.2.2.2.2.2.1, s.2.2.2.2.2.2.2.2.2.2.2.2.2.2.2.2.1, s.2.2.2.2.2.2.2.2.2.2.2.2.2.2.2.2.2))))
else
(some (Sum.inr (Sum.inl ())))
noncomputable def g14 (a0 : Ltp) (a1 : Ltp) : Option Bool :=
if (if (if (if (if (if (a0.1 != a1.1) then true else (!((a0.2.1 == a1.2.1) && ((a0.2.2.1 == a1.2.2.1) && ((a0.2.2.2.1 == a1.2.2.2.1) && (true)))))) then true else (a0.2.2.2.2.1 != a1.2.2.2.2.1)) then true else ((a0.2.2.2.2.2.1.length : Int) != (a1.2.2.2.2.2.1.length : Int))) then true else ((a0.2.2.2.2.2.2.1.length : Int) != (a1.2.2.2.2.2.2.1.length : Int))) then true else ((a0.2.2.2.2.2.2.2.length : Int) != (a1.2.2.2.2.2.2.2.length : Int))) then
(some false)
else
(
(lpU g14x0 ((a0.2.2.2.2.2.1.length : Int), (0 : Int), a0.1, a0.2.1, a0.2.2.1, a0.2.2.2.1, a0.2.2.2.2.1, a0.2.2.2.2.2.1, a0.2.2.2.2.2.2.1, a0.2.2.2.2.2.2.2, a1.1, a1.2.1, a1.2.2.1, a1.2.2.2.1, a1.2.2.2.2.1, a1.2.2.2.2.2.1, a1.2.2.2.2.2.2.1, a1.2.2.2.2.2.2.2)).bind fun z29 =>
match z29 with
| Sum.inl z30 => (let x32 := (z30.2.2.2.2.2.2.1.length : Int)
(lpU g14x1 (x32, (0 : Int), z30.1, z30.2.1, z30.2.2.1, z30.2.2.2.1, z30.2.2.2.2.1, z30.2.2.2.2.2.1, z30.2.2.2.2.2.2.1, z30.2.2.2.2.2.2.2.1, z30.2.2.2.2.2.2.2.2.1, z30.2.2.2.2.2.2.2.2.2.1, z30.2.2.2.2.2.2.2.2.2.2.1, z30.2.2.2.2.2.2.2.2.2.2.2.1, z30.2.2.2.2.2.2.2.2.2.2.2.2.1, z30.2.2.2.2.2.2.2.2.2.2.2.2.2.1, z30.2.2.2.2.2.2.2.2.2.2.2.2.2.2.1, z30.2.2.2.2.2.2.2.2.2.2.2.2.2.2.2)).bind fun z39 =>
match z39 with
| Sum.inl z40 => (let x42 := (z40.2.2.2.2.2.2.2.1.length : Int)
(lpU g14x2 (x42, (0 : Int), z40.1, z40.2.1, z40.2.2.1, z40.2.2.2.1, z40.2.2.2.2.1, z40.2.2.2.2.2.1, z40.2.2.2.2.2.2.1, z40.2.2.2.2.2.2.2.1, z40.2.2.2.2.2.2.2.2.1, z40.2.2.2.2.2.2.2.2.2.1, z40.2.2.2.2.2.2.2.2.2.2.1, z40.2.2.2.2.2.2.2.2.2.2.2.1, z40.2.2.2.2.2.2.2.2.2.2.2.2.1, z40.2.2.2.2.2.2.2.2.2.2.2.2.2.1, z40.2.2.2.2.2.2.2.2.2.2.2.2.2.2.1, z40.2.2.2.2.2.2.2.2.2.2.2.2.2.2.2)).bind fun z48 =>
match z48 with
| Sum.inl z49 => (some true)
| Sum.inr z50 => (some z50))
| Sum.inr z41 => (some z41))
| Sum.inr z31 => (some z31))
noncomputable def tf14 : TF := .par ⟨[.v YLtp, .v YLtp], .b⟩ (fun x => g14 x.1 x.2)
theorem e14 : evFn (tabU [(52, tf52), (53, tf53)]) ⟨F14.res, F14.keep, tf14.sg⟩ T14 = fun x => g14 x.1 x.2 := by kernel_rfl
theorem o14 : TOK (EF pg) 14 tf14 := tok_of p14 rfl (tabU_cons o52 (tabU_cons o53 (tabU_nil))) ⟨rfl, rfl, by decide⟩ rfl (rndOk_of rfl) trivial fun x y h => (congrFun e14 x).trans h
/-- heliograph/heliographlaw16.LtpNew -/
noncomputable def g4 (a0 : Int) (a1 : Int) (a2 : Rules) : Option Bool :=
if (!true) then
(some false)
else
((g17 a0 a1 a2).bind fun y2 =>
(g18 a0 a1 a2).bind fun y3 =>
if (!y3.2) then
(let x5 := y2.2 == (2 : Int)
(if x5 then g14 y2.1 ((0 : Int), (0 : Int), (0 : Int), (0 : Int), (0 : Int), [], [], []) else some false).bind fun y6 =>
some (if x5 then y6 else false))
else
(let x8 := y2.2 == (0 : Int)
(if x8 then g14 y2.1 y3.1 else some false).bind fun y9 =>
let x10 := if x8 then y9 else false
(if x10 then g12 y2.1 else some (0 : Int)).bind fun y11 =>
some (if x10 then (y11 == (0 : Int)) else false)))
noncomputable def tf4 : TF := .par ⟨[.v (.i .i64), .v (.i .u32), .v YRules], .b⟩ (fun x => g4 x.1 x.2.1 x.2.2)
theorem e4 : evFn (tabU [(12, tf12), (14, tf14), (17, tf17), (18, tf18)]) ⟨F4.res, F4.keep, tf4.sg⟩ T4 = fun x => g4 x.1 x.2.1 x.2.2 := by kernel_rfl
theorem o4 : TOK1 (EF pg) (run1 E4 (EF pg)) tf4 := tok_run rfl (tabU_cons o12 (tabU_cons o14 (tabU_cons o17 (tabU_cons o18 (tabU_nil))))) ⟨rfl, rfl, by decide⟩ rfl (rndOk_of rfl) fun x y h => (congrFun e4 x).trans h
theorem v4 (ds : List D) : EF pg 4 ds [] = run1 E4 (EF pg) ds [] := (EF_run1 p4 rfl ds []).trans (wk_run1 (F := F4) (F' := E4) wakes_ok rfl rfl ds)
end Go.Proofs.Ytfopbiiffiickaa.Ev.U
namespace Go.Proofs.Ytfopbiiffiickaa.Ev.U
open Go
theorem same0 (a b c d e : Int) : g14 (a, b, c, d, e, [], [], []) (a, b, c, d, e, [], [], []) = some true := by
  unfold g14
  simp only [bne_self_eq_false, beq_self_eq_true, Bool.and_self, Bool.not_true, Bool.false_eq_true, ↓reduceIte, List.length_nil]
  rw [lpU_eq, g14x0]
  simp only [Int.ofNat_zero, Int.cast_ofNat_Int, Int.lt_irrefl, decide_false, Bool.false_eq_true, ↓reduceIte, Option.bind_some]
  rw [lpU_eq, g14x1]
  simp only [List.length_nil, Int.ofNat_zero, Int.cast_ofNat_Int, Int.lt_irrefl, decide_false, Bool.false_eq_true, ↓reduceIte, Option.bind_some]
  rw [lpU_eq, g14x2]
  simp only [List.length_nil, Int.ofNat_zero, Int.cast_ofNat_Int, Int.lt_irrefl, decide_false, Bool.false_eq_true, ↓reduceIte, Option.bind_some]
theorem w4 (a b : Int) (r : Rules) : g4 a b r = some true := by
  obtain ⟨x, y, z⟩ := r
  have hsh : shlI .u32 b (16 : Int) = IntKind.u32.wrap ((65536 : Int) * b) := by
    unfold shlI
    congr 1
    have : (2 : Int) ^ (min (16 : Int).toNat IntKind.u32.bits) = 65536 := by decide
    rw [this, Int.mul_comm]
  by_cases hr : (1 ≤ a ∧ a ≤ 6) ∧ (1 ≤ b ∧ b ≤ 65535) ∧ (1 ≤ x ∧ x ≤ 4096) ∧ (1 ≤ y ∧ y ≤ 16) ∧ 1 ≤ z ∧ z ≤ 65536
  · obtain ⟨⟨a1, a2⟩, ⟨b1, b2⟩, ⟨x1, x2⟩, ⟨y1, y2⟩, z1, z2⟩ := hr
    have h17 : g17 a b (x, y, z) = some ((a, x, y, z, IntKind.u32.wrap (65536 * b), [], [], []), 0) := by
      unfold g17 h23 h39 h24
      have e1 : ¬ b < 1 := by omega
      have e2 : ¬ b ≥ 65536 := by omega
      simp [a1, a2, e1, e2, x1, x2, y1, y2, z1, z2, hsh]
    have h18 : g18 a b (x, y, z) = some ((a, x, y, z, IntKind.u32.wrap (65536 * b), [], [], []), true) := by
      unfold g18 h28 h29
      have e1 : ¬ b < 1 := by omega
      have e2 : ¬ b > 65535 := by omega
      simp [a1, a2, e1, e2, x1, x2, y1, y2, z1, z2]
    have hw : IntKind.u32.wrap (65536 * b) ≠ 0 := by
      have : IntKind.u32.wrap (65536 * b) = 65536 * b := by
        simp only [IntKind.wrap, IntKind.bits, IntKind.signed, Bool.false_and, Bool.false_eq_true, ↓reduceIte]
        omega
      rw [this]; omega
    unfold g4
    simp only [h17, h18, Option.bind_some, Bool.not_true, Bool.false_eq_true, ↓reduceIte, beq_self_eq_true, same0]
    rw [show g12 (a, x, y, z, IntKind.u32.wrap (65536 * b), [], [], []) = some 0 from if_pos ⟨⟨a1, a2, x1, x2, y1, y2, z1, z2, hw⟩, rfl, rfl, rfl⟩]
    rfl
  · have h17 : g17 a b (x, y, z) = some ((0, 0, 0, 0, 0, [], [], []), 2) := by
      unfold g17 h23 h39 h24
      rw [if_pos]
      simp only [ge_iff_le]
      simp
      omega
    have h18 : g18 a b (x, y, z) = some ((0, 0, 0, 0, 0, [], [], []), false) := by
      unfold g18 h28 h29
      rw [if_pos]
      simp only [ge_iff_le]
      simp
      omega
    unfold g4
    simp only [h17, h18, Option.bind_some, Bool.not_true, Bool.not_false, Bool.false_eq_true, ↓reduceIte, beq_self_eq_true, same0]
end Go.Proofs.Ytfopbiiffiickaa.Ev.U
namespace Go.Proofs.Ytfopbiiffiickaa.Ev
open Go Go.ChangeShapes Go.WideShapes Go.ChangeAt Go.RowKit
theorem own : ownKnob Try.prog.godebug = none := by kernel_rfl
theorem laidOut : laidOutB Try.prog = true := by kernel_rfl
theorem rtb {g : G} {w : World} {x : Value} {b : Bool} (h : RT g w retL x (.v (.bool b))) : x = .bool b := h
def vR : Value := .agg #[.int .i64 0, .int .i64 0, .int .i64 0]
end Go.Proofs.Ytfopbiiffiickaa.Ev
namespace Go.Proofs.Ytfopbiiffiickaa.Ev.U
open Go
theorem ef4 {x0 : (.i .i64 : Ty).T} {x1 : (.i .u32 : Ty).T} {x2 : (YRules : Ty).T} {d0 d1 d2 : D} (r0 : RepL (EF pg) (.i .i64) [] x0 [d0]) (r1 : RepL (EF pg) (.i .u32) [] x1 [d1]) (r2 : RepL (EF pg) (YRules) [] x2 [d2]) : EF pg 4 [d0, d1, d2] [] = some (.v (.bool true), []) := by
  obtain ⟨r, h1, h2⟩ := ef_b1 (show TOK1 (EF pg) (run1 E4 (EF pg)) (.par ⟨[.v (.i .i64), .v (.i .u32), .v (YRules)], .b⟩ (fun x => g4 x.1 x.2.1 x.2.2)) from o4) (by simp) rfl (x := (x0, x1, x2)) (ds := [d0, d1, d2]) rfl ⟨⟨rfl, rfl⟩, _, _, rfl, r0, ⟨⟨rfl, rfl⟩, _, _, rfl, r1, r2⟩⟩ (w4 x0 x1 x2)
  obtain rfl := eq_of_heq h2
  exact (v4 _).trans h1
end Go.Proofs.Ytfopbiiffiickaa.Ev.U
namespace Go.Proofs.Ytfopbiiffiickaa
open Go Go.ChangeShapes Go.WideShapes Go.ChangeAt Go.RowKit Go.Proofs.Ytfopbiiffiickaa.Ev
set_option maxRecDepth 100000 in
theorem lifted4 (os : Os) (started : os.Started) (H : Type) (enc : TypeId × Value → H) :
    ReturnsInHanded {} Try.checked os 4 .any (Rows.ltpNewSpec.pre6 enc Try.prog Try.f4 Rows.ltpNewRow.domain false) (Rows.ltpNewSpec.post enc Try.prog Try.f4 false true false false) := by
  refine returnsInHanded_of_change_sized (C := Try.checked) own started (by kernel_rfl) Try.func4
    (ChangeSpec.witness6 (enc := enc) (C := Try.checked) false ⟨#[], #[.int .i64 0, .int .u32 0, vR], []⟩ 8 (by kernel_rfl) (by kernel_rfl) (by kernel_rfl) (by kernel_rfl)) ?_
  intro W base args ds gs before hval0 hW hcnd hsz0 _
  have hval : ∀ (j : Nat) t v, Try.f4.params[j]? = some t → args[j]? = some v → Value.okWide Try.prog W .any base t v := hval0
  have hW' := hW
  obtain ⟨p, q, hA0, hV, rfl, hfz, hnd⟩ := hW
  have hA : DataW.TrodAll enc Try.prog W 0 (fun _ => true) true Try.f4.params.toList args.toList ds p := hA0
  rw [Try.params4] at hA hval
  obtain ⟨v0, vs0, d0, ds0, p0, q0, hargs, rfl, rfl, h0, r0⟩ := trodAll_cons hA
  obtain ⟨v1, vs1, d1, ds1, p1, q1, rfl, rfl, rfl, h1, r1⟩ := trodAll_cons r0
  obtain ⟨v2, vs2, d2, ds2, p2, q2, rfl, rfl, rfl, h2, r2⟩ := trodAll_cons r1
  obtain ⟨rfl, rfl, rfl⟩ := trodAll_nil r2
  obtain rfl : args = #[v0, v1, v2] := by cases args; simp_all
  obtain ⟨rfl, rfl⟩ := trodVars_none hV
  have lt0 : ∀ x ∈ p0, x.block < W.heap.size := by obtain ⟨m, hm⟩ := h0; exact DataW.trod_lt m _ _ _ hm
  have lt1 : ∀ x ∈ p1, x.block < W.heap.size := by obtain ⟨m, hm⟩ := h1; exact DataW.trod_lt m _ _ _ hm
  have lt2 : ∀ x ∈ p2, x.block < W.heap.size := by obtain ⟨m, hm⟩ := h2; exact DataW.trod_lt m _ _ _ hm
  obtain ⟨c0, g0, k0⟩ := open_arg (k := 8) (fun _ => rfl) (by kernel_rfl) (hval 0 3 v0 rfl rfl) h0
  obtain ⟨c1, g1, k1⟩ := open_arg (k := 8) (fun _ => rfl) (by kernel_rfl) (hval 1 24 v1 rfl rfl) h1
  obtain ⟨c2, g2, k2⟩ := open_arg (k := 8) (fun _ => rfl) (by kernel_rfl) (hval 2 23 v2 rfl rfl) h2
  obtain ⟨x0, e0⟩ := U.arg_u (P := EF U.pg) 8 (.i .i64) (by kernel_rfl) g0
  obtain ⟨x1, e1⟩ := U.arg_u (P := EF U.pg) 8 (.i .u32) (by kernel_rfl) g1
  obtain ⟨x2, e2⟩ := U.arg_u (P := EF U.pg) 8 (U.YRules) (by kernel_rfl) g2
  clear hA0 hval0 hsz0
  refine (run0 U.pg_ok (f := 4) (by decide) (U.ef4 e0 e1 e2) (W := W) (vs := #[v0, v1, v2]) rfl (fun i d hi => ?_)).mono fun e W' ⟨x, g', he, hr, bel⟩ => ?_
  · match i with
    | 0 => simp at hi; subst hi; exact ⟨v0, rfl, k0⟩
    | 1 => simp at hi; subst hi; exact ⟨v1, rfl, k1⟩
    | 2 => simp at hi; subst hi; exact ⟨v2, rfl, k2⟩
    | i + 3 => simp at hi
  · obtain rfl := rtb hr
    subst he
    exact ⟨_, rfl, _, _, _, [], _, [], hW', trodAll_mk1 (shut_bool Try.underlying4 _), trodAll_cons_mk (Below.trod laidOut (by kernel_rfl) (of_decide_eq_true (by kernel_rfl)) h0 bel lt0) (trodAll_cons_mk (Below.trod laidOut (by kernel_rfl) (of_decide_eq_true (by kernel_rfl)) h1 bel lt1) (trodAll_cons_mk (Below.trod laidOut (by kernel_rfl) (of_decide_eq_true (by kernel_rfl)) h2 bel lt2) trodAll_mk0)), rfl, bel.frame _, fun h => by cases h⟩
/-- The law LtpNew holds for every input. -/
theorem ltpNew_holds : Rows.LtpNewSaid :=
  OpenClaim.holds_of_wide 4 Try.f4 rfl rfl rfl rfl rfl rfl rfl ⟨rfl, rfl, rfl, rfl, rfl⟩ rfl rfl rfl rfl rfl (by kernel_rfl) Try.func4 (by kernel_rfl)
    (of_decide_eq_true (by kernel_rfl)) (by unfold Func.isWrapper; first | (rw [if_pos (by decide +kernel)]; kernel_rfl) | (rw [if_neg (by decide +kernel)]; exact ⟨rfl, rfl⟩))
    (fun os started H enc _ => lifted4 os started H enc)
#print axioms ltpNew_holds
end Go.Proofs.Ytfopbiiffiickaa
