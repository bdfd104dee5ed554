/- Structs held against each other. Conditions: none. -/
import Derived.Test.YtlhjdikklmkihaaEvP
import Derived.Laws.StructEq
set_option linter.all false
namespace Go.Proofs.Ytlhjdikklmkihaa.Ev
open Go
variable {P : Program}
section
variable {o : Oper} {g : G} {w : World} {n : Nat} {a : Act} {s s' : S} {d : D} {call : Caller} {t : Option Nat}
theorem gives_un {xr : Bool} {ty : TypeId} {x : Operand} {x' : Opd} (ho : o.op = .unOp (if xr then .xor else .neg) ty x) (hx : MOpd x x') (h : SN g w n a.tmps s) (he : evOp call t (.un xr x') s = some (d, s')) : Gives P o g w n a s d s' := by
  simp only [evOp] at he
  split at he
  · rename_i k i hi
    have hv := rd_v h hx hi
    obtain ⟨v, q1, q2⟩ := Option.map_eq_some_iff.1 he
    injection q2 with e1 e2
    subst e1 e2
    refine ⟨v, w, g, ?_, h, rfl, Ext.refl _ _ _, rfl⟩
    cases xr with
    | true =>
      simp only [if_true, bz] at q1
      injection q1 with q1
      subst q1
      simp [execOp, ho, hv, Go.Op.unary, Go.Op.intBits]
    | false =>
      simp only [Bool.false_eq_true, if_false, bz] at q1
      injection q1 with q1
      subst q1
      simp [execOp, ho, hv, Go.Op.unary, Go.Op.intArith]
  · cases he
theorem part_one {ty : TypeId} {u : TypeDesc} (hu : P.underlying ty = some u) (ha : aggT u = false) {cs : Array Value} {off : Nat} {v : Value} (hc : cs[off]? = some v) : (part ty cs off).run P w = .ok v w := by
  unfold part
  rw [Sem.run_bind, run_isAgg' hu, ha]
  simp [hc]
theorem equalIn_plain {ty : TypeId} {u : TypeDesc} (hu : P.underlying ty = some u) {z x y : Value} (hd : plainT u z = true) {q : Bool} (h : veq z x y = some q) (k : Nat) : (Go.Op.equalIn (k + 1) ty x y).run P w = .ok q w := by
  unfold veq at h
  split at h
  · cases u <;> first | (cases hd; done) | skip
    injection h with h; subst h
    simp [Go.Op.equalIn, run_underlying hu]
  · cases u <;> first | (cases hd; done) | skip
    injection h with h; subst h
    simp [Go.Op.equalIn, run_underlying hu, beq_toListBytes]
  · cases u <;> first | (cases hd; done) | skip
    split at h
    · rename_i hk
      injection h with h; subst h
      simp [Go.Op.equalIn, run_underlying hu, hk.1, hk.2]
    · cases h
  · cases h
theorem plainT_agg {u : TypeDesc} {z : Value} (h : plainT u z = true) : aggT u = false := by
  cases u <;> cases z <;> first | rfl | cases h
theorem eqFields_ok {k : Nat} {xs ys : Array Value} : ∀ {fl : List Field} {z : List Value} {as_ bs : List D} {j : Nat} {q : Bool}, PlainF P j fl z → veqs z as_ bs = some q → (∀ (i : Nat) v, as_[i]? = some (.v v) → xs[j + i]? = some v) → (∀ (i : Nat) v, bs[i]? = some (.v v) → ys[j + i]? = some v) →
    (Op.eqFields (k + 1) xs ys fl).run P w = .ok q w
  | [], _, as_, bs, j, q, .nil, h, _, _ => by
    cases as_ <;> cases bs <;> simp [veqs] at h
    subst h
    simp [Op.eqFields]
  | f :: fl, _, as_, bs, j, q, .cons ho hn hu hd hr, h, hx, hy => by
    unfold veqs at h
    split at h
    · contradiction
    · rename_i z' zs x r y r' e1
      injection e1 with e1 e1'
      subst e1 e1'
      split at h
      · rename_i q1 q2 h1 h2
        injection h with h
        subst h
        have hxx := hx 0 x rfl
        have hyy := hy 0 y rfl
        have hrec := eqFields_ok (xs := xs) (ys := ys) (k := k) hr h2 (fun i v hi => by have := hx (i + 1) v (by simpa using hi); rw [← this]; congr 1; omega) (fun i v hi => by have := hy (i + 1) v (by simpa using hi); rw [← this]; congr 1; omega)
        have hn' : f.name ≠ "_" := by simpa using hn
        subst ho
        have p1 := part_one (w := w) hu (plainT_agg hd) (by simpa using hxx)
        have p2 := part_one (w := w) hu (plainT_agg hd) (by simpa using hyy)
        have p3 := equalIn_plain (w := w) hu hd h1 k
        rw [Op.eqFields]
        simp only [if_pos hn', Sem.run_bind, p1, p2, p3, Result.andThen_ok]
        cases q1
        · simp
        · simpa using hrec
      · cases h
    · cases h
theorem gives_eqa {ne : Bool} {ty ty' : TypeId} {x y : Operand} {x' y' : Opd} {fs : Array Field} {z : List Value} (ho : o.op = .binOp (if ne then .neq else .eql) ty x y ty') (hx : MOpd x x') (hy : MOpd y y') (hu : P.underlying ty = some (.struct fs)) (hp : P.stoodInHeld ty = false) (hqt : P.eqGuardType P.depth ty = false) (hf : PlainF P 0 fs.toList z)
    (h : SN g w n a.tmps s) (he : evOp call t (.eqa ne z x' y') s = some (d, s')) : Gives P o g w n a s d s' := by
  obtain ⟨L, hL⟩ := rd_at h hx
  obtain ⟨L', hL'⟩ := rd_at h hy
  simp only [evOp] at he
  split at he
  · rename_i as_ bs h1 h2
    rw [h1] at hL
    rw [h2] at hL'
    obtain ⟨q, q1, q2⟩ := Option.map_eq_some_iff.1 he
    injection q2 with e1 e2
    subst e1 e2
    obtain ⟨xs, r1, r2, r3⟩ := (show RV g w (L 0) (a.eval x) (.agg as_) from hL)
    obtain ⟨ys, r4, r5, r6⟩ := (show RV g w (L' 0) (a.eval y) (.agg bs) from hL')
    have hfo : P.fieldsOf ty = fs := by simp [Program.fieldsOf, hu]
    have hE : (Go.Op.equalIn (9999 + 1) ty (.agg xs) (.agg ys)).run P w = .ok q w := by
      rw [run_equalIn_struct (P := P) w 9999 ty xs ys (by rw [hfo]; exact hu) hp, hfo]
      refine eqFields_ok (k := 9998) hf q1 (fun i v hi => ?_) (fun i v hi => ?_)
      · obtain ⟨y, k1, k2⟩ := r3 i _ hi
        rw [Nat.zero_add, k1, show y = v from k2]
      · obtain ⟨y, k1, k2⟩ := r6 i _ hi
        rw [Nat.zero_add, k1, show y = v from k2]
    have hG : ∀ op, (Go.eqGuard op ty x y (.agg xs) (.agg ys)).run P w = .ok () w := fun op => by
      unfold Go.eqGuard
      split <;> simp [Sem.run_bind, run_program, hqt]
    refine ⟨.bool (q != ne), w, g, ?_, h, rfl, Ext.refl _ _ _, rfl⟩
    unfold execOp
    have hB : (Go.binOp (if ne then .neq else .eql) ty (.agg xs) (.agg ys)).run P w = .ok (.bool (q != ne)) w := by
      cases ne with
      | false =>
        show ((do pure (Value.bool (← Go.Op.equalIn (9999 + 1) ty (.agg xs) (.agg ys))) : Sem Value)).run P w = _
        rw [Sem.run_bind, hE]; simp
      | true =>
        show ((do pure (Value.bool !(← Go.Op.equalIn (9999 + 1) ty (.agg xs) (.agg ys))) : Sem Value)).run P w = _
        rw [Sem.run_bind, hE]; simp
    simp only [ho, r1, r4, Sem.run_bind, hG, Result.andThen_ok, hB, Sem.run_pure]
  · cases he
end
end Go.Proofs.Ytlhjdikklmkihaa.Ev
