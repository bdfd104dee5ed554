/- Further operations. Conditions: none. -/
import Derived.Test.YtlhjdikklmkihaaEvM
set_option linter.all false
namespace Go.Proofs.Ytlhjdikklmkihaa.Ev
open Go
variable {P : Program}
section
variable {o : Oper} {g : G} {w : World} {n : Nat} {a : Act} {s s' : S} {d : D} {call : Caller} {t : Option Nat}

theorem RF.src0 {ty e : TypeId} (hu : P.underlying ty = some (.slice e)) {w : World} {fr : Nat → Nat} {x : Value} {m : Mode} {z z' : Nat} {ys : List D} (h : RF w fr x (.sl m z' ys)) (hz : z = z' ∨ ys.isEmpty = true) :
    ∃ us, EL (RF w fr) z ys us ∧ Src P z ty x ys.length us w := by
  rcases hz with rfl | hz
  · exact h.src hu
  · obtain rfl : ys = [] := List.isEmpty_iff.1 hz
    obtain ⟨base, cap, vs, rfl, h2, h3, h4⟩ := h.row
    cases base with
    | none => exact ⟨[], EL.nil _ _, Src.ofNil w hu cap⟩
    | some a => exact ⟨[], EL.nil _ _, Src.ofSlice w hu a _ cap [] (by simp) (fun j u hj => by simp at hj) (fun u hu => by simp at hu)⟩

theorem RC.rf {ℓ : Loc} {x : Value} {m : Mode} {z : Nat} {ys : List D} (h : RC g w ℓ x (.sl m z ys)) (h1 : m ≠ .mu) (h2 : m ≠ .app) : RF w g.fr x (.sl m z ys) := by
  cases m with
  | nl => exact h
  | ro => exact h
  | app => exact absurd rfl h2
  | mu => exact absurd rfl h1

theorem gives_ap {wm : Bool} {ty tx e e' : TypeId} {x y : Operand} {x' y' : Opd} {z by_ : Nat} {zv : Value} {i : TypeInfo} (ho : o.op = .call ⟨.builtin .append, #[x, y], #[ty, tx]⟩) (hx : MOpd x x') (hy : MOpd y y') (hu : P.underlying ty = some (.slice e)) (hu' : P.underlying tx = some (.slice e')) (hi : P.info? e = some i) (hz : i.zero = some zv) (hs : i.size = z) (hb : i.bytes = by_) (hzs : zv.cells.size = z) (h0 : 0 < z) (h1 : 1 ≤ by_)
    (h : SN g w n a.tmps s) (he : evOp call t (.ap wm z by_ x' y') s = some (d, s')) : Gives P o g w n a s d s' := by
  obtain ⟨g1, k1, k2, k3, _⟩ := rd_fly h hx 1
  obtain ⟨L, hL⟩ := rd_at h hy
  have main : ∀ (m : Mode) (xs : List D) (m' : Mode) (z' : Nat) (ys : List D), RC g1 w (flyL 1 0 0) (a.eval x) (.sl m z xs) → (m = .app ∨ m = .mu ∨ (m = .nl ∧ xs = [])) → RC g w (L 0 0) (a.eval y) (.sl m' z' ys) → (z = z' ∨ ys.isEmpty = true) → m' ≠ .mu → m' ≠ .app → (xs.length + ys.length) * by_ ≤ 140737488355328 →
      RT g1 w (flyL 0) (a.eval x) (.v (a.eval x)) → ∀ d', (∀ g' W v, RT g' W (flyL 0) v (.sl (if m = .nl then (if ys = [] then .nl else if wm = true then .mu else .app) else m) z (xs ++ ys)) → RT g' W (flyL 0) v d') → Gives P o g w n a s d' (rd x' s).2 := by
    intro m xs m' z' ys hxr hm hyr hzz hm1 hm2 hlen _ d' hd'
    have hrf := (hyr.rf hm1 hm2).mono (w' := w) (fr' := g1.fr) (fun _ _ _ => rfl) k3.fr
    obtain ⟨us, hel, hsrc⟩ := hrf.src0 hu' hzz
    have hn : xs.length + ys.length ≤ maxLen := by
      have : (xs.length + ys.length) * 1 ≤ (xs.length + ys.length) * by_ := Nat.mul_le_mul_left _ h1
      simp only [maxLen]; omega
    obtain ⟨v, W, g', r1, r2, r3, r4⟩ := append_ok (P := P) wm ty tx o.type e i zv hu hi hz hs hb hzs h0 k1 hxr hm hel hsrc hn hlen
    refine ⟨v, W, g', ?_, r2, hd' g' W v r3, k3.trans (by rw [rd_k] at r4; exact r4), rd_k ..⟩
    simp [execOp, ho, resolve, invoke, builtin, r1]
  simp only [evOp] at he
  split at he
  · rename_i z1 xs m' z' ys e1 e2
    rw [e1] at k2
    rw [e2] at hL
    split at he
    · rename_i hc
      obtain ⟨c1, c2, c3, c4⟩ := hc
      injection he with he
      injection he with f1 f2
      subst f2
      have hnl : ∀ v : Value, RF w g1.fr v (.sl .nl z1 xs) → xs = [] ∧ RF w g1.fr v (.sl .nl z []) := fun v hv => by cases hv with | nl => exact ⟨rfl, .nl z⟩
      obtain ⟨hxs, hxr⟩ := hnl _ (show RF w g1.fr (a.eval x) (.sl .nl z1 xs) from k2)
      subst hxs
      refine main .nl [] m' z' ys (show RC g1 w (flyL 1 0 0) (a.eval x) (.sl .nl z []) from hxr) (.inr (.inr ⟨rfl, rfl⟩)) hL c1 c2 c3 (by simpa using c4) rfl d fun g' W v hv => ?_
      rw [← f1]
      by_cases hy0 : ys = []
      · subst hy0
        simp only [List.isEmpty_nil, if_true]
        simp only [if_true, List.append_nil] at hv
        cases (show RF W g'.fr v (.sl .nl z []) from hv) with
        | nl => exact (show RF W g'.fr _ (.sl .nl 0 []) from .nl 0)
      · have : ys.isEmpty = false := by cases ys <;> first | exact absurd rfl hy0 | rfl
        simp only [this, Bool.false_eq_true, if_false]
        simpa [hy0] using hv
    · cases he
  · rename_i z1 xs m' z' ys e1 e2
    rw [e1] at k2
    rw [e2] at hL
    split at he
    · rename_i hc
      obtain ⟨c0, c1, c2, c3, c4⟩ := hc
      subst c0
      injection he with he
      injection he with f1 f2
      subst f2
      refine main .mu xs m' z' ys k2 (.inr (.inl rfl)) hL c1 c2 c3 c4 rfl d fun g' W v hv => ?_
      rw [← f1]
      simpa using hv
    · cases he
  · rename_i z1 xs m' z' ys e1 e2
    rw [e1] at k2
    rw [e2] at hL
    split at he
    · rename_i hc
      obtain ⟨c0, c1, c2, c3, c4⟩ := hc
      subst c0
      injection he with he
      injection he with f1 f2
      subst f2
      refine main .app xs m' z' ys k2 (.inl rfl) hL c1 c2 c3 c4 rfl d fun g' W v hv => ?_
      rw [← f1]
      simpa using hv
    · cases he
  · cases he

theorem equalIn_nil {ty e : TypeId} (hu : P.underlying ty = some (.slice e)) (k : Nat) (b : Option Addr) (l c : Nat) : (Go.Op.equalIn (k + 1) ty (.slice b l c) (.slice none 0 0)).run P w = .ok b.isNone w := by
  cases b <;> simp [Go.Op.equalIn, run_underlying hu]
theorem equalIn_bool {ty : TypeId} (hu : P.underlying ty = some .bool) (k : Nat) (x y : Bool) : (Go.Op.equalIn (k + 1) ty (.bool x) (.bool y)).run P w = .ok (x == y) w := by
  simp [Go.Op.equalIn, run_underlying hu]
theorem bin_slice {ne : Bool} {ty e : TypeId} (hu : P.underlying ty = some (.slice e)) (b : Option Addr) (l c : Nat) : (Go.binOp (if ne then .neq else .eql) ty (.slice b l c) (.slice none 0 0)).run P w = .ok (.bool (b.isNone != ne)) w := by
  have h := equalIn_nil (w := w) hu 9999 b l c
  cases ne with
  | false =>
    show ((do pure (Value.bool (← Go.Op.equalIn (9999 + 1) ty (.slice b l c) (.slice none 0 0))) : Sem Value)).run P w = _
    rw [Sem.run_bind, h]; simp
  | true =>
    show ((do pure (Value.bool !(← Go.Op.equalIn (9999 + 1) ty (.slice b l c) (.slice none 0 0))) : Sem Value)).run P w = _
    rw [Sem.run_bind, h]; simp
theorem bin_bool {ne : Bool} {ty : TypeId} (hu : P.underlying ty = some .bool) (x y : Bool) : (Go.binOp (if ne then .neq else .eql) ty (.bool x) (.bool y)).run P w = .ok (.bool ((x == y) != ne)) w := by
  have h := equalIn_bool (w := w) hu 9999 x y
  cases ne with
  | false =>
    show ((do pure (Value.bool (← Go.Op.equalIn (9999 + 1) ty (.bool x) (.bool y))) : Sem Value)).run P w = _
    rw [Sem.run_bind, h]; simp
  | true =>
    show ((do pure (Value.bool !(← Go.Op.equalIn (9999 + 1) ty (.bool x) (.bool y))) : Sem Value)).run P w = _
    rw [Sem.run_bind, h]; simp
theorem guard_slice {op : BinOp} {ty : TypeId} {x y : Operand} (b b' : Option Addr) (l c l' c' : Nat) : (Go.eqGuard op ty x y (.slice b l c) (.slice b' l' c')).run P w = .ok () w := by
  unfold Go.eqGuard; split <;> rfl
theorem guard_bool {op : BinOp} {ty : TypeId} {x y : Operand} (b b' : Bool) : (Go.eqGuard op ty x y (.bool b) (.bool b')).run P w = .ok () w := by
  unfold Go.eqGuard; split <;> rfl
theorem gives_eqn {ne : Bool} {ty e ty' : TypeId} {x : Operand} {x' : Opd} (ho : o.op = .binOp (if ne then .neq else .eql) ty x (.const (.slice none 0 0)) ty') (hx : MOpd x x') (hu : P.underlying ty = some (.slice e)) (h : SN g w n a.tmps s) (he : evOp call t (.eqn ne x') s = some (d, s')) : Gives P o g w n a s d s' := by
  obtain ⟨L, hL⟩ := rd_at h hx
  have main : ∀ (b : Option Addr) (len cap : Nat) (q : Bool), a.eval x = .slice b len cap → b.isNone = q → d = .v (.bool (q != ne)) → s' = s → Gives P o g w n a s d s' := by
    intro b len cap q hv hb hd hs
    subst hd hs
    refine ⟨.bool (q != ne), w, g, ?_, h, rfl, Ext.refl _ _ _, rfl⟩
    subst hb
    unfold execOp
    simp only [ho, hv, Sem.run_bind, show a.eval (.const (.slice none 0 0)) = .slice none 0 0 from rfl, guard_slice, Result.andThen_ok, bin_slice hu, Sem.run_pure]
  simp only [evOp] at he
  split at he
  · rename_i z xs hxs
    rw [hxs] at hL
    injection he with he
    injection he with e1 e2
    have hnl : ∀ v : Value, RF w g.fr v (.sl .nl z xs) → v = .slice none 0 0 := fun v hv => by cases hv with | nl => rfl
    exact main none 0 0 true (hnl _ hL) rfl (by rw [← e1]; cases ne <;> rfl) e2.symm
  · rename_i m z xs hne hxs
    rw [hxs] at hL
    injection he with he
    injection he with e1 e2
    have hsome : ∃ b len cap, a.eval x = .slice (some b) len cap := by
      cases m with
      | nl => exact (hne rfl).elim
      | ro =>
        have hro : ∀ v : Value, RF w g.fr v (.sl .ro z xs) → ∃ b len cap, v = .slice (some b) len cap := fun v hv => by cases hv with | ro => exact ⟨_, _, _, rfl⟩ | z => exact ⟨_, _, _, rfl⟩
        exact hro _ hL
      | app => obtain ⟨b, off, cap, cur, e, val, h1, _⟩ := (show Own g w _ (a.eval x) .app z xs from hL); exact ⟨_, _, _, h1⟩
      | mu => obtain ⟨b, off, cap, cur, e, val, h1, _⟩ := (show Own g w _ (a.eval x) .mu z xs from hL); exact ⟨_, _, _, h1⟩
    obtain ⟨b, len, cap, hv⟩ := hsome
    exact main (some b) len cap false hv rfl (by rw [← e1]; cases ne <;> rfl) e2.symm
  · rename_i f b off m z hxs
    rw [hxs] at hL
    injection he with he
    injection he with e1 e2
    obtain ⟨_, blk, cap, _, _, hv, _⟩ := (show RC g w (L 0 0) (a.eval x) (.ref f b off m z) from hL)
    exact main (some _) m cap false hv rfl (by rw [← e1]; cases ne <;> rfl) e2.symm
  · cases he

theorem gives_eqs {ne : Bool} {ty ty' : TypeId} {x y : Operand} {x' y' : Opd} (ho : o.op = .binOp (if ne then .neq else .eql) ty x y ty') (hx : MOpd x x') (hy : MOpd y y') (h : SN g w n a.tmps s) (he : evOp call t (.eqs ne x' y') s = some (d, s')) : Gives P o g w n a s d s' := by
  simp only [evOp] at he
  split at he
  · rename_i p q h1 h2
    have hv1 := rd_v h hx h1
    have hv2 := rd_v h hy h2
    injection he with he
    injection he with e1 e2
    subst e1 e2
    refine ⟨_, w, g, ?_, h, rfl, Ext.refl _ _ _, rfl⟩
    cases ne <;> simp [execOp, ho, hv1, hv2, Go.eqGuard, Go.binOp, Go.Op.stringOp]
  · cases he
theorem gives_eqb {ne : Bool} {ty ty' : TypeId} {x y : Operand} {x' y' : Opd} (ho : o.op = .binOp (if ne then .neq else .eql) ty x y ty') (hx : MOpd x x') (hy : MOpd y y') (hu : P.underlying ty = some .bool) (h : SN g w n a.tmps s) (he : evOp call t (.eqb ne x' y') s = some (d, s')) : Gives P o g w n a s d s' := by
  simp only [evOp] at he
  split at he
  · rename_i p q h1 h2
    have hv1 := rd_v h hx h1
    have hv2 := rd_v h hy h2
    injection he with he
    injection he with e1 e2
    subst e1 e2
    refine ⟨_, w, g, ?_, h, rfl, Ext.refl _ _ _, rfl⟩
    unfold execOp
    simp only [ho, hv1, hv2, Sem.run_bind, guard_bool, Result.andThen_ok, bin_bool hu, Sem.run_pure]
  · cases he
theorem gives_sh {op : BinOp} {op' : Bop} {ty ty' : TypeId} {x y : Operand} {x' y' : Opd} (ho : o.op = .binOp op ty x y ty') (hop : MB op op') (hx : MOpd x x') (hy : MOpd y y') (h : SN g w n a.tmps s) (he : evOp call t (.sh op' x' y') s = some (d, s')) : Gives P o g w n a s d s' := by
  simp only [evOp] at he
  split at he
  · rename_i k p k' q h1 h2
    have hv1 := rd_v h hx h1
    have hv2 := rd_v h hy h2
    obtain ⟨v, hb, e⟩ := Option.map_eq_some_iff.1 he
    injection e with e1 e2
    subst e1 e2
    refine ⟨v, w, g, ?_, h, rfl, Ext.refl _ _ _, rfl⟩
    unfold bsh at hb
    by_cases h0 : q < 0
    · rw [if_pos h0] at hb; cases hb
    · rw [if_neg h0] at hb
      cases op' <;> first | (cases hb; done) | (injection hb with hb; subst hb; cases op <;> first | exact hop.elim | simp [execOp, ho, hv1, hv2, Go.eqGuard, Go.binOp, Go.Op.shift, h0])
  · cases he
theorem gives_ci {s1 t1 : TypeId} {k : IntKind} {x : Operand} {x' : Opd} {d1 : TypeDesc} (ho : o.op = .convert s1 t1 x) (hx : MOpd x x') (hs : P.underlying s1 = some d1) (hu : P.underlying t1 = some (.int k)) (h : SN g w n a.tmps s) (he : evOp call t (.ci k x') s = some (d, s')) : Gives P o g w n a s d s' := by
  simp only [evOp] at he
  split at he
  · rename_i k1 p h1
    have hv1 := rd_v h hx h1
    injection he with he
    injection he with e1 e2
    subst e1 e2
    exact ⟨_, w, g, by simp [execOp, ho, hv1, Go.convert, run_underlying hs, run_underlying hu, Go.Conv.intToInt], h, rfl, Ext.refl _ _ _, rfl⟩
  · cases he
theorem gives_nck {x : Operand} {x' : Opd} (ho : o.op = .nilCheck x) (hx : MOpd x x') (h : SN g w n a.tmps s) (he : evOp call t (.nck x') s = some (d, s')) : Gives P o g w n a s d s' := by
  obtain ⟨L, hL⟩ := rd_at h hx
  simp only [evOp] at he
  split at he
  · rename_i f b off h1
    rw [h1] at hL
    injection he with he
    injection he with e1 e2
    subst e1 e2
    obtain ⟨q0, blk, q1, q2⟩ := (show RP g w (a.eval x) (.ptr f b off) from hL)
    exact ⟨_, w, g, by simp [execOp, ho, q2], h, (show RP g w _ (.ptr f b off) from ⟨q0, blk, q1, rfl⟩), Ext.refl _ _ _, rfl⟩
  · rename_i cs off h1
    rw [h1] at hL
    injection he with he
    injection he with e1 e2
    subst e1 e2
    obtain ⟨blk, o1, val, q1, q2, q3⟩ := (show RP g w (a.eval x) (.fptr cs off) from hL)
    exact ⟨.pointer (some ⟨blk, o1 + off, none⟩), w, g, by simp [execOp, ho, q1], h, (show RP g w _ (.fptr cs off) from ⟨blk, o1, val, rfl, q2, q3⟩), Ext.refl _ _ _, rfl⟩
  · cases he

theorem rds_at (h : SN g w n a.tmps s) {xs : List Operand} {ys : List Opd} (hl : xs.length = ys.length) (hm : ∀ (i : Nat) x y, xs[i]? = some x → ys[i]? = some y → MOpd x y) :
    (rds s ys).length = ys.length ∧ ∀ (i : Nat) d, (rds s ys)[i]? = some d → ∃ x L, xs[i]? = some x ∧ RT g w L (a.eval x) d := by
  induction ys generalizing xs with
  | nil => exact ⟨rfl, fun i d hi => by simp [rds] at hi⟩
  | cons y ys ih =>
    cases xs with
    | nil => simp at hl
    | cons x xs =>
      obtain ⟨h1, h2⟩ := ih (xs := xs) (by simpa using hl) fun i x' y' hx hy => hm (i + 1) x' y' (by simpa using hx) (by simpa using hy)
      refine ⟨by simp [rds, h1], fun i d hi => ?_⟩
      cases i with
      | zero =>
        simp only [rds, List.getElem?_cons_zero] at hi
        injection hi with hi
        subst hi
        obtain ⟨L, hL⟩ := rd_at h (hm 0 x y rfl rfl)
        exact ⟨x, L, rfl, hL⟩
      | succ i =>
        obtain ⟨x', L, q1, q2⟩ := h2 i d (by simpa [rds] using hi)
        exact ⟨x', L, by simpa using q1, q2⟩

theorem gives_mf {f : Nat} {caps : Array Operand} {caps' : List Opd} (ho : o.op = .makeFunc (.func f) #[] caps) (hlt : f < RL) (hm : MArgs caps caps') (h : SN g w n a.tmps s) (he : evOp call t (.mf f caps') s = some (d, s')) : Gives P o g w n a s d s' := by
  obtain ⟨hl, hm⟩ := hm
  rename_i xs
  obtain ⟨h1, h2⟩ := rds_at h hl hm
  simp only [evOp] at he
  split at he
  · rename_i hc
    injection he with he
    injection he with e1 e2
    subst e1 e2
    refine ⟨.func (.func f) #[] (xs.toArray.map a.eval), w, g, by simp [execOp, ho, Instr.makeFunc], h, ?_, Ext.refl _ _ _, rfl⟩
    refine (show RC g w (flyL 0 0 0) _ (.clo f (rds s caps')) from ⟨hlt, _, rfl, by simp [h1, hl], fun j d hj => ?_⟩)
    obtain ⟨x, L, q1, q2⟩ := h2 j d hj
    refine ⟨a.eval x, by simp [q1], ?_⟩
    have := List.all_eq_true.1 hc d (List.mem_of_getElem? hj)
    cases d with
    | v y => exact q2
    | ptr f s off => exact q2
    | fptr cs off => exact q2
    | _ => cases this
  · cases he
end
end Go.Proofs.Ytlhjdikklmkihaa.Ev
