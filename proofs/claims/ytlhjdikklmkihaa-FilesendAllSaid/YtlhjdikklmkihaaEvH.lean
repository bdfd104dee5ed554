/- Calls, and the steps of a region. Conditions: none. -/
import Derived.Test.YtlhjdikklmkihaaEvG
import Derived.RangeFuncRecord
set_option linter.all false
namespace Go.Proofs.Ytlhjdikklmkihaa.Ev
open Go
variable {P : Program}

/-- A call's answer, as the machine gives it. -/
def Post (g : G) (w : World) (B B' : List Bx) (r : D) (e : Ending) (w' : World) : Prop :=
  ∃ x g', e = .returned x ∧ Inv g' w' ∧ SB g' w' B' ∧ B'.length = B.length ∧ Ext B.length g w g' w' ∧ RT g' w' retL x r
def foldTmps (ps : Array Tmp) (vs tmps : Array Value) : Array Value := (ps.zip vs).foldl (fun tmps (t, a) => tmps.setIfInBounds t a) tmps
/-- Functions, and rounds of loops over functions. -/
def Good (P : Program) (call : Caller) : Prop := ∀ f ds B r B', call f ds B = some (r, B') →
  (f < RL → ds.all (fun d => !d.tupB) = true ∧ (∃ fn, P.funcs[f]? = some fn ∧ (fn.name == "runtime.NumGoroutine") = false ∧ fn.body.isNone = false) ∧
  ∀ g w (vs : Array Value), Inv g w → SB g w B → vs.size = ds.length → (∀ (i : Nat) d, ds[i]? = some d → ∃ x, vs[i]? = some x ∧ RV g w (slotL B.length i 0) x d) →
    CallsIn (W none) 0 P f vs w (Post g w B B' r)) ∧
  (RL ≤ f → ∀ f' b args, ds = .yld f' b :: args → args.all (fun d => !d.tupB) = true ∧
  ∀ g w l (vs : Array Value), Inv g w → SB g w B → g.bx f' b = some l → RL ≤ b → vs.size = args.length → (∀ (i : Nat) d, args[i]? = some d → ∃ x, vs[i]? = some x ∧ RV g w (slotL B.length i 0) x d) →
    ∃ q : Loop, w.heap[l]? = some (.loop q) ∧ q.params.size = args.length ∧ RoundIn (W none) 0 P l q.fn (foldTmps q.params vs q.tmps) q.assign q.body w (Post g w B B' r))

section
variable {o : Oper} {g : G} {w : World} {n : Nat} {a : Act} {s s' : S} {d : D} {call : Caller} {t : Option Nat}

theorem rdL_fly {xs : List Operand} {ys : List Opd} (hl : xs.length = ys.length) (hm : ∀ (i : Nat) x y, xs[i]? = some x → ys[i]? = some y → MOpd x y) : ∀ {g : G} {s : S} (j : Nat), SN g w n a.tmps s →
    ∃ g', SN g' w n a.tmps (rdL ys s).2 ∧ (rdL ys s).1.length = ys.length ∧ (∀ (i : Nat) d, (rdL ys s).1[i]? = some d → ∃ x, xs[i]? = some x ∧ RT g' w (flyL (j + i)) (a.eval x) d) ∧ Ext s.k g w g' w ∧ (rdL ys s).2.k = s.k ∧ (rdL ys s).2.B = s.B ∧ (rdL ys s).2.o = s.o ∧ (rdL ys s).2.l = s.l ∧
      (∀ j' y d, j' < j → RT g w (flyL j') y d → RT g' w (flyL j') y d) ∧ g'.bx = g.bx := by
  induction ys generalizing xs with
  | nil => intro g s j h; exact ⟨g, h, rfl, fun i d hi => by simp [rdL] at hi, Ext.refl _ _ _, rfl, rfl, rfl, rfl, fun _ _ _ _ h => h, rfl⟩
  | cons y ys ih =>
    intro g s j h
    cases xs with
    | nil => simp at hl
    | cons x xs =>
      obtain ⟨g1, k1, k2, k3, k4, k5, _⟩ := rd_fly h (hm 0 x y rfl rfl) j
      obtain ⟨g2, r1, r2, r3, r4, r5, r6, r6o, r6l, r7, r8⟩ := ih (xs := xs) (by simpa using hl) (fun i x' y' hx hy => hm (i + 1) x' y' (by simpa using hx) (by simpa using hy)) (j + 1) k1
      refine ⟨g2, r1, by simp [rdL, r2], fun i d hi => ?_, k3.trans (by rw [rd_k] at r4; exact r4), r5.trans (rd_k ..), r6.trans (rd_B ..), r6o.trans (rd_o ..), r6l.trans (rd_l ..), fun j' y d hj hy => r7 j' y d (by omega) (k4 j' y d (by omega) hy), r8.trans k5⟩
      cases i with
      | zero =>
        simp only [rdL, List.getElem?_cons_zero] at hi
        injection hi with hi
        subst hi
        exact ⟨x, rfl, r7 j _ _ (by omega) k2⟩
      | succ i =>
        obtain ⟨x', q1, q2⟩ := r3 i d (by simpa [rdL] using hi)
        exact ⟨x', by simpa using q1, by rw [show j + (i + 1) = j + 1 + i by omega]; exact q2⟩

theorem unsnoc_eq {α : Type} {l : List α} {p : List α × α} (h : unsnoc l = some p) : l = p.1 ++ [p.2] := by
  induction l generalizing p with
  | nil => cases h
  | cons x r ih => cases r with
    | nil => simp only [unsnoc] at h; injection h with h; subst h; rfl
    | cons y r =>
      simp only [unsnoc] at h
      obtain ⟨q, h1, h2⟩ := Option.map_eq_some_iff.1 h
      subst h2
      simp [ih h1]
theorem unsnoc_append {α : Type} (l : List α) (x : α) : unsnoc (l ++ [x]) = some (l, x) := by
  induction l with
  | nil => rfl
  | cons y r ih =>
    cases hr : r ++ [x] with
    | nil => simp at hr
    | cons z q => rw [List.cons_append, hr, unsnoc, ← hr, ih]; rfl

theorem SN.boxlt (h : SN g w n a.tmps s) {f b blk : Nat} (hb : g.bx f b = some blk) : f < s.k + 1 := by
  have := h.st.sb.dom f b (by rw [hb]; rfl)
  unfold bxl at this
  cases hq : s.B[f]? with
  | none => rw [hq] at this; cases this
  | some L => have := getq_lt hq; simpa [S.B, S.k] using this

/-- The arguments are laid into the callee's frame. -/
def rhoC (s : S) : Loc → Loc := fun ℓ => if ℓ = flyL ℓ.f 0 ℓ.c then slotL (s.k + 1) ℓ.f 0 ℓ.c else ℓ
theorem rhoC_fix {s : S} {ℓ : Loc} (h : ℓ.k ≠ 3) : rhoC s ℓ = ℓ := if_neg fun e => h (by rw [e]; rfl)
theorem rhoC_fly {s : S} (i c : Nat) : rhoC s (flyL i 0 c) = slotL (s.k + 1) i 0 c := if_pos rfl
theorem oB_len (s : S) : (s.o ++ [s.l]).length = s.k + 1 := by simp [S.k]
theorem post_ok {o1 o2 : List Bx} {l2 : Bx} {d1 : D} {e : Ending} {w' : World} (h : SN g w n a.tmps s) (hun : unsnoc o1 = some (o2, l2)) (hP : Post (g.mv (rhoC s)) w (s.o ++ [s.l]) o1 d1 e w') :
    ∃ x g', e = .returned x ∧ SN g' w' n a.tmps ((s.wo o2).wl l2) ∧ RT g' w' (flyL 0) x d1 ∧ Ext (s.k + 1) g w g' w' ∧ ((s.wo o2).wl l2).k = s.k := by
  obtain ⟨x, g', rfl, q1, q2, q3, q4, q5⟩ := hP
  have hun' := unsnoc_eq hun
  simp only at hun'
  rw [oB_len] at q4
  have hlen2 : o1.length = s.k + 1 := by rw [q3, oB_len]
  have hk : ((s.wo o2).wl l2).k = s.k := by
    rw [hun'] at hlen2
    simp at hlen2
    simp only [S.k] at hlen2 ⊢
    exact hlen2
  have hB : ((s.wo o2).wl l2).B = o1 := hun'.symm
  let σ : Loc → Loc := fun ℓ => if ℓ = retL ℓ.i ℓ.c then flyL 0 ℓ.i ℓ.c else ℓ
  have hσf : ∀ ℓ : Loc, ℓ.k ≠ 2 → σ ℓ = ℓ := fun ℓ hℓ => if_neg fun e => hℓ (by rw [e]; rfl)
  have hE : Ext (s.k + 1) g w (g'.mv σ) w' := ((g.mv_ext w (rhoC s) _ fun ℓ h0 _ => rhoC_fix (by omega)).trans q4).trans (g'.mv_ext w' σ _ fun ℓ h0 _ => hσf _ (by omega))
  refine ⟨x, g'.mv σ, rfl, ⟨⟨q1.mv _, ?_, fun t' => ?_⟩, h.size⟩, ?_, hE, hk⟩
  · rw [hB]; exact q2.mv _ fun f b c => hσf _ (by simp [boxL])
  · rw [hk]
    refine (h.st.e t').keep fun i c => ⟨hE.cell, hE.fr, fun f b blk hb => ?_, fun b hb => hE.tk b _ hb rfl (by simp [slotL])⟩
    rw [hE.bx f b (h.boxlt hb)]; exact hb
  · exact q5.keep fun i c => g'.mv_keep' w' σ (if_pos rfl)
theorem doCall_some {f : Nat} {ds : List D} (he : doCall call f ds s = some (d, s')) : ∃ o1 o2 l2, call f ds (s.o ++ [s.l]) = some (d, o1) ∧ unsnoc o1 = some (o2, l2) ∧ s' = (s.wo o2).wl l2 := by
  unfold doCall at he
  split at he
  · cases he
  · rename_i d1 o1 hcall
    split at he
    · rename_i o2 l2 hun
      injection he with he
      injection he with e1 e2
      subst e1 e2
      exact ⟨o1, o2, l2, hcall, hun, rfl⟩
    · cases he

/-- The call of a function, from a frame: what its answer is put into. -/
theorem call_ok (hg : Good P call) {f : Nat} (hf : f < RL) {vs : Array Value} {ds : List D} (h : SN g w n a.tmps s) (he : doCall call f ds s = some (d, s')) (hv : vs.size = ds.length) (hx : ∀ (i : Nat) d, ds[i]? = some d → ∃ x, vs[i]? = some x ∧ RV g w (flyL i 0) x d) :
    (∃ fn, P.funcs[f]? = some fn ∧ (fn.name == "runtime.NumGoroutine") = false ∧ fn.body.isNone = false) ∧
    CallsIn (W none) 0 P f vs w (fun e w' => ∃ x g', e = .returned x ∧ SN g' w' n a.tmps s' ∧ RT g' w' (flyL 0) x d ∧ Ext (s.k + 1) g w g' w' ∧ s'.k = s.k) := by
  obtain ⟨o1, o2, l2, hcall, hun, rfl⟩ := doCall_some he
  obtain ⟨_, h1, h2⟩ := (hg _ _ _ _ _ hcall).1 hf
  refine ⟨h1, ?_⟩
  have h3 := h2 (g.mv (rhoC s)) w vs (h.st.inv.mv _) (h.st.sb.mv _ fun f b c => rhoC_fix (by simp [boxL])) hv (fun i d hi => by
    obtain ⟨x, h4, h5⟩ := hx i d hi
    rw [oB_len]
    exact ⟨x, h4, h5.keep fun c => g.mv_keep' w _ (rhoC_fly i c)⟩)
  exact h3.mono fun e w' hP => post_ok h hun hP

/-- What is asked of an operation's step. -/
def Does (P : Program) (ro : Option Nat) (o : Oper) (g : G) (w : World) (n : Nat) (a : Act) (s : S) (d : D) (s' : S) : Prop :=
  ∀ (next : Act → World → Prop) (Q : Exit → Act → World → Prop),
    (∀ x w' g', SN g' w' n a.tmps s' → RT g' w' (flyL 0) x d → Ext s.k g w g' w' → s'.k = s.k → next (a.put o.dst x) w') → o.wpIn (W ro) 0 P a w next Q

theorem about_trivial (ro : Option Nat) (f : FuncId) : (W ro).fn f := trivial
theorem Gives.does {ro : Option Nat} (hd : ∀ c, o.op ≠ .defer c) (h : Gives P o g w n a s d s') : Does P ro o g w n a s d s' := by
  intro next Q hn
  obtain ⟨x, w', g', h1, h2, h3, h4, h5⟩ := h
  refine ⟨fun _ _ => trivial, ?_⟩
  rw [Oper.semAt_eq _ _ _ hd, h1]
  exact hn x w' g' h2 h3 h4 h5

theorem does_store {ro : Option Nat} {p x : Operand} {p' x' : Opd} {ty : TypeId} {m : Nat} {i : TypeInfo} (ho : o.op = .store ty p x) (hp : MOpd p p') (hx : MOpd x x') (hi : P.info? ty = some i) (hm : i.size = m) (h : SN g w n a.tmps s) (he : evOp call t (.st m p' x') s = some (d, s')) :
    Does P ro o g w n a s d s' := by
  intro next Q hn
  obtain ⟨w', g', h1, h2, h3, h4, rfl⟩ := store_ok ho hp hx hi hm h he
  refine ⟨fun _ _ => trivial, ?_⟩
  rw [Oper.semAt_eq _ _ _ (fun c => by rw [ho]; exact fun e => by cases e), h1]
  exact hn undef w' g' h2 trivial h3 h4

theorem does_enter {ro : Option Nat} {f : Nat} {vs : Array Value} (hd : ∀ c, o.op ≠ .defer c) (hrun : (execOp a.eval o).run P w = (callFunc f vs).run P w)
    (h1 : ∃ fn, P.funcs[f]? = some fn ∧ (fn.name == "runtime.NumGoroutine") = false ∧ fn.body.isNone = false)
    (h2 : CallsIn (W none) 0 P f vs w (fun e w' => ∃ x g', e = .returned x ∧ SN g' w' n a.tmps s' ∧ RT g' w' (flyL 0) x d ∧ Ext s.k g w g' w' ∧ s'.k = s.k)) : Does P ro o g w n a s d s' := by
  intro next Q hn
  obtain ⟨fn, q1, q2, q3⟩ := h1
  refine ⟨fun _ _ => trivial, ?_⟩
  have hr : (callFunc f vs).run P w = .ok (.enter f vs) w := by
    unfold callFunc
    rw [Sem.run_bind, show (program).run P w = .ok P w from rfl]
    simp only [Result.andThen_ok, q1, q2, q3, Bool.false_eq_true, if_false]
    rfl
  rw [Oper.semAt_eq _ _ _ hd, hrun, hr]
  refine ⟨fun hs => by simp [W, Fence.wide] at hs, ?_⟩
  have h3 : CallsIn (W ro) 0 P f vs w (fun e w' => ∃ x g', e = .returned x ∧ SN g' w' n a.tmps s' ∧ RT g' w' (flyL 0) x d ∧ Ext s.k g w g' w' ∧ s'.k = s.k) := h2
  refine h3.mono ?_
  rintro e w' ⟨x, g', rfl, r1, r2, r3, r4⟩
  exact hn x w' g' r1 r2 r3 r4

theorem doCall_tup (hg : Good P call) {f : Nat} (hf : f < RL) {ds : List D} (he : doCall call f ds s = some (d, s')) : ds.all (fun d => !d.tupB) = true := by
  obtain ⟨o1, o2, l2, hcall, hun, rfl⟩ := doCall_some he
  exact ((hg _ _ _ _ _ hcall).1 hf).1
theorem fly_args {xs : List Operand} {ys : List Opd} (hl : xs.length = ys.length) (hm : ∀ (i : Nat) x y, xs[i]? = some x → ys[i]? = some y → MOpd x y) (h : SN g w n a.tmps s) (ht : (rdL ys s).1.all (fun d => !d.tupB) = true) :
    ∃ g', SN g' w n a.tmps (rdL ys s).2 ∧ (xs.toArray.map a.eval).size = (rdL ys s).1.length ∧ (∀ (i : Nat) d, (rdL ys s).1[i]? = some d → ∃ x, (xs.toArray.map a.eval)[i]? = some x ∧ RV g' w (flyL i 0) x d) ∧ Ext s.k g w g' w ∧ (rdL ys s).2.k = s.k ∧ g'.bx = g.bx := by
  obtain ⟨g', k1, k2, k3, k4, k5, _, _, _, _, k6⟩ := rdL_fly (w := w) (n := n) (a := a) hl hm 0 h
  refine ⟨g', k1, by simp [k2, hl], fun i d hi => ?_, k4, k5, k6⟩
  obtain ⟨x, q1, q2⟩ := k3 i d hi
  have hd : d.tupB = false := by
    have := List.all_eq_true.1 ht d (List.mem_of_getElem? hi)
    simpa using this
  rw [Nat.zero_add, RT_ne hd] at q2
  exact ⟨_, by simp [q1], q2⟩

theorem does_call {ro : Option Nat} (hg : Good P call) {f : Nat} (hf : f < RL) {args : Array Operand} {args' : List Opd} {ts : Array TypeId} (ho : o.op = .call ⟨.value (.func f), args, ts⟩) (hm : MArgs args args') (h : SN g w n a.tmps s) (he : evOp call t (.call f args') s = some (d, s')) : Does P ro o g w n a s d s' := by
  obtain ⟨hl, hm⟩ := hm
  simp only [evOp] at he
  obtain ⟨g1, k1, k2, k3, k4, k5, _⟩ := fly_args hl hm h (doCall_tup hg hf he)
  obtain ⟨h1, h2⟩ := call_ok hg hf k1 he k2 k3
  rw [k5] at h2
  refine does_enter (fun c => by rw [ho]; exact fun e => by cases e) ?_ h1 (h2.mono ?_)
  · simp [execOp, ho, resolve, Act.eval, Deferred.ofValue, invoke]
  · rintro e w' ⟨x, g', rfl, r1, r2, r3, r4⟩
    exact ⟨x, g', rfl, r1, r2, k4.trans (r3.less (by omega)), r4⟩

theorem RP.toRV {L : Nat → Loc} {x : Value} {d : D} (h : RP g w x d) : RV g w L x d := by
  cases d with
  | v y => exact h
  | ptr f s off => exact h
  | fptr cs off => exact h
  | _ => exact h.elim

theorem does_cv {ro : Option Nat} (hg : Good P call) {f : Operand} {f' : Opd} {args : Array Operand} {args' : List Opd} {ts : Array TypeId} (ho : o.op = .call ⟨.value f, args, ts⟩) (hf : MOpd f f') (hm : MArgs args args') (h : SN g w n a.tmps s) (he : evOp call t (.cv f' args') s = some (d, s')) : Does P ro o g w n a s d s' := by
  rcases hm with @⟨xs, ys, hl, hm⟩
  simp only [evOp] at he
  split at he
  · rename_i fn caps hfn
    obtain ⟨L, hL⟩ := rd_at h hf
    rw [hfn] at hL
    obtain ⟨q0, vs, q1, q2, q3⟩ := (show RC g w (L 0 0) (a.eval f) (.clo fn caps) from hL)
    have htup := doCall_tup hg q0 he
    rw [List.all_append, Bool.and_eq_true] at htup
    obtain ⟨g1, k1, k2, k3, k4, k5, k6⟩ := fly_args hl hm h htup.1
    have hvs : ((xs.toArray.map a.eval) ++ vs).size = ((rdL args' s).1 ++ caps).length := by simp at k2 ⊢; omega
    obtain ⟨h1, h2⟩ := call_ok (vs := (xs.toArray.map a.eval) ++ vs) hg q0 k1 he hvs (fun i d hi => by
      rcases Nat.lt_or_ge i (rdL args' s).1.length with hlt | hge
      · rw [List.getElem?_append_left hlt] at hi
        obtain ⟨x, r1, r2⟩ := k3 i d hi
        exact ⟨x, by rw [Array.getElem?_append_left (by rw [k2]; exact hlt)]; exact r1, r2⟩
      · rw [List.getElem?_append_right hge] at hi
        obtain ⟨y, r1, r2⟩ := q3 _ d hi
        refine ⟨y, by rw [Array.getElem?_append_right (by rw [k2]; exact hge), k2]; exact r1, RP.toRV (r2.keep k4.cell k4.fr fun f s b hb => by rw [k6]; exact hb)⟩)
    rw [k5] at h2
    refine does_enter (fun c => by rw [ho]; exact fun e => by cases e) ?_ h1 (h2.mono ?_)
    · simp [execOp, ho, resolve, q1, Deferred.ofValue, invoke]
    · rintro e w' ⟨x, g', rfl, r1, r2, r3, r4⟩
      exact ⟨x, g', rfl, r1, r2, k4.trans (r3.less (by omega)), r4⟩
  · rename_i f0 b hfn
    split at he
    · rename_i st jm rid ks caps hrec
      obtain ⟨L, hL⟩ := rd_at h hf
      rw [hfn] at hL
      obtain ⟨hRL, l, hl1, hl2⟩ := (show RC g w (L 0 0) (a.eval f) (.yld f0 b) from hL)
      obtain ⟨o1, o2, l2, hcall, hun, rfl⟩ := doCall_some he
      have hrid : RL ≤ rid := by
        obtain ⟨l', r', st', j', rid', ks', caps', e1, e2, e3, e4, _⟩ := (h.st.sb.rel f0 b _ (bx_bxl hrec)).r hRL
        injection e3 with e3 _
        injection e3 with _ _ e3 _
        subst e3
        exact e4
      obtain ⟨htup, hround⟩ := (hg _ _ _ _ _ hcall).2 hrid _ _ _ rfl
      obtain ⟨g1, k1, k2, k3, k4, k5, k6⟩ := fly_args hl hm h htup
      obtain ⟨q, hq1, hq2, hq3⟩ := hround (g1.mv (rhoC (rdL args' s).2)) w l (xs.toArray.map a.eval) (k1.st.inv.mv _) (k1.st.sb.mv _ fun f b c => rhoC_fix (by simp [boxL])) (by show g1.bx f0 b = _; rw [k6]; exact hl1) hRL k2 (fun i d hi => by
        obtain ⟨x, h4, h5⟩ := k3 i d hi
        rw [oB_len]
        exact ⟨x, h4, h5.keep fun c => g1.mv_keep' w _ (rhoC_fly i c)⟩)
      intro next Q hn
      refine ⟨fun _ _ => trivial, ?_⟩
      have hrun : (execOp a.eval o).run P w = .ok (.round l q.fn (foldTmps q.params (xs.toArray.map a.eval) q.tmps) q.assign q.body) w := by
        have hsz : (xs.toArray.map a.eval).size = q.params.size := by rw [k2, hq2]
        refine Eq.trans ?_ (run_yield (P := P) hq1 hsz)
        simp [execOp, ho, resolve, hl2, Deferred.ofValue, invoke]
      rw [Oper.semAt_eq _ _ _ (fun c => by rw [ho]; exact fun e => by cases e), hrun]
      refine ⟨fun hs => by simp [W, Fence.wide] at hs, ?_⟩
      have h3 : RoundIn (W ro) 0 P l q.fn (foldTmps q.params (xs.toArray.map a.eval) q.tmps) q.assign q.body w (Post (g1.mv (rhoC (rdL args' s).2)) w ((rdL args' s).2.o ++ [(rdL args' s).2.l]) o1 d) := hq3
      refine h3.mono fun e w' hP => ?_
      obtain ⟨x, g', rfl, r1, r2, r3, r4⟩ := post_ok k1 hun hP
      rw [k5] at r3 r4
      exact hn x w' g' r1 r2 (k4.trans (r3.less (by omega))) r4
    · cases he
  · cases he

end
end Go.Proofs.Ytlhjdikklmkihaa.Ev
