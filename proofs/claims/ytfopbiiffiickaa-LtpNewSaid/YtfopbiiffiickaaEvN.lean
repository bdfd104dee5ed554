/- Further operations. Conditions: none. -/
import Derived.Test.YtfopbiiffiickaaEvG
import Derived.RangeFuncRecord
import Derived.Deep.AppendSrc
import Derived.Laws.MakeOwn
import Derived.Deep.Upon
import Derived.Laws.BytesString
set_option linter.all false
namespace Go.Proofs.Ytfopbiiffiickaa.Ev
open Go
variable {P : Program}

/-- A call's answer, as the machine gives it. -/
def Post (g : G) (w : World) (B B' : List Bx) (r : D) (e : Ending) (w' : World) : Prop :=
  ∃ x g', e = .returned x ∧ Inv g' w' ∧ SB g' w' B' ∧ B'.length = B.length ∧ Ext B.length g w g' w' ∧ RT g' w' retL x r
def foldTmps (ps : Array Tmp) (vs tmps : Array Value) : Array Value := (ps.zip vs).foldl (fun tmps (t, a) => tmps.setIfInBounds t a) tmps
/-- Functions, and rounds of loops over functions. -/
def Good (P : Program) (call : Caller) : Prop := ∀ f ds B r B', call f ds B = some (r, B') →
  (f < RL → ds.all (fun d => !d.tupB) = true ∧ (∃ fn, P.funcs[f]? = some fn ∧ (fn.name == "runtime.NumGoroutine") = false ∧ fn.body.isNone = false) ∧
  ∀ g w (vs : Array Value), Inv g w → SB g w B → vs.size = ds.length → (∀ (i : Nat) d, ds[i]? = some d → ∃ x, vs[i]? = some x ∧ RV g w (slotL B.length i 0) x d) →
    CallsIn (W none) 0 P f vs w (Post g w B B' r)) ∧
  (RL ≤ f → ∀ f' b args, ds = .yld f' b :: args → args.all (fun d => !d.tupB) = true ∧
  ∀ g w l (vs : Array Value), Inv g w → SB g w B → g.bx f' b = some l → RL ≤ b → vs.size = args.length → (∀ (i : Nat) d, args[i]? = some d → ∃ x, vs[i]? = some x ∧ RV g w (slotL B.length i 0) x d) →
    ∃ q : Loop, w.heap[l]? = some (.loop q) ∧ q.params.size = args.length ∧ RoundIn (W none) 0 P l q.fn (foldTmps q.params vs q.tmps) q.assign q.body w (Post g w B B' r))

section
variable {o : Oper} {g : G} {w : World} {n : Nat} {a : Act} {s s' : S} {d : D} {call : Caller} {t : Option Nat}

theorem rdL_fly {xs : List Operand} {ys : List Opd} (hl : xs.length = ys.length) (hm : ∀ (i : Nat) x y, xs[i]? = some x → ys[i]? = some y → MOpd x y) : ∀ {g : G} {s : S} (j : Nat), SN g w n a.tmps s →
    ∃ g', SN g' w n a.tmps (rdL ys s).2 ∧ (rdL ys s).1.length = ys.length ∧ (∀ (i : Nat) d, (rdL ys s).1[i]? = some d → ∃ x, xs[i]? = some x ∧ RT g' w (flyL (j + i)) (a.eval x) d) ∧ Ext s.k g w g' w ∧ (rdL ys s).2.k = s.k ∧ (rdL ys s).2.B = s.B ∧ (rdL ys s).2.o = s.o ∧ (rdL ys s).2.l = s.l ∧
      (∀ j' y d, j' < j → RT g w (flyL j') y d → RT g' w (flyL j') y d) ∧ g'.bx = g.bx := by
  induction ys generalizing xs with
  | nil => intro g s j h; exact ⟨g, h, rfl, fun i d hi => by simp [rdL] at hi, Ext.refl _ _ _, rfl, rfl, rfl, rfl, fun _ _ _ _ h => h, rfl⟩
  | cons y ys ih =>
    intro g s j h
    cases xs with
    | nil => simp at hl
    | cons x xs =>
      obtain ⟨g1, k1, k2, k3, k4, k5, _⟩ := rd_fly h (hm 0 x y rfl rfl) j
      obtain ⟨g2, r1, r2, r3, r4, r5, r6, r6o, r6l, r7, r8⟩ := ih (xs := xs) (by simpa using hl) (fun i x' y' hx hy => hm (i + 1) x' y' (by simpa using hx) (by simpa using hy)) (j + 1) k1
      refine ⟨g2, r1, by simp [rdL, r2], fun i d hi => ?_, k3.trans (by rw [rd_k] at r4; exact r4), r5.trans (rd_k ..), r6.trans (rd_B ..), r6o.trans (rd_o ..), r6l.trans (rd_l ..), fun j' y d hj hy => r7 j' y d (by omega) (k4 j' y d (by omega) hy), r8.trans k5⟩
      cases i with
      | zero =>
        simp only [rdL, List.getElem?_cons_zero] at hi
        injection hi with hi
        subst hi
        exact ⟨x, rfl, r7 j _ _ (by omega) k2⟩
      | succ i =>
        obtain ⟨x', q1, q2⟩ := r3 i d (by simpa [rdL] using hi)
        exact ⟨x', by simpa using q1, by rw [show j + (i + 1) = j + 1 + i by omega]; exact q2⟩

theorem SN.boxlt (h : SN g w n a.tmps s) {f b blk : Nat} (hb : g.bx f b = some blk) : f < s.k + 1 := by
  have := h.st.sb.dom f b (by rw [hb]; rfl)
  unfold bxl at this
  cases hq : s.B[f]? with
  | none => rw [hq] at this; cases this
  | some L => have := getq_lt hq; simpa [S.B, S.k] using this

/-- The arguments are laid into the callee's frame. -/
def rhoC (s : S) : Loc → Loc := fun ℓ => if ℓ = flyL ℓ.f 0 ℓ.c then slotL (s.k + 1) ℓ.f 0 ℓ.c else ℓ
theorem rhoC_fix {s : S} {ℓ : Loc} (h : ℓ.k ≠ 3) : rhoC s ℓ = ℓ := if_neg fun e => h (by rw [e]; rfl)
theorem rhoC_fly {s : S} (i c : Nat) : rhoC s (flyL i 0 c) = slotL (s.k + 1) i 0 c := if_pos rfl
theorem oB_len (s : S) : (s.o ++ [s.l]).length = s.k + 1 := by simp [S.k]
theorem post_ok {o1 o2 : List Bx} {l2 : Bx} {d1 : D} {e : Ending} {w' : World} (h : SN g w n a.tmps s) (hun : unsnoc o1 = some (o2, l2)) (hP : Post (g.mv (rhoC s)) w (s.o ++ [s.l]) o1 d1 e w') :
    ∃ x g', e = .returned x ∧ SN g' w' n a.tmps ((s.wo o2).wl l2) ∧ RT g' w' (flyL 0) x d1 ∧ Ext (s.k + 1) g w g' w' ∧ ((s.wo o2).wl l2).k = s.k := by
  obtain ⟨x, g', rfl, q1, q2, q3, q4, q5⟩ := hP
  have hun' := unsnoc_eq hun
  simp only at hun'
  rw [oB_len] at q4
  have hlen2 : o1.length = s.k + 1 := by rw [q3, oB_len]
  have hk : ((s.wo o2).wl l2).k = s.k := by
    rw [hun'] at hlen2
    simp at hlen2
    simp only [S.k] at hlen2 ⊢
    exact hlen2
  have hB : ((s.wo o2).wl l2).B = o1 := hun'.symm
  let σ : Loc → Loc := fun ℓ => if ℓ = retL ℓ.i ℓ.c then flyL 0 ℓ.i ℓ.c else ℓ
  have hσf : ∀ ℓ : Loc, ℓ.k ≠ 2 → σ ℓ = ℓ := fun ℓ hℓ => if_neg fun e => hℓ (by rw [e]; rfl)
  have hE : Ext (s.k + 1) g w (g'.mv σ) w' := ((g.mv_ext w (rhoC s) _ fun ℓ h0 _ => rhoC_fix (by omega)).trans q4).trans (g'.mv_ext w' σ _ fun ℓ h0 _ => hσf _ (by omega))
  refine ⟨x, g'.mv σ, rfl, ⟨⟨q1.mv _, ?_, fun t' => ?_⟩, h.size⟩, ?_, hE, hk⟩
  · rw [hB]; exact q2.mv _ fun f b c => hσf _ (by simp [boxL])
  · rw [hk]
    refine (h.st.e t').keep fun i c => ⟨hE.cell, hE.fr, fun f b blk hb => ?_, fun b hb => hE.tk b _ hb rfl (by simp [slotL]), hE.sz⟩
    exact hE.bx f b _ (h.boxlt hb) hb
  · exact q5.keep fun i c => g'.mv_keep' w' σ (if_pos rfl)
theorem doCall_some {f : Nat} {ds : List D} (he : doCall call f ds s = some (d, s')) : ∃ o1 o2 l2, call f ds (s.o ++ [s.l]) = some (d, o1) ∧ unsnoc o1 = some (o2, l2) ∧ s' = (s.wo o2).wl l2 := by
  unfold doCall at he
  split at he
  · cases he
  · rename_i d1 o1 hcall
    split at he
    · rename_i o2 l2 hun
      injection he with he
      injection he with e1 e2
      subst e1 e2
      exact ⟨o1, o2, l2, hcall, hun, rfl⟩
    · cases he

/-- The call of a function, from a frame: what its answer is put into. -/
theorem call_ok (hg : Good P call) {f : Nat} (hf : f < RL) {vs : Array Value} {ds : List D} (h : SN g w n a.tmps s) (he : doCall call f ds s = some (d, s')) (hv : vs.size = ds.length) (hx : ∀ (i : Nat) d, ds[i]? = some d → ∃ x, vs[i]? = some x ∧ RV g w (flyL i 0) x d) :
    (∃ fn, P.funcs[f]? = some fn ∧ (fn.name == "runtime.NumGoroutine") = false ∧ fn.body.isNone = false) ∧
    CallsIn (W none) 0 P f vs w (fun e w' => ∃ x g', e = .returned x ∧ SN g' w' n a.tmps s' ∧ RT g' w' (flyL 0) x d ∧ Ext (s.k + 1) g w g' w' ∧ s'.k = s.k) := by
  obtain ⟨o1, o2, l2, hcall, hun, rfl⟩ := doCall_some he
  obtain ⟨_, h1, h2⟩ := (hg _ _ _ _ _ hcall).1 hf
  refine ⟨h1, ?_⟩
  have h3 := h2 (g.mv (rhoC s)) w vs (h.st.inv.mv _) (h.st.sb.mv _ fun f b c => rhoC_fix (by simp [boxL])) hv (fun i d hi => by
    obtain ⟨x, h4, h5⟩ := hx i d hi
    rw [oB_len]
    exact ⟨x, h4, h5.keep fun c => g.mv_keep' w _ (rhoC_fly i c)⟩)
  exact h3.mono fun e w' hP => post_ok h hun hP

/-- What is asked of an operation's step. -/
def Does (P : Program) (ro : Option Nat) (o : Oper) (g : G) (w : World) (n : Nat) (a : Act) (s : S) (d : D) (s' : S) : Prop :=
  ∀ (next : Act → World → Prop) (Q : Exit → Act → World → Prop),
    (∀ x w' g', SN g' w' n a.tmps s' → RT g' w' (flyL 0) x d → Ext s.k g w g' w' → s'.k = s.k → next (a.put o.dst x) w') → o.wpIn (W ro) 0 P a w next Q

theorem about_trivial (ro : Option Nat) (f : FuncId) : (W ro).fn f := trivial
theorem Gives.does {ro : Option Nat} (hd : ∀ c, o.op ≠ .defer c) (h : Gives P o g w n a s d s') : Does P ro o g w n a s d s' := by
  intro next Q hn
  obtain ⟨x, w', g', h1, h2, h3, h4, h5⟩ := h
  refine ⟨fun _ _ => trivial, ?_⟩
  rw [Oper.semAt_eq _ _ _ hd, h1]
  exact hn x w' g' h2 h3 h4 h5

theorem does_store {ro : Option Nat} {p x : Operand} {p' x' : Opd} {ty : TypeId} {m : Nat} {i : TypeInfo} (ho : o.op = .store ty p x) (hp : MOpd p p') (hx : MOpd x x') (hi : P.info? ty = some i) (hm : i.size = m) (h : SN g w n a.tmps s) (he : evOp call t (.st m p' x') s = some (d, s')) :
    Does P ro o g w n a s d s' := by
  intro next Q hn
  obtain ⟨w', g', h1, h2, h3, h4, rfl⟩ := store_ok ho hp hx hi hm h he
  refine ⟨fun _ _ => trivial, ?_⟩
  rw [Oper.semAt_eq _ _ _ (fun c => by rw [ho]; exact fun e => by cases e), h1]
  exact hn undef w' g' h2 trivial h3 h4

theorem does_enter {ro : Option Nat} {f : Nat} {vs : Array Value} (hd : ∀ c, o.op ≠ .defer c) (hrun : (execOp a.eval o).run P w = (callFunc f vs).run P w)
    (h1 : ∃ fn, P.funcs[f]? = some fn ∧ (fn.name == "runtime.NumGoroutine") = false ∧ fn.body.isNone = false)
    (h2 : CallsIn (W none) 0 P f vs w (fun e w' => ∃ x g', e = .returned x ∧ SN g' w' n a.tmps s' ∧ RT g' w' (flyL 0) x d ∧ Ext s.k g w g' w' ∧ s'.k = s.k)) : Does P ro o g w n a s d s' := by
  intro next Q hn
  obtain ⟨fn, q1, q2, q3⟩ := h1
  refine ⟨fun _ _ => trivial, ?_⟩
  have hr : (callFunc f vs).run P w = .ok (.enter f vs) w := by
    unfold callFunc
    rw [Sem.run_bind, show (program).run P w = .ok P w from rfl]
    simp only [Result.andThen_ok, q1, q2, q3, Bool.false_eq_true, if_false]
    rfl
  rw [Oper.semAt_eq _ _ _ hd, hrun, hr]
  refine ⟨fun hs => by simp [W, Fence.wide] at hs, ?_⟩
  have h3 : CallsIn (W ro) 0 P f vs w (fun e w' => ∃ x g', e = .returned x ∧ SN g' w' n a.tmps s' ∧ RT g' w' (flyL 0) x d ∧ Ext s.k g w g' w' ∧ s'.k = s.k) := h2
  refine h3.mono ?_
  rintro e w' ⟨x, g', rfl, r1, r2, r3, r4⟩
  exact hn x w' g' r1 r2 r3 r4

theorem doCall_tup (hg : Good P call) {f : Nat} (hf : f < RL) {ds : List D} (he : doCall call f ds s = some (d, s')) : ds.all (fun d => !d.tupB) = true := by
  obtain ⟨o1, o2, l2, hcall, hun, rfl⟩ := doCall_some he
  exact ((hg _ _ _ _ _ hcall).1 hf).1
theorem fly_args {xs : List Operand} {ys : List Opd} (hl : xs.length = ys.length) (hm : ∀ (i : Nat) x y, xs[i]? = some x → ys[i]? = some y → MOpd x y) (h : SN g w n a.tmps s) (ht : (rdL ys s).1.all (fun d => !d.tupB) = true) :
    ∃ g', SN g' w n a.tmps (rdL ys s).2 ∧ (xs.toArray.map a.eval).size = (rdL ys s).1.length ∧ (∀ (i : Nat) d, (rdL ys s).1[i]? = some d → ∃ x, (xs.toArray.map a.eval)[i]? = some x ∧ RV g' w (flyL i 0) x d) ∧ Ext s.k g w g' w ∧ (rdL ys s).2.k = s.k ∧ g'.bx = g.bx := by
  obtain ⟨g', k1, k2, k3, k4, k5, _, _, _, _, k6⟩ := rdL_fly (w := w) (n := n) (a := a) hl hm 0 h
  refine ⟨g', k1, by simp [k2, hl], fun i d hi => ?_, k4, k5, k6⟩
  obtain ⟨x, q1, q2⟩ := k3 i d hi
  have hd : d.tupB = false := by
    have := List.all_eq_true.1 ht d (List.mem_of_getElem? hi)
    simpa using this
  rw [Nat.zero_add, RT_ne hd] at q2
  exact ⟨_, by simp [q1], q2⟩

theorem does_call {ro : Option Nat} (hg : Good P call) {f : Nat} (hf : f < RL) {args : Array Operand} {args' : List Opd} {ts : Array TypeId} (ho : o.op = .call ⟨.value (.func f), args, ts⟩) (hm : MArgs args args') (h : SN g w n a.tmps s) (he : evOp call t (.call f args') s = some (d, s')) : Does P ro o g w n a s d s' := by
  obtain ⟨hl, hm⟩ := hm
  simp only [evOp] at he
  obtain ⟨g1, k1, k2, k3, k4, k5, _⟩ := fly_args hl hm h (doCall_tup hg hf he)
  obtain ⟨h1, h2⟩ := call_ok hg hf k1 he k2 k3
  rw [k5] at h2
  refine does_enter (fun c => by rw [ho]; exact fun e => by cases e) ?_ h1 (h2.mono ?_)
  · simp [execOp, ho, resolve, Act.eval, Deferred.ofValue, invoke]
  · rintro e w' ⟨x, g', rfl, r1, r2, r3, r4⟩
    exact ⟨x, g', rfl, r1, r2, k4.trans (r3.less (by omega)), r4⟩

theorem RP.toRV {L : Nat → Loc} {x : Value} {d : D} (h : RP g w x d) : RV g w L x d := by
  cases d with
  | v y => exact h
  | ptr f s off => exact h
  | fptr cs off => exact h
  | _ => exact h.elim

theorem does_cv {ro : Option Nat} (hg : Good P call) {f : Operand} {f' : Opd} {args : Array Operand} {args' : List Opd} {ts : Array TypeId} (ho : o.op = .call ⟨.value f, args, ts⟩) (hf : MOpd f f') (hm : MArgs args args') (h : SN g w n a.tmps s) (he : evOp call t (.cv f' args') s = some (d, s')) : Does P ro o g w n a s d s' := by
  rcases hm with @⟨xs, ys, hl, hm⟩
  simp only [evOp] at he
  split at he
  · rename_i fn caps hfn
    obtain ⟨L, hL⟩ := rd_at h hf
    rw [hfn] at hL
    obtain ⟨q0, vs, q1, q2, q3⟩ := (show RC g w (L 0 0) (a.eval f) (.clo fn caps) from hL)
    have htup := doCall_tup hg q0 he
    rw [List.all_append, Bool.and_eq_true] at htup
    obtain ⟨g1, k1, k2, k3, k4, k5, k6⟩ := fly_args hl hm h htup.1
    have hvs : ((xs.toArray.map a.eval) ++ vs).size = ((rdL args' s).1 ++ caps).length := by simp at k2 ⊢; omega
    obtain ⟨h1, h2⟩ := call_ok (vs := (xs.toArray.map a.eval) ++ vs) hg q0 k1 he hvs (fun i d hi => by
      rcases Nat.lt_or_ge i (rdL args' s).1.length with hlt | hge
      · rw [List.getElem?_append_left hlt] at hi
        obtain ⟨x, r1, r2⟩ := k3 i d hi
        exact ⟨x, by rw [Array.getElem?_append_left (by rw [k2]; exact hlt)]; exact r1, r2⟩
      · rw [List.getElem?_append_right hge] at hi
        obtain ⟨y, r1, r2⟩ := q3 _ d hi
        refine ⟨y, by rw [Array.getElem?_append_right (by rw [k2]; exact hge), k2]; exact r1, RP.toRV (r2.keep k4.cell k4.fr fun f s b hb => by rw [k6]; exact hb)⟩)
    rw [k5] at h2
    refine does_enter (fun c => by rw [ho]; exact fun e => by cases e) ?_ h1 (h2.mono ?_)
    · simp [execOp, ho, resolve, q1, Deferred.ofValue, invoke]
    · rintro e w' ⟨x, g', rfl, r1, r2, r3, r4⟩
      exact ⟨x, g', rfl, r1, r2, k4.trans (r3.less (by omega)), r4⟩
  · rename_i f0 b hfn
    split at he
    · rename_i st jm rid ks caps hrec
      obtain ⟨L, hL⟩ := rd_at h hf
      rw [hfn] at hL
      obtain ⟨hRL, l, hl1, hl2⟩ := (show RC g w (L 0 0) (a.eval f) (.yld f0 b) from hL)
      obtain ⟨o1, o2, l2, hcall, hun, rfl⟩ := doCall_some he
      have hrid : RL ≤ rid := by
        obtain ⟨l', r', st', j', rid', ks', caps', e1, e2, e3, e4, _⟩ := (h.st.sb.rel f0 b _ (bx_bxl hrec)).r hRL
        injection e3 with e3 _
        injection e3 with _ _ e3 _
        subst e3
        exact e4
      obtain ⟨htup, hround⟩ := (hg _ _ _ _ _ hcall).2 hrid _ _ _ rfl
      obtain ⟨g1, k1, k2, k3, k4, k5, k6⟩ := fly_args hl hm h htup
      obtain ⟨q, hq1, hq2, hq3⟩ := hround (g1.mv (rhoC (rdL args' s).2)) w l (xs.toArray.map a.eval) (k1.st.inv.mv _) (k1.st.sb.mv _ fun f b c => rhoC_fix (by simp [boxL])) (by show g1.bx f0 b = _; rw [k6]; exact hl1) hRL k2 (fun i d hi => by
        obtain ⟨x, h4, h5⟩ := k3 i d hi
        rw [oB_len]
        exact ⟨x, h4, h5.keep fun c => g1.mv_keep' w _ (rhoC_fly i c)⟩)
      intro next Q hn
      refine ⟨fun _ _ => trivial, ?_⟩
      have hrun : (execOp a.eval o).run P w = .ok (.round l q.fn (foldTmps q.params (xs.toArray.map a.eval) q.tmps) q.assign q.body) w := by
        have hsz : (xs.toArray.map a.eval).size = q.params.size := by rw [k2, hq2]
        refine Eq.trans ?_ (run_yield (P := P) hq1 hsz)
        simp [execOp, ho, resolve, hl2, Deferred.ofValue, invoke]
      rw [Oper.semAt_eq _ _ _ (fun c => by rw [ho]; exact fun e => by cases e), hrun]
      refine ⟨fun hs => by simp [W, Fence.wide] at hs, ?_⟩
      have h3 : RoundIn (W ro) 0 P l q.fn (foldTmps q.params (xs.toArray.map a.eval) q.tmps) q.assign q.body w (Post (g1.mv (rhoC (rdL args' s).2)) w ((rdL args' s).2.o ++ [(rdL args' s).2.l]) o1 d) := hq3
      refine h3.mono fun e w' hP => ?_
      obtain ⟨x, g', rfl, r1, r2, r3, r4⟩ := post_ok k1 hun hP
      rw [k5] at r3 r4
      exact hn x w' g' r1 r2 (k4.trans (r3.less (by omega))) r4
    · cases he
  · cases he

end
end Go.Proofs.Ytfopbiiffiickaa.Ev
namespace Go.Proofs.Ytfopbiiffiickaa.Ev
open Go
variable {P : Program}

/-- A row of values that reads as a list. -/
structure EL (R : Value → D → Prop) (z : Nat) (xs : List D) (vs : List Value) : Prop where
  len : vs.length = xs.length * z
  el : ∀ (i : Nat) d, xs[i]? = some d → d.cells.length = z
  rel : ∀ (i : Nat) d (j : Nat) c, xs[i]? = some d → d.cells[j]? = some c → ∃ v, vs[i * z + j]? = some v ∧ R v c
theorem EL.nil (R : Value → D → Prop) (z : Nat) : EL R z [] [] := ⟨by simp, fun i d h => by simp at h, fun i d j c h => by simp at h⟩
theorem EL.append {R : Value → D → Prop} {z : Nat} {xs ys : List D} {vs us : List Value} (h : EL R z xs vs) (h' : EL R z ys us) : EL R z (xs ++ ys) (vs ++ us) where
  len := by rw [List.length_append, List.length_append, h.len, h'.len, Nat.add_mul]
  el := fun i d hi => by
    rcases Nat.lt_or_ge i xs.length with hl | hl
    · rw [List.getElem?_append_left hl] at hi; exact h.el i d hi
    · rw [List.getElem?_append_right hl] at hi; exact h'.el _ d hi
  rel := fun i d j c hi hj => by
    rcases Nat.lt_or_ge i xs.length with hl | hl
    · rw [List.getElem?_append_left hl] at hi
      obtain ⟨v, h1, h2⟩ := h.rel i d j c hi hj
      exact ⟨v, by rw [List.getElem?_append_left (getq_lt h1)]; exact h1, h2⟩
    · rw [List.getElem?_append_right hl] at hi
      obtain ⟨v, h1, h2⟩ := h'.rel _ d j c hi hj
      have e : i * z + j = vs.length + ((i - xs.length) * z + j) := by
        rw [h.len, ← Nat.add_assoc, ← Nat.add_mul]; congr 2; omega
      exact ⟨v, by rw [e, List.getElem?_append_right (by omega), Nat.add_sub_cancel_left]; exact h1, h2⟩
theorem EL.mono {R R' : Value → D → Prop} {z : Nat} {xs : List D} {vs : List Value} (h : EL R z xs vs) (hr : ∀ v c, R v c → R' v c) : EL R' z xs vs :=
  ⟨h.len, h.el, fun i d j c hi hj => by obtain ⟨v, h1, h2⟩ := h.rel i d j c hi hj; exact ⟨v, h1, hr v c h2⟩⟩
theorem EL.one {R : Value → D → Prop} {d : D} {vs : List Value} (hl : vs.length = d.cells.length) (h : ∀ (j : Nat) c, d.cells[j]? = some c → ∃ v, vs[j]? = some v ∧ R v c) : EL R d.cells.length [d] vs where
  len := by simp [hl]
  el := fun i e hi => by cases i with | zero => simp at hi; rw [hi] | succ i => simp at hi
  rel := fun i e j c hi hj => by
    cases i with
    | zero => simp at hi; subst hi; simpa using h j c hj
    | succ i => simp at hi

theorem rf_one {w : World} {fr : Nat → Nat} {v : Value} {d : D} (h : RF w fr v d) : v.oneCell' = true := by
  cases h with
  | v x h => exact h
  | nl z => rfl
  | ro => rfl
  | z => rfl
/-- The cells of a row, in a row. -/
theorem row_of {w : World} {b off z : Nat} {xs : List D} {R : Value → D → Prop} {val : Nat → Nat → Value} (h4 : ∀ (i : Nat) d, xs[i]? = some d → d.cells.length = z)
    (h5 : ∀ (i : Nat) d (j : Nat) c, xs[i]? = some d → d.cells[j]? = some c → w.cell? ⟨b, off + i * z + j, none⟩ = some (val i j)) (h6 : ∀ (i : Nat) d (j : Nat) c, xs[i]? = some d → d.cells[j]? = some c → R (val i j) c) :
    ∃ vs, EL R z xs vs ∧ ∀ (k : Nat) v, vs[k]? = some v → w.cell? ⟨b, off + k, none⟩ = some v := by
  induction xs generalizing off val with
  | nil => exact ⟨[], EL.nil R z, fun k v h => by simp at h⟩
  | cons x xs ih =>
    obtain ⟨vs, h1, h2⟩ := ih (off := off + z) (val := fun i => val (i + 1)) (fun i d hi => h4 (i + 1) d (by simpa using hi)) (fun i d j c hi hj => by
      have := h5 (i + 1) d j c (by simpa using hi) hj
      rw [← this]; congr 2; rw [Nat.add_mul]; omega) (fun i d j c hi hj => h6 (i + 1) d j c (by simpa using hi) hj)
    have hx := h4 0 x rfl
    have hl : ((List.range z).map fun j => val 0 j).length = x.cells.length := by simp [hx]
    refine ⟨((List.range z).map fun j => val 0 j) ++ vs, ?_, fun k v hk => ?_⟩
    · have h0 : EL R z [x] ((List.range z).map fun j => val 0 j) := by
        have := EL.one (R := R) hl fun j c hj => ⟨val 0 j, by have := getq_lt hj; rw [hx] at this; simp [this], h6 0 x j c rfl hj⟩
        rwa [hx] at this
      exact h0.append h1
    · rcases Nat.lt_or_ge k z with hlt | hge
      · rw [List.getElem?_append_left (by simpa using hlt)] at hk
        simp [hlt] at hk
        subst hk
        have := h5 0 x k _ rfl (List.getElem?_eq_getElem (by rw [hx]; exact hlt))
        simpa using this
      · rw [List.getElem?_append_right (by simpa using hge)] at hk
        have := h2 _ _ hk
        simp only [List.length_map, List.length_range] at this
        rw [← this]; congr 2; omega
/-- And the other way. -/
theorem of_row {w : World} {b off z : Nat} {xs : List D} {R : Value → D → Prop} {vs : List Value} (h : EL R z xs vs) (hc : ∀ (k : Nat) v, vs[k]? = some v → w.cell? ⟨b, off + k, none⟩ = some v) :
    ∃ val : Nat → Nat → Value, (∀ (i : Nat) d (j : Nat) c, xs[i]? = some d → d.cells[j]? = some c → w.cell? ⟨b, off + i * z + j, none⟩ = some (val i j)) ∧ (∀ (i : Nat) d (j : Nat) c, xs[i]? = some d → d.cells[j]? = some c → R (val i j) c) := by
  refine ⟨fun i j => vs.getD (i * z + j) undef, fun i d j c hi hj => ?_, fun i d j c hi hj => ?_⟩
  · obtain ⟨v, h1, h2⟩ := h.rel i d j c hi hj
    have := hc _ _ h1
    rw [show off + i * z + j = off + (i * z + j) by omega, this]
    simp [List.getD, h1]
  · obtain ⟨v, h1, h2⟩ := h.rel i d j c hi hj
    have : vs.getD (i * z + j) undef = v := by simp [List.getD, h1]
    simp only [this]; exact h2
theorem EL.ones {w : World} {fr : Nat → Nat} {z : Nat} {xs : List D} {vs : List Value} (h : EL (RF w fr) z xs vs) : ∀ v ∈ vs, v.oneCell' = true := by
  intro v hv
  obtain ⟨k, hk⟩ := List.mem_iff_getElem?.1 hv
  have hl := getq_lt hk
  rw [h.len] at hl
  have hz : 0 < z := by rcases Nat.eq_zero_or_pos z with h0 | h0; · rw [h0] at hl; simp at hl
                        · exact h0
  have hi : k / z < xs.length := Nat.div_lt_of_lt_mul (by rw [Nat.mul_comm]; exact hl)
  have he := h.el (k / z) _ (List.getElem?_eq_getElem hi)
  obtain ⟨v', h1, h2⟩ := h.rel (k / z) _ (k % z) _ (List.getElem?_eq_getElem hi) (List.getElem?_eq_getElem (by rw [he]; exact Nat.mod_lt _ hz))
  rw [Nat.div_add_mod' k z, hk] at h1
  injection h1 with h1
  rw [h1]; exact rf_one h2

/-- A world with one block more. -/
structure More (w W : World) (ob : Obj) : Prop where
  heap : W.heap = w.heap.push ob
  os : W.os = w.os
  tape : W.tape = w.tape
  output : W.output = w.output
theorem More.old {w W : World} {ob : Obj} (h : More w W ob) {b : Nat} (hb : b < w.heap.size) : W.heap[b]? = w.heap[b]? := by rw [h.heap]; simp [Array.getElem?_push, Nat.ne_of_lt hb]
theorem More.new {w W : World} {ob : Obj} (h : More w W ob) : W.heap[w.heap.size]? = some ob := by rw [h.heap]; simp
theorem More.size {w W : World} {ob : Obj} (h : More w W ob) : W.heap.size = w.heap.size + 1 := by rw [h.heap]; simp

def G.own (g : G) (b ext : Nat) (ℓ : Loc) : G := { g with fr := fun b' => if b' = b then ext else g.fr b', tk := fun b' => if b' = b then some ℓ else g.tk b' }

section
variable {g : G} {w W : World} {n : Nat} {tmps : Array Value} {s : S}

/-- A block more that is a list of one's own. -/
theorem newlist_ok {cur : Array Value} {et : TypeId} (h : SN g w n tmps s) (hm : More w W (.cells cur et)) {z : Nat} {xs : List D} {vs : List Value} {cap : Nat} (hel : EL (RF w g.fr) z xs vs) (hcur : ∀ (k : Nat) v, vs[k]? = some v → cur[k]? = some v)
    (hcap : xs.length ≤ cap) (hmax : cap ≤ maxLen) (hsz : cap * z ≤ cur.size) (m : Mode) (hmode : m = .app ∨ m = .mu) :
    ∃ g', SN g' W n tmps s ∧ RT g' W (flyL 0) (.slice (some ⟨w.heap.size, 0, none⟩) xs.length cap) (.sl m z xs) ∧ Ext s.k g w g' W := by
  have hi := h.st.inv
  let ext := match m with | .app => 0 + xs.length * z | _ => 0
  have hle : ext ≤ xs.length * z := by rcases hmode with rfl | rfl <;> simp [ext]
  have hfresh := hi.fresh w.heap.size (Nat.le_refl _)
  have hle' : xs.length * z ≤ cur.size := Nat.le_trans (Nat.mul_le_mul_right z hcap) hsz
  have ne : ∀ b, b < w.heap.size → b ≠ w.heap.size := fun b hb => Nat.ne_of_lt hb
  have hcell : ∀ b o, o < g.fr b → W.cell? ⟨b, o, none⟩ = w.cell? ⟨b, o, none⟩ := fun b o ho => cell_of_block (hm.old (hi.frlt ho))
  have hfr : ∀ b, g.fr b ≤ (g.own w.heap.size ext (flyL 0 0 0)).fr b := fun b => by
    show _ ≤ (if _ then _ else _)
    split
    · rename_i e; rw [e, hfresh.1]; omega
    · exact Nat.le_refl _
  have hK : ∀ ℓ, Keep g w ℓ (g.own w.heap.size ext (flyL 0 0 0)) W ℓ := fun ℓ => ⟨hcell, hfr, fun _ _ _ h => h, fun b hb => by
    have hb' := hi.lt hb
    refine ⟨?_, ?_, hm.old hb'⟩
    · show (if _ then _ else _) = _; rw [if_neg (ne b hb')]; exact hb
    · show (if _ then _ else _) = _; rw [if_neg (ne b hb')], Gr.old fun b hb => hm.old hb⟩
  have hnew : ∀ k : Nat, W.cell? ⟨w.heap.size, k, none⟩ = cur[k]? := fun k => by simp [World.cell?, hm.new]
  refine ⟨g.own w.heap.size ext (flyL 0 0 0), ⟨⟨⟨?_, ?_, ?_, hi.inj, ?_, ?_, fun b hb => ⟨(hi.dm b hb).1, (hm.old (getq_lt' (hi.dm b hb).2)).trans (hi.dm b hb).2⟩, fun b hb => by show (if _ then _ else _) = _; rw [if_neg (ne b (getq_lt' (hi.dm b hb).2))]; exact hi.dt b hb⟩, ⟨fun f b ds hds => ?_, h.st.sb.dom, h.st.sb.bnd⟩, fun t => ?_⟩, h.size⟩, ?_, ?_⟩
  · exact Nat.le_trans hi.base (by rw [hm.size]; omega)
  · intro b hb
    rw [hm.size] at hb
    have hb' : b ≠ w.heap.size := by omega
    have := hi.fresh b (by omega)
    exact ⟨by show (if _ then _ else _) = _; rw [if_neg hb']; exact this.1, by show (if _ then _ else _) = _; rw [if_neg hb']; exact this.2⟩
  · intro f b' b hb
    obtain ⟨a1, a2, a3, a4⟩ := hi.box f b' b hb
    exact ⟨a1, by rw [hm.size]; omega, by show (if _ then _ else _) = _; rw [if_neg (ne b a2)]; exact a3, by show (if _ then _ else _) = _; rw [if_neg (ne b a2)]; exact a4⟩
  · intro b ℓ hb
    have hb' : (if b = w.heap.size then some (flyL 0 0 0) else g.tk b) = some ℓ := hb
    split at hb'
    · rename_i e; rw [e]; exact hi.base
    · exact hi.tk b ℓ hb'
  · intro b o ho
    have ho' : o < (if b = w.heap.size then ext else g.fr b) := ho
    split at ho'
    · rename_i e
      rw [e, hnew]
      have : o < cur.size := by omega
      simp [this]
    · rw [hcell b o ho']; exact hi.cells b o ho'
  · exact (h.st.sb.rel f b ds hds).keep (fun c => hK _) fun b' hb' => hm.old (hi.box _ _ _ hb').2.1
  · exact (h.st.e t).keep fun i c => hK _
  · obtain ⟨val, h5, h6⟩ := of_row (w := W) (b := w.heap.size) (off := 0) (hel.mono fun v c hv => hv.mono hcell hfr) fun k v hk => by rw [Nat.zero_add, hnew]; exact hcur k v hk
    have own : Own (g.own w.heap.size ext (flyL 0 0 0)) W (flyL 0 0 0) (.slice (some ⟨w.heap.size, 0, none⟩) xs.length cap) m z xs :=
      ⟨w.heap.size, 0, cap, cur, et, val, rfl, hm.new, hcap, hmax, by omega, if_pos rfl, if_pos rfl, (fun _ => rfl), hel.el, h5, h6⟩
    rcases hmode with rfl | rfl <;> exact own
  · exact ⟨rfl, hm.os, hm.tape, hm.output, by rw [hm.size]; omega, fun b hb => hm.old (Nat.lt_of_lt_of_le hb hi.base), hfr, hcell, fun _ _ _ _ h => h, fun b ℓ hb _ _ => (hK ℓ).tk b hb, fun _ h => h, (hK (flyL 0 0 0)).sz⟩
end
end Go.Proofs.Ytfopbiiffiickaa.Ev
namespace Go.Proofs.Ytfopbiiffiickaa.Ev
open Go
variable {P : Program}
section
variable {g : G} {w : World} {n : Nat} {tmps : Array Value} {s : S}
/-- One list that flies. -/
theorem dwn_one (h : SN g w n tmps s) {vs : Array Value} {ds : List D} (hF : ∀ (c : Nat) d, ds[c]? = some d → ∃ y, vs[c]? = some y ∧ RC g w (flyL 0 0 c) y d) (k : Nat) (d : D) (hk : ds[k]? = some d) :
    ∃ g', SN g' w n tmps s ∧ (∀ (c : Nat) e, (ds.set k d.dwn1)[c]? = some e → ∃ y, vs[c]? = some y ∧ RC g' w (flyL 0 0 c) y e) ∧ Ext s.k g w g' w := by
  have same : d.dwn1 = d → ∃ g', SN g' w n tmps s ∧ (∀ (c : Nat) e, (ds.set k d.dwn1)[c]? = some e → ∃ y, vs[c]? = some y ∧ RC g' w (flyL 0 0 c) y e) ∧ Ext s.k g w g' w := fun e => by
    refine ⟨g, h, fun c e' hc => hF c e' ?_, Ext.refl _ _ _⟩
    rw [e, List.getElem?_set] at hc
    split at hc
    · rename_i q
      subst q
      have := getq_lt hk
      rw [if_pos this] at hc
      injection hc with hc
      rw [← hc]; exact hk
    · exact hc
  cases d with
  | sl m z xs =>
    cases m with
    | mu =>
      obtain ⟨y, hy1, hy2⟩ := hF k _ hk
      obtain ⟨B, off, cap, cur, e, val, rfl, q2, q3, q4, q5, q6, q7, q7', q8, q9, q10⟩ := (show Own g w (flyL 0 0 k) y .mu z xs from hy2)
      obtain rfl := q7' rfl
      have hi := h.st.inv
      have hfr : ∀ b', g.fr b' ≤ (g.own B (0 + xs.length * z) (flyL 0 0 k)).fr b' := fun b' => by
        show _ ≤ (if _ then _ else _)
        split
        · rename_i e; rw [e, q7]; exact Nat.zero_le _
        · exact Nat.le_refl _
      have htk : ∀ b', (g.own B (0 + xs.length * z) (flyL 0 0 k)).tk b' = g.tk b' := fun b' => by
        show (if _ then _ else _) = _
        split
        · rename_i e; rw [e, q6]
        · rfl
      have hK : ∀ ℓ, ℓ ≠ flyL 0 0 k → Keep g w ℓ (g.own B (0 + xs.length * z) (flyL 0 0 k)) w ℓ := fun ℓ hℓ => ⟨fun _ _ _ => rfl, hfr, fun _ _ _ h => h, fun b' hb' => by
        have e : b' ≠ B := fun e => by rw [e, q6] at hb'; injection hb' with hb'; exact hℓ hb'.symm
        exact ⟨by rw [htk]; exact hb', by show (if _ then _ else _) = _; rw [if_neg e], rfl⟩, Gr.refl _⟩
      have hsz : xs.length * z ≤ cur.size := Nat.le_trans (Nat.mul_le_mul_right z q3) (by omega)
      refine ⟨g.own B (0 + xs.length * z) (flyL 0 0 k), ⟨⟨⟨hi.base, fun b' hb' => ?_, fun f s1 b' hb' => ?_, hi.inj, fun b' ℓ hb' => hi.tk b' ℓ (by rw [← htk]; exact hb'), fun b' o ho => ?_, hi.dm, fun b' hb' => by rw [htk]; exact hi.dt b' hb'⟩, ⟨fun f b' ds' hds => ?_, h.st.sb.dom, h.st.sb.bnd⟩, fun t => ?_⟩, h.size⟩, fun c e' hc => ?_, ⟨rfl, rfl, rfl, rfl, Nat.le_refl _, fun _ _ => rfl, hfr, fun _ _ _ => rfl, fun _ _ _ _ h => h, fun b' ℓ hb' h0 hk => (hK ℓ fun e => by rw [e] at h0; cases h0).tk b' hb', fun _ h => h, Gr.refl _⟩⟩
      · have := hi.fresh b' hb'
        refine ⟨?_, by rw [htk]; exact this.2⟩
        show (if _ then _ else _) = _
        rw [if_neg fun e => by have := getq_lt' q2; omega]; exact this.1
      · obtain ⟨a1, a2, a3, a4⟩ := hi.box f s1 b' hb'
        refine ⟨a1, a2, ?_, by rw [htk]; exact a4⟩
        show (if _ then _ else _) = _
        rw [if_neg fun e => by rw [e, q6] at a4; cases a4]; exact a3
      · have ho' : o < (if b' = B then 0 + xs.length * z else g.fr b') := ho
        split at ho'
        · rename_i e
          subst e
          have : o < cur.size := by omega
          simp [World.cell?, q2, this]
        · exact hi.cells b' o ho'
      · exact (h.st.sb.rel f b' ds' hds).keep (fun c' => hK _ box_fly) fun _ _ => rfl
      · exact (h.st.e t).keep fun i c' => hK _ slot_fly
      · rw [List.getElem?_set] at hc
        split at hc
        · rename_i q
          subst q
          have := getq_lt hk
          rw [if_pos this] at hc
          injection hc with hc
          subst hc
          exact ⟨_, hy1, (show Own _ w _ _ .app z xs from ⟨B, 0, cap, cur, e, val, rfl, q2, q3, q4, q5, if_pos rfl, if_pos rfl, (fun h => by cases h), q8, q9, fun i d j c hi hj => (q10 i d j c hi hj).mono (fun _ _ _ => rfl) hfr⟩)⟩
        · rename_i q
          obtain ⟨y', r1, r2⟩ := hF c e' hc
          exact ⟨y', r1, r2.keep (hK _ fun e => by simp [flyL] at e; exact q e.symm)⟩
    | _ => exact same rfl
  | _ => exact same rfl
theorem dwn_all : ∀ (m : Nat) {g : G} {vs : Array Value} {ds : List D}, SN g w n tmps s → m ≤ ds.length → (∀ (c : Nat) d, ds[c]? = some d → ∃ y, vs[c]? = some y ∧ RC g w (flyL 0 0 c) y d) →
    ∃ g', SN g' w n tmps s ∧ (∀ (c : Nat) e, ((ds.take m).map D.dwn1 ++ ds.drop m)[c]? = some e → ∃ y, vs[c]? = some y ∧ RC g' w (flyL 0 0 c) y e) ∧ Ext s.k g w g' w
  | 0, g, vs, ds, h, _, hF => ⟨g, h, by simpa using hF, Ext.refl _ _ _⟩
  | m + 1, g, vs, ds, h, hm, hF => by
    obtain ⟨g1, k1, k2, k3⟩ := dwn_all m h (by omega) hF
    have hget : ((ds.take m).map D.dwn1 ++ ds.drop m)[m]? = some ds[m] := by
      rw [List.getElem?_append_right (by simp; omega), List.getElem?_drop]
      have : m + (m - ((ds.take m).map D.dwn1).length) = m := by simp; omega
      rw [this, List.getElem?_eq_getElem (by omega)]
    obtain ⟨g2, j1, j2, j3⟩ := dwn_one k1 k2 m ds[m] hget
    refine ⟨g2, j1, ?_, k3.trans j3⟩
    have e : ((ds.take m).map D.dwn1 ++ ds.drop m).set m ds[m].dwn1 = (ds.take (m + 1)).map D.dwn1 ++ ds.drop (m + 1) := by
      have hl : ((ds.take m).map D.dwn1).length = m := by simp; omega
      rw [List.set_append_right _ _ (by omega), hl, Nat.sub_self, List.drop_eq_getElem_cons (by omega), List.set_cons_zero, List.take_succ_eq_append_getElem (by omega), List.map_append]
      simp
    rwa [e] at j2
end
section
variable {o : Oper} {g : G} {w : World} {n : Nat} {a : Act} {s s' : S} {d : D} {call : Caller} {t : Option Nat}
theorem does_calf {ro : Option Nat} (hg : Good P call) {f : Nat} (hf : f < RL) {args : Array Operand} {args' : List Opd} {ts : Array TypeId} (ho : o.op = .call ⟨.value (.func f), args, ts⟩) (hm : MArgs args args') (h : SN g w n a.tmps s) (he : evOp call t (.calf f args') s = some (d, s')) : Does P ro o g w n a s d s' := by
  simp only [evOp] at he
  split at he
  · rename_i d1 s1 hq
    injection he with he
    injection he with e1 e2
    subst e1 e2
    have hc := does_call (t := t) (ro := ro) hg hf ho hm h hq
    rcases agg_or d1 with ⟨cs, rfl⟩ | ha
    · intro next Q hn
      refine hc next Q fun x w' g' r1 r2 r3 r4 => ?_
      obtain ⟨vs, q1, q2, q3⟩ := (show RV g' w' (flyL 0 0) x (.agg cs) from r2)
      obtain ⟨g2, k1, k2, k3⟩ := dwn_all cs.length r1 (Nat.le_refl _) q3
      rw [List.take_length, List.drop_length, List.append_nil] at k2
      exact hn x w' g2 k1 (show RV g2 w' (flyL 0 0) x (.agg (cs.map D.dwn1)) from ⟨vs, q1, by simpa using q2, k2⟩) (r3.trans (by rw [r4] at k3; exact k3)) r4
    · rcases tup_or d1 with ⟨ds, rfl⟩ | ht
      · exact hc
      · have e : dwnA d1 = d1.dwn1 := by cases d1 <;> first | rfl | cases ha
        rw [e]
        intro next Q hn
        refine hc next Q fun x w' g' r1 r2 r3 r4 => ?_
        rw [RT_ne ht, RV_ne ha] at r2
        obtain ⟨g2, k1, k2, k3⟩ := dwn_all (vs := #[x]) (ds := [d1]) 1 r1 (by simp) (fun c d hc => by
          cases c with
          | zero => simp at hc; subst hc; exact ⟨x, rfl, r2⟩
          | succ c => simp at hc)
        obtain ⟨y, y1, y2⟩ := k2 0 d1.dwn1 rfl
        simp at y1
        subst y1
        have ha' : d1.dwn1.aggB = false := by
          cases d1 with
          | sl m z xs => cases m <;> rfl
          | agg => cases ha
          | _ => rfl
        have ht' : d1.dwn1.tupB = false := by
          cases d1 with
          | sl m z xs => cases m <;> rfl
          | tup => cases ht
          | _ => rfl
        exact hn x w' g2 k1 (by rw [RT_ne ht', RV_ne ha']; exact y2) (r3.trans (by rw [r4] at k3; exact k3)) r4
  · cases he
end
end Go.Proofs.Ytfopbiiffiickaa.Ev
namespace Go.Proofs.Ytfopbiiffiickaa.Ev
open Go
variable {P : Program}

section
variable {g : G} {w W : World} {n : Nat} {tmps : Array Value} {s : S}

/-- A list's cells, in a row. -/
theorem RF.row {w : World} {fr : Nat → Nat} {x : Value} {m : Mode} {z : Nat} {xs : List D} (h : RF w fr x (.sl m z xs)) :
    ∃ base cap vs, x = .slice base xs.length cap ∧ EL (RF w fr) z xs vs ∧ (base = none → xs = []) ∧ ∀ a, base = some a → True ∧ ∀ (k : Nat) v, vs[k]? = some v → w.cell? (a.add k) = some v := by
  cases h with
  | nl z => exact ⟨none, 0, [], rfl, EL.nil _ _, (fun _ => rfl), (fun a h => by cases h)⟩
  | z a z => exact ⟨some a, 0, [], rfl, EL.nil _ _, (fun h => by cases h), fun a h => ⟨trivial, fun k v hk => by simp at hk⟩⟩
  | ro b off cap z xs val h1 h2 h3 h4 h5 h6 =>
    obtain ⟨vs, q1, q2⟩ := row_of h4 h5 h6
    refine ⟨_, cap, vs, rfl, q1, (fun h => by cases h), fun a ha => ?_⟩
    injection ha with ha
    subst ha
    exact ⟨trivial, fun k v hk => by rw [add_lit]; exact q2 k v hk⟩
theorem RF.src {ty e : TypeId} (hu : P.underlying ty = some (.slice e)) {w : World} {fr : Nat → Nat} {x : Value} {m : Mode} {z : Nat} {ys : List D} (h : RF w fr x (.sl m z ys)) :
    ∃ us, EL (RF w fr) z ys us ∧ Src P z ty x ys.length us w := by
  obtain ⟨base, cap, vs, rfl, h2, h3, h4⟩ := h.row
  cases base with
  | none =>
    obtain rfl := h3 rfl
    have : vs = [] := List.eq_nil_of_length_eq_zero (by rw [h2.len]; simp)
    subst this
    exact ⟨[], EL.nil _ _, Src.ofNil w hu cap⟩
  | some a => exact ⟨vs, h2, Src.ofSlice w hu a _ cap vs h2.len (h4 a rfl).2 h2.ones⟩

/-- A list of one's own, grown in its place. -/
theorem grow_ok (m : Mode) (hmode : m = .app ∨ m = .mu) {b off cap : Nat} {cur nc : Array Value} {et : TypeId} {z : Nat} {xs ys : List D} {vs us : List Value} (h : SN g w n tmps s) (hb : w.heap[b]? = some (.cells cur et (0, 0))) (htk : g.tk b = some (flyL 1 0 0)) (hmu : m = .mu → off = 0) (hfrb0 : g.fr b = (match (generalizing := false) m with | .app => off + xs.length * z | _ => 0))
    (hel : EL (RF w g.fr) z xs vs) (hel' : EL (RF w g.fr) z ys us) (hcur : ∀ (k : Nat) v, vs[k]? = some v → cur[off + k]? = some v) (hcap : xs.length + ys.length ≤ cap) (hmax : cap ≤ maxLen) (hsz : off + cap * z ≤ cur.size)
    (hnc : nc.size = cur.size) (hold : ∀ k, k < off + xs.length * z → nc[k]? = cur[k]?) (hnew : ∀ (k : Nat) v, us[k]? = some v → nc[off + xs.length * z + k]? = some v) :
    ∃ g', SN g' (w.setRow b nc) n tmps s ∧ RT g' (w.setRow b nc) (flyL 0) (.slice (some ⟨b, off, none⟩) (xs ++ ys).length cap) (.sl m z (xs ++ ys)) ∧ Ext s.k g w g' (w.setRow b nc) := by
  have hi := h.st.inv
  have hfrb : g.fr b ≤ off + xs.length * z := by rcases hmode with rfl | rfl <;> simp only at hfrb0 <;> omega
  have hblt := hi.lt htk
  have hbase := hi.tk b _ htk
  have hlen : (xs ++ ys).length = xs.length + ys.length := List.length_append
  let ext := match (generalizing := false) m with | .app => off + (xs ++ ys).length * z | _ => 0
  have hext : g.fr b ≤ ext := by rcases hmode with rfl | rfl <;> simp only [ext, hlen, Nat.add_mul] at hfrb0 ⊢ <;> omega
  have hfit : ext ≤ cur.size := by
    have : (xs ++ ys).length * z ≤ cap * z := Nat.mul_le_mul_right z (by omega)
    rcases hmode with rfl | rfl <;> simp only [ext] <;> omega
  have hself : (w.setRow b nc).heap[b]? = some (.cells nc et (0, 0)) := setRow_heap w b cur nc et _ hb
  have hother : ∀ b', b' ≠ b → (w.setRow b nc).heap[b']? = w.heap[b']? := fun b' hb' => setRow_other w b b' nc hb'
  have hcell : ∀ b' o, o < g.fr b' → (w.setRow b nc).cell? ⟨b', o, none⟩ = w.cell? ⟨b', o, none⟩ := fun b' o ho => by
    by_cases e : b' = b
    · subst e
      simp [World.cell?, hself, hb, hold o (Nat.lt_of_lt_of_le ho hfrb)]
    · exact cell_of_block (hother b' e)
  have hfr : ∀ b', g.fr b' ≤ (g.own b ext (flyL 0 0 0)).fr b' := fun b' => by
    show _ ≤ (if _ then _ else _)
    split
    · rename_i e; rw [e]; exact hext
    · exact Nat.le_refl _
  have hK : ∀ ℓ, ℓ ≠ flyL 1 0 0 → Keep g w ℓ (g.own b ext (flyL 0 0 0)) (w.setRow b nc) ℓ := fun ℓ hℓ => ⟨hcell, hfr, fun _ _ _ h => h, fun b' hb' => by
    have e : b' ≠ b := fun e => by rw [e, htk] at hb'; injection hb' with hb'; exact hℓ hb'.symm
    exact ⟨by show (if _ then _ else _) = _; rw [if_neg e]; exact hb', by show (if _ then _ else _) = _; rw [if_neg e], hother b' e⟩, gr_setRow hb (by omega)⟩
  have hsize : (w.setRow b nc).heap.size = w.heap.size := by simp [World.setRow]
  have nbox : ∀ f b' b1, g.bx f b' = some b1 → b1 ≠ b := fun f b' b1 h1 e => by have := (hi.box _ _ _ h1).2.2.2; rw [e, htk] at this; cases this
  refine ⟨g.own b ext (flyL 0 0 0), ⟨⟨⟨?_, ?_, ?_, hi.inj, ?_, ?_, fun b' hd => ⟨(hi.dm b' hd).1, (hother b' fun e => by have hd' : g.dm b' = true := hd; have := hi.mkc hb; rw [← e, hd'] at this; cases this).trans (hi.dm b' hd).2⟩, fun b' hd => by
    have hd' : g.dm b' = true := hd
    have e : b' ≠ b := fun e => by have := hi.mkc hb; rw [← e, hd'] at this; cases this
    show (if _ then _ else _) = _; rw [if_neg e]; exact hi.dt b' hd'⟩, ⟨fun f b' ds hds => ?_, h.st.sb.dom, h.st.sb.bnd⟩, fun t => ?_⟩, h.size⟩, ?_, ?_⟩
  · rw [hsize]; exact hi.base
  · intro b' hb'
    rw [hsize] at hb'
    have e : b' ≠ b := by omega
    have := hi.fresh b' hb'
    exact ⟨by show (if _ then _ else _) = _; rw [if_neg e]; exact this.1, by show (if _ then _ else _) = _; rw [if_neg e]; exact this.2⟩
  · intro f b' b1 h1
    obtain ⟨a1, a2, a3, a4⟩ := hi.box f b' b1 h1
    have e := nbox _ _ _ h1
    exact ⟨a1, by rw [hsize]; exact a2, by show (if _ then _ else _) = _; rw [if_neg e]; exact a3, by show (if _ then _ else _) = _; rw [if_neg e]; exact a4⟩
  · intro b' ℓ hb'
    have hb'' : (if b' = b then some (flyL 0 0 0) else g.tk b') = some ℓ := hb'
    split at hb''
    · rename_i e; rw [e]; exact hbase
    · exact hi.tk b' ℓ hb''
  · intro b' o ho
    have ho' : o < (if b' = b then ext else g.fr b') := ho
    split at ho'
    · rename_i e
      subst e
      have : o < nc.size := by omega
      simp [World.cell?, hself, this]
    · rename_i e
      rw [cell_of_block (hother b' e)]; exact hi.cells b' o ho'
  · exact (h.st.sb.rel f b' ds hds).keep (fun c => hK _ box_fly) fun b1 h1 => hother b1 (nbox _ _ _ h1)
  · exact (h.st.e t).keep fun i c => hK _ slot_fly
  · have hall : EL (RF (w.setRow b nc) (g.own b ext (flyL 0 0 0)).fr) z (xs ++ ys) (vs ++ us) := (hel.append hel').mono fun v c hv => hv.mono hcell hfr
    obtain ⟨val, h5, h6⟩ := of_row (w := w.setRow b nc) (b := b) (off := off) hall fun k v hk => by
      have : (w.setRow b nc).cell? ⟨b, off + k, none⟩ = nc[off + k]? := by simp [World.cell?, hself]
      rw [this]
      rcases Nat.lt_or_ge k vs.length with hl | hl
      · rw [List.getElem?_append_left hl] at hk
        rw [hold _ (by rw [hel.len] at hl; omega)]
        exact hcur k v hk
      · rw [List.getElem?_append_right hl] at hk
        have := hnew _ v hk
        rw [hel.len] at this hl
        rw [← this]; congr 1; omega
    have own : Own (g.own b ext (flyL 0 0 0)) (w.setRow b nc) (flyL 0 0 0) (.slice (some ⟨b, off, none⟩) (xs ++ ys).length cap) m z (xs ++ ys) := ⟨b, off, cap, nc, et, val, rfl, hself, by omega, hmax, by omega, if_pos rfl, if_pos rfl, hmu, hall.el, h5, h6⟩
    rcases hmode with rfl | rfl <;> exact own
  · exact ⟨rfl, rfl, rfl, rfl, by rw [hsize]; exact Nat.le_refl _, fun b' hb' => hother b' (by omega), hfr, hcell, fun _ _ _ _ h => h, fun b' ℓ hb' h0 hk => (hK ℓ (fun e => by rw [e] at h0; cases h0)).tk b' hb', fun _ h => h, gr_setRow hb (by omega)⟩

theorem run_room (t tx ty e : TypeId) (i : TypeInfo) (ht : P.underlying t = some (.slice e)) (hi : P.info? e = some i) (b off sLen sCap : Nat) (cur : Array Value) (et : TypeId) (hg : w.heap[b]? = some (.cells cur et (0, 0)))
    (x : Value) (m : Nat) (news : List Value) (hs : Src P i.size tx x m news w) (hroom : sLen + m ≤ sCap) (hfit : off + sLen * i.size + news.length ≤ cur.size) :
    (Builtin.append_ #[t, tx] ty #[.slice (some ⟨b, off, none⟩) sLen sCap, x]).run P w =
      .ok (.slice (some ⟨b, off, none⟩) (sLen + m) sCap) (w.setRow b (cur.toList.take (off + sLen * i.size) ++ news ++ cur.toList.drop (off + sLen * i.size + news.length)).toArray) := by
  have hst := run_storeCells_at P b (off + sLen * i.size) et news 0 cur w hg (by simpa using hfit) hs.one
  simp only [Nat.add_zero] at hst
  rcases hs.kind with ⟨e', hk⟩ | hk <;> simp [Builtin.append_, run_underlying ht, run_underlying hk, sizeOf, typeInfo, hi, hs.len, hroom, hs.cells, add_lit, hst]

/-- What 'append' comes to. -/
theorem append_ok (wm : Bool) (t tx ty e : TypeId) (i : TypeInfo) (zv : Value) {z bytes : Nat} (ht : P.underlying t = some (.slice e)) (hi : P.info? e = some i) (hz : i.zero = some zv) (hsize : i.size = z) (hby : i.bytes = bytes) (hzs : zv.cells.size = z) (h0 : 0 < z)
    (h : SN g w n tmps s) {x y : Value} {m : Mode} {xs ys : List D} {us : List Value} (hx : RC g w (flyL 1 0 0) x (.sl m z xs)) (hm : m = .app ∨ m = .mu ∨ (m = .nl ∧ xs = [])) (hel' : EL (RF w g.fr) z ys us) (hs : Src P z tx y ys.length us w)
    (hlen : xs.length + ys.length ≤ maxLen) (hbytes : (xs.length + ys.length) * bytes ≤ 140737488355328) :
    ∃ v W g', (Builtin.append_ #[t, tx] ty #[x, y]).run P w = .ok v W ∧ SN g' W n tmps s ∧ RT g' W (flyL 0) v (.sl (if m = .nl then (if ys = [] then .nl else if wm = true then .mu else .app) else m) z (xs ++ ys)) ∧ Ext s.k g w g' W := by
  subst hsize
  subst hby
  have h63 : ((xs.length + ys.length : Nat) : Int) ≤ 9223372036854775807 := by simp only [maxLen] at hlen; omega
  -- a new row
  have fresh : ∀ (m : Mode) (hmode : m = .app ∨ m = .mu) (base : Option Addr) (sCap : Nat) (vs : List Value), (Builtin.firstCells i.size xs.length (.slice base xs.length sCap)).run P w.drew = .ok vs.toArray w.drew → EL (RF w g.fr) i.size xs vs → sCap < xs.length + ys.length →
      ∃ v W g', (Builtin.append_ #[t, tx] ty #[.slice base xs.length sCap, y]).run P w = .ok v W ∧ SN g' W n tmps s ∧ RT g' W (flyL 0) v (.sl m i.size (xs ++ ys)) ∧ Ext s.k g w g' W := by
    intro m hmode base sCap vs hold hel hg
    have hr := run_append_grow_src (P := P) w t tx ty e i zv ht hi hz base xs.length sCap vs hold y ys.length us hs hg h63 (growslice_fits (by omega) hbytes)
    have hge := grownCap_ge w (xs.length + ys.length) sCap e
    have hcm := grownCap_le_maxLen w (xs.length + ys.length) sCap e hlen
    have hM : More w (w.drew.alloc (.cells ((vs ++ us).toArray ++ Builtin.zeroCells zv.cells (grownCap w (xs.length + ys.length) sCap e - (xs.length + ys.length))) e)) (.cells ((vs ++ us).toArray ++ Builtin.zeroCells zv.cells (grownCap w (xs.length + ys.length) sCap e - (xs.length + ys.length))) e) := ⟨rfl, rfl, rfl, rfl⟩
    have hvl : (vs ++ us).length = (xs.length + ys.length) * i.size := by rw [List.length_append, hel.len, hel'.len, Nat.add_mul]
    obtain ⟨g', k1, k2, k3⟩ := newlist_ok h hM (hel.append hel') (cap := grownCap w (xs.length + ys.length) sCap e) (fun k v hk => by
      rw [Array.getElem?_append_left (by simpa using getq_lt hk)]
      simpa using hk) (by rw [List.length_append]; exact hge) hcm (by
        simp only [Array.size_append, List.size_toArray, size_zeroCells, hzs, hvl, ← Nat.add_mul]
        exact Nat.mul_le_mul_right _ (by omega)) m hmode
    rw [List.length_append] at k2
    exact ⟨_, _, g', hr, k1, k2, k3⟩
  have owned : ∀ m, (m = .app ∨ m = .mu) → Own g w (flyL 1 0 0) x m i.size xs → ∃ v W g', (Builtin.append_ #[t, tx] ty #[x, y]).run P w = .ok v W ∧ SN g' W n tmps s ∧ RT g' W (flyL 0) v (.sl m i.size (xs ++ ys)) ∧ Ext s.k g w g' W := by
    intro m hmode hx
    obtain ⟨b, off, cap, cur, et, val, rfl, q2, q3, q4, q5, q6, q7, q7', q8, q9, q10⟩ := hx
    obtain ⟨vs, hel, hcells⟩ := row_of q8 q9 q10
    have hcur : ∀ (k : Nat) v, vs[k]? = some v → cur[off + k]? = some v := fun k v hk => by
      have := hcells k v hk
      simpa [World.cell?, q2] using this
    by_cases hroom : xs.length + ys.length ≤ cap
    · have hfit : off + xs.length * i.size + us.length ≤ cur.size := by
        have : (xs.length + ys.length) * i.size ≤ cap * i.size := Nat.mul_le_mul_right _ hroom
        rw [Nat.add_mul] at this
        rw [hel'.len]; omega
      have hr := run_room (P := P) t tx ty e i ht hi b off xs.length cap cur et q2 y ys.length us hs hroom hfit
      have hget := fun c : Nat => overV_get (ds := cur) (cs := us) (off := off + xs.length * i.size) (c := c) hfit
      have hsz : (cur.toList.take (off + xs.length * i.size) ++ us ++ cur.toList.drop (off + xs.length * i.size + us.length)).toArray.size = cur.size := by simp; omega
      generalize (cur.toList.take (off + xs.length * i.size) ++ us ++ cur.toList.drop (off + xs.length * i.size + us.length)).toArray = nc at hr hget hsz
      obtain ⟨g', k1, k2, k3⟩ := grow_ok m hmode h q2 q6 q7' q7 hel hel' hcur hroom q4 q5 hsz (fun k hk => by rw [hget, if_pos hk]) (fun k v hk => by
        have := getq_lt hk
        rw [hget, if_neg (by omega), if_pos (by omega), Nat.add_sub_cancel_left]; exact hk)
      rw [List.length_append] at k2
      exact ⟨_, _, g', hr, k1, k2, k3⟩
    · refine fresh m hmode _ cap vs ?_ hel (by omega)
      exact run_firstCells_some w.drew i.size xs.length ⟨b, off, none⟩ xs.length cap vs hel.len (fun j v hj => by
        rw [add_lit]
        have := hcells j v hj
        simpa using this)
  rcases hm with rfl | rfl | ⟨rfl, rfl⟩
  · exact owned .app (.inl rfl) hx
  · exact owned .mu (.inr rfl) hx
  · cases (show RF w g.fr x (.sl .nl i.size []) from hx) with
    | nl =>
      by_cases hy : ys = []
      · subst hy
        have hus : us = [] := List.eq_nil_of_length_eq_zero (by rw [hel'.len]; simp)
        subst hus
        have hr := run_append_nothing (P := P) w t tx ty e i ht hi none 0 0 (Nat.le_refl _) y hs
        refine ⟨_, w, g, hr, h, ?_, Ext.refl _ _ _⟩
        simp only [if_true, List.append_nil]
        exact (show RF w g.fr _ (.sl .nl i.size []) from .nl _)
      · simp only [hy, if_false, if_true]
        have hpos : 0 < ys.length := List.length_pos_iff.2 hy
        exact fresh (if wm = true then .mu else .app) (by cases wm; · exact .inl rfl
                                                          · exact .inr rfl) none 0 [] (run_firstCells_none w.drew i.size 0 0 0) (EL.nil _ _) (by simpa using hpos)
end
end Go.Proofs.Ytfopbiiffiickaa.Ev
namespace Go.Proofs.Ytfopbiiffiickaa.Ev
open Go
variable {P : Program}
section
variable {o : Oper} {g : G} {w : World} {n : Nat} {a : Act} {s s' : S} {d : D} {call : Caller} {t : Option Nat}

theorem RF.src0 {ty e : TypeId} (hu : P.underlying ty = some (.slice e)) {w : World} {fr : Nat → Nat} {x : Value} {m : Mode} {z z' : Nat} {ys : List D} (h : RF w fr x (.sl m z' ys)) (hz : z = z' ∨ ys.isEmpty = true) :
    ∃ us, EL (RF w fr) z ys us ∧ Src P z ty x ys.length us w := by
  rcases hz with rfl | hz
  · exact h.src hu
  · obtain rfl : ys = [] := List.isEmpty_iff.1 hz
    obtain ⟨base, cap, vs, rfl, h2, h3, h4⟩ := h.row
    cases base with
    | none => exact ⟨[], EL.nil _ _, Src.ofNil w hu cap⟩
    | some a => exact ⟨[], EL.nil _ _, Src.ofSlice w hu a _ cap [] (by simp) (fun j u hj => by simp at hj) (fun u hu => by simp at hu)⟩

theorem RC.rf {ℓ : Loc} {x : Value} {m : Mode} {z : Nat} {ys : List D} (h : RC g w ℓ x (.sl m z ys)) (h1 : m ≠ .mu) (h2 : m ≠ .app) : RF w g.fr x (.sl m z ys) := by
  cases m with
  | nl => exact h
  | ro => exact h
  | app => exact absurd rfl h2
  | mu => exact absurd rfl h1

theorem gives_ap {wm : Bool} {ty tx e e' : TypeId} {x y : Operand} {x' y' : Opd} {z by_ : Nat} {zv : Value} {i : TypeInfo} (ho : o.op = .call ⟨.builtin .append, #[x, y], #[ty, tx]⟩) (hx : MOpd x x') (hy : MOpd y y') (hu : P.underlying ty = some (.slice e)) (hu' : P.underlying tx = some (.slice e')) (hi : P.info? e = some i) (hz : i.zero = some zv) (hs : i.size = z) (hb : i.bytes = by_) (hzs : zv.cells.size = z) (h0 : 0 < z) (h1 : 1 ≤ by_)
    (h : SN g w n a.tmps s) (he : evOp call t (.ap wm z by_ x' y') s = some (d, s')) : Gives P o g w n a s d s' := by
  obtain ⟨g1, k1, k2, k3, _⟩ := rd_fly h hx 1
  obtain ⟨L, hL⟩ := rd_at h hy
  have main : ∀ (m : Mode) (xs : List D) (m' : Mode) (z' : Nat) (ys : List D), RC g1 w (flyL 1 0 0) (a.eval x) (.sl m z xs) → (m = .app ∨ m = .mu ∨ (m = .nl ∧ xs = [])) → RC g w (L 0 0) (a.eval y) (.sl m' z' ys) → (z = z' ∨ ys.isEmpty = true) → m' ≠ .mu → m' ≠ .app → (xs.length + ys.length) * by_ ≤ 140737488355328 →
      RT g1 w (flyL 0) (a.eval x) (.v (a.eval x)) → ∀ d', (∀ g' W v, RT g' W (flyL 0) v (.sl (if m = .nl then (if ys = [] then .nl else if wm = true then .mu else .app) else m) z (xs ++ ys)) → RT g' W (flyL 0) v d') → Gives P o g w n a s d' (rd x' s).2 := by
    intro m xs m' z' ys hxr hm hyr hzz hm1 hm2 hlen _ d' hd'
    have hrf := (hyr.rf hm1 hm2).mono (w' := w) (fr' := g1.fr) (fun _ _ _ => rfl) k3.fr
    obtain ⟨us, hel, hsrc⟩ := hrf.src0 hu' hzz
    have hn : xs.length + ys.length ≤ maxLen := by
      have : (xs.length + ys.length) * 1 ≤ (xs.length + ys.length) * by_ := Nat.mul_le_mul_left _ h1
      simp only [maxLen]; omega
    obtain ⟨v, W, g', r1, r2, r3, r4⟩ := append_ok (P := P) wm ty tx o.type e i zv hu hi hz hs hb hzs h0 k1 hxr hm hel hsrc hn hlen
    refine ⟨v, W, g', ?_, r2, hd' g' W v r3, k3.trans (by rw [rd_k] at r4; exact r4), rd_k ..⟩
    simp [execOp, ho, resolve, invoke, builtin, r1]
  simp only [evOp] at he
  split at he
  · rename_i z1 xs m' z' ys e1 e2
    rw [e1] at k2
    rw [e2] at hL
    split at he
    · rename_i hc
      obtain ⟨c1, c2, c3, c4⟩ := hc
      injection he with he
      injection he with f1 f2
      subst f2
      have hnl : ∀ v : Value, RF w g1.fr v (.sl .nl z1 xs) → xs = [] ∧ RF w g1.fr v (.sl .nl z []) := fun v hv => by cases hv with | nl => exact ⟨rfl, .nl z⟩
      obtain ⟨hxs, hxr⟩ := hnl _ (show RF w g1.fr (a.eval x) (.sl .nl z1 xs) from k2)
      subst hxs
      refine main .nl [] m' z' ys (show RC g1 w (flyL 1 0 0) (a.eval x) (.sl .nl z []) from hxr) (.inr (.inr ⟨rfl, rfl⟩)) hL c1 c2 c3 (by simpa using c4) rfl d fun g' W v hv => ?_
      rw [← f1]
      by_cases hy0 : ys = []
      · subst hy0
        simp only [List.isEmpty_nil, if_true]
        simp only [if_true, List.append_nil] at hv
        cases (show RF W g'.fr v (.sl .nl z []) from hv) with
        | nl => exact (show RF W g'.fr _ (.sl .nl 0 []) from .nl 0)
      · have : ys.isEmpty = false := by cases ys <;> first | exact absurd rfl hy0 | rfl
        simp only [this, Bool.false_eq_true, if_false]
        simpa [hy0] using hv
    · cases he
  · rename_i z1 xs m' z' ys e1 e2
    rw [e1] at k2
    rw [e2] at hL
    split at he
    · rename_i hc
      obtain ⟨c0, c1, c2, c3, c4⟩ := hc
      subst c0
      injection he with he
      injection he with f1 f2
      subst f2
      refine main .mu xs m' z' ys k2 (.inr (.inl rfl)) hL c1 c2 c3 c4 rfl d fun g' W v hv => ?_
      rw [← f1]
      simpa using hv
    · cases he
  · rename_i z1 xs m' z' ys e1 e2
    rw [e1] at k2
    rw [e2] at hL
    split at he
    · rename_i hc
      obtain ⟨c0, c1, c2, c3, c4⟩ := hc
      subst c0
      injection he with he
      injection he with f1 f2
      subst f2
      refine main .app xs m' z' ys k2 (.inl rfl) hL c1 c2 c3 c4 rfl d fun g' W v hv => ?_
      rw [← f1]
      simpa using hv
    · cases he
  · cases he

theorem equalIn_nil {ty e : TypeId} (hu : P.underlying ty = some (.slice e)) (k : Nat) (b : Option Addr) (l c : Nat) : (Go.Op.equalIn (k + 1) ty (.slice b l c) (.slice none 0 0)).run P w = .ok b.isNone w := by
  cases b <;> simp [Go.Op.equalIn, run_underlying hu]
theorem equalIn_bool {ty : TypeId} (hu : P.underlying ty = some .bool) (k : Nat) (x y : Bool) : (Go.Op.equalIn (k + 1) ty (.bool x) (.bool y)).run P w = .ok (x == y) w := by
  simp [Go.Op.equalIn, run_underlying hu]
theorem bin_slice {ne : Bool} {ty e : TypeId} (hu : P.underlying ty = some (.slice e)) (b : Option Addr) (l c : Nat) : (Go.binOp (if ne then .neq else .eql) ty (.slice b l c) (.slice none 0 0)).run P w = .ok (.bool (b.isNone != ne)) w := by
  have h := equalIn_nil (w := w) hu 9999 b l c
  cases ne with
  | false =>
    show ((do pure (Value.bool (← Go.Op.equalIn (9999 + 1) ty (.slice b l c) (.slice none 0 0))) : Sem Value)).run P w = _
    rw [Sem.run_bind, h]; simp
  | true =>
    show ((do pure (Value.bool !(← Go.Op.equalIn (9999 + 1) ty (.slice b l c) (.slice none 0 0))) : Sem Value)).run P w = _
    rw [Sem.run_bind, h]; simp
theorem bin_bool {ne : Bool} {ty : TypeId} (hu : P.underlying ty = some .bool) (x y : Bool) : (Go.binOp (if ne then .neq else .eql) ty (.bool x) (.bool y)).run P w = .ok (.bool ((x == y) != ne)) w := by
  have h := equalIn_bool (w := w) hu 9999 x y
  cases ne with
  | false =>
    show ((do pure (Value.bool (← Go.Op.equalIn (9999 + 1) ty (.bool x) (.bool y))) : Sem Value)).run P w = _
    rw [Sem.run_bind, h]; simp
  | true =>
    show ((do pure (Value.bool !(← Go.Op.equalIn (9999 + 1) ty (.bool x) (.bool y))) : Sem Value)).run P w = _
    rw [Sem.run_bind, h]; simp
theorem guard_slice {op : BinOp} {ty : TypeId} {x y : Operand} (b b' : Option Addr) (l c l' c' : Nat) : (Go.eqGuard op ty x y (.slice b l c) (.slice b' l' c')).run P w = .ok () w := by
  unfold Go.eqGuard; split <;> rfl
theorem guard_bool {op : BinOp} {ty : TypeId} {x y : Operand} (b b' : Bool) : (Go.eqGuard op ty x y (.bool b) (.bool b')).run P w = .ok () w := by
  unfold Go.eqGuard; split <;> rfl
theorem gives_eqn {ne : Bool} {ty e ty' : TypeId} {x : Operand} {x' : Opd} (ho : o.op = .binOp (if ne then .neq else .eql) ty x (.const (.slice none 0 0)) ty') (hx : MOpd x x') (hu : P.underlying ty = some (.slice e)) (h : SN g w n a.tmps s) (he : evOp call t (.eqn ne x') s = some (d, s')) : Gives P o g w n a s d s' := by
  obtain ⟨L, hL⟩ := rd_at h hx
  have main : ∀ (b : Option Addr) (len cap : Nat) (q : Bool), a.eval x = .slice b len cap → b.isNone = q → d = .v (.bool (q != ne)) → s' = s → Gives P o g w n a s d s' := by
    intro b len cap q hv hb hd hs
    subst hd hs
    refine ⟨.bool (q != ne), w, g, ?_, h, rfl, Ext.refl _ _ _, rfl⟩
    subst hb
    unfold execOp
    simp only [ho, hv, Sem.run_bind, show a.eval (.const (.slice none 0 0)) = .slice none 0 0 from rfl, guard_slice, Result.andThen_ok, bin_slice hu, Sem.run_pure]
  simp only [evOp] at he
  split at he
  · rename_i z xs hxs
    rw [hxs] at hL
    injection he with he
    injection he with e1 e2
    have hnl : ∀ v : Value, RF w g.fr v (.sl .nl z xs) → v = .slice none 0 0 := fun v hv => by cases hv with | nl => rfl
    exact main none 0 0 true (hnl _ hL) rfl (by rw [← e1]; cases ne <;> rfl) e2.symm
  · rename_i m z xs hne hxs
    rw [hxs] at hL
    injection he with he
    injection he with e1 e2
    have hsome : ∃ b len cap, a.eval x = .slice (some b) len cap := by
      cases m with
      | nl => exact (hne rfl).elim
      | ro =>
        have hro : ∀ v : Value, RF w g.fr v (.sl .ro z xs) → ∃ b len cap, v = .slice (some b) len cap := fun v hv => by cases hv with | ro => exact ⟨_, _, _, rfl⟩ | z => exact ⟨_, _, _, rfl⟩
        exact hro _ hL
      | app => obtain ⟨b, off, cap, cur, e, val, h1, _⟩ := (show Own g w _ (a.eval x) .app z xs from hL); exact ⟨_, _, _, h1⟩
      | mu => obtain ⟨b, off, cap, cur, e, val, h1, _⟩ := (show Own g w _ (a.eval x) .mu z xs from hL); exact ⟨_, _, _, h1⟩
    obtain ⟨b, len, cap, hv⟩ := hsome
    exact main (some b) len cap false hv rfl (by rw [← e1]; cases ne <;> rfl) e2.symm
  · rename_i f b off m z hxs
    rw [hxs] at hL
    injection he with he
    injection he with e1 e2
    obtain ⟨_, blk, cap, _, _, hv, _⟩ := (show RC g w (L 0 0) (a.eval x) (.ref f b off m z) from hL)
    exact main (some _) m cap false hv rfl (by rw [← e1]; cases ne <;> rfl) e2.symm
  · cases he

theorem gives_eqs {ne : Bool} {ty ty' : TypeId} {x y : Operand} {x' y' : Opd} (ho : o.op = .binOp (if ne then .neq else .eql) ty x y ty') (hx : MOpd x x') (hy : MOpd y y') (h : SN g w n a.tmps s) (he : evOp call t (.eqs ne x' y') s = some (d, s')) : Gives P o g w n a s d s' := by
  simp only [evOp] at he
  split at he
  · rename_i p q h1 h2
    have hv1 := rd_v h hx h1
    have hv2 := rd_v h hy h2
    injection he with he
    injection he with e1 e2
    subst e1 e2
    refine ⟨_, w, g, ?_, h, rfl, Ext.refl _ _ _, rfl⟩
    cases ne <;> simp [execOp, ho, hv1, hv2, Go.eqGuard, Go.binOp, Go.Op.stringOp]
  · cases he
theorem gives_eqb {ne : Bool} {ty ty' : TypeId} {x y : Operand} {x' y' : Opd} (ho : o.op = .binOp (if ne then .neq else .eql) ty x y ty') (hx : MOpd x x') (hy : MOpd y y') (hu : P.underlying ty = some .bool) (h : SN g w n a.tmps s) (he : evOp call t (.eqb ne x' y') s = some (d, s')) : Gives P o g w n a s d s' := by
  simp only [evOp] at he
  split at he
  · rename_i p q h1 h2
    have hv1 := rd_v h hx h1
    have hv2 := rd_v h hy h2
    injection he with he
    injection he with e1 e2
    subst e1 e2
    refine ⟨_, w, g, ?_, h, rfl, Ext.refl _ _ _, rfl⟩
    unfold execOp
    simp only [ho, hv1, hv2, Sem.run_bind, guard_bool, Result.andThen_ok, bin_bool hu, Sem.run_pure]
  · cases he
theorem gives_sh {op : BinOp} {op' : Bop} {ty ty' : TypeId} {x y : Operand} {x' y' : Opd} (ho : o.op = .binOp op ty x y ty') (hop : MB op op') (hx : MOpd x x') (hy : MOpd y y') (h : SN g w n a.tmps s) (he : evOp call t (.sh op' x' y') s = some (d, s')) : Gives P o g w n a s d s' := by
  simp only [evOp] at he
  split at he
  · rename_i k p k' q h1 h2
    have hv1 := rd_v h hx h1
    have hv2 := rd_v h hy h2
    obtain ⟨v, hb, e⟩ := Option.map_eq_some_iff.1 he
    injection e with e1 e2
    subst e1 e2
    refine ⟨v, w, g, ?_, h, rfl, Ext.refl _ _ _, rfl⟩
    unfold bsh at hb
    by_cases h0 : q < 0
    · rw [if_pos h0] at hb; cases hb
    · rw [if_neg h0] at hb
      cases op' <;> first | (cases hb; done) | (injection hb with hb; subst hb; cases op <;> first | exact hop.elim | simp [execOp, ho, hv1, hv2, Go.eqGuard, Go.binOp, Go.Op.shift, h0])
  · cases he
theorem gives_ci {s1 t1 : TypeId} {k : IntKind} {x : Operand} {x' : Opd} {d1 : TypeDesc} (ho : o.op = .convert s1 t1 x) (hx : MOpd x x') (hs : P.underlying s1 = some d1) (hu : P.underlying t1 = some (.int k)) (h : SN g w n a.tmps s) (he : evOp call t (.ci k x') s = some (d, s')) : Gives P o g w n a s d s' := by
  simp only [evOp] at he
  split at he
  · rename_i k1 p h1
    have hv1 := rd_v h hx h1
    injection he with he
    injection he with e1 e2
    subst e1 e2
    exact ⟨_, w, g, by simp [execOp, ho, hv1, Go.convert, run_underlying hs, run_underlying hu, Go.Conv.intToInt], h, rfl, Ext.refl _ _ _, rfl⟩
  · cases he
theorem gives_nck {x : Operand} {x' : Opd} (ho : o.op = .nilCheck x) (hx : MOpd x x') (h : SN g w n a.tmps s) (he : evOp call t (.nck x') s = some (d, s')) : Gives P o g w n a s d s' := by
  obtain ⟨L, hL⟩ := rd_at h hx
  simp only [evOp] at he
  split at he
  · rename_i f b off h1
    rw [h1] at hL
    injection he with he
    injection he with e1 e2
    subst e1 e2
    obtain ⟨q0, blk, q1, q2⟩ := (show RP g w (a.eval x) (.ptr f b off) from hL)
    exact ⟨_, w, g, by simp [execOp, ho, q2], h, (show RP g w _ (.ptr f b off) from ⟨q0, blk, q1, rfl⟩), Ext.refl _ _ _, rfl⟩
  · rename_i cs off h1
    rw [h1] at hL
    injection he with he
    injection he with e1 e2
    subst e1 e2
    obtain ⟨blk, o1, val, q1, q2, q3⟩ := (show RP g w (a.eval x) (.fptr cs off) from hL)
    exact ⟨.pointer (some ⟨blk, o1 + off, none⟩), w, g, by simp [execOp, ho, q1], h, (show RP g w _ (.fptr cs off) from ⟨blk, o1, val, rfl, q2, q3⟩), Ext.refl _ _ _, rfl⟩
  · cases he

theorem rds_at (h : SN g w n a.tmps s) {xs : List Operand} {ys : List Opd} (hl : xs.length = ys.length) (hm : ∀ (i : Nat) x y, xs[i]? = some x → ys[i]? = some y → MOpd x y) :
    (rds s ys).length = ys.length ∧ ∀ (i : Nat) d, (rds s ys)[i]? = some d → ∃ x L, xs[i]? = some x ∧ RT g w L (a.eval x) d := by
  induction ys generalizing xs with
  | nil => exact ⟨rfl, fun i d hi => by simp [rds] at hi⟩
  | cons y ys ih =>
    cases xs with
    | nil => simp at hl
    | cons x xs =>
      obtain ⟨h1, h2⟩ := ih (xs := xs) (by simpa using hl) fun i x' y' hx hy => hm (i + 1) x' y' (by simpa using hx) (by simpa using hy)
      refine ⟨by simp [rds, h1], fun i d hi => ?_⟩
      cases i with
      | zero =>
        simp only [rds, List.getElem?_cons_zero] at hi
        injection hi with hi
        subst hi
        obtain ⟨L, hL⟩ := rd_at h (hm 0 x y rfl rfl)
        exact ⟨x, L, rfl, hL⟩
      | succ i =>
        obtain ⟨x', L, q1, q2⟩ := h2 i d (by simpa [rds] using hi)
        exact ⟨x', L, by simpa using q1, q2⟩

theorem gives_mf {f : Nat} {caps : Array Operand} {caps' : List Opd} (ho : o.op = .makeFunc (.func f) #[] caps) (hlt : f < RL) (hm : MArgs caps caps') (h : SN g w n a.tmps s) (he : evOp call t (.mf f caps') s = some (d, s')) : Gives P o g w n a s d s' := by
  obtain ⟨hl, hm⟩ := hm
  rename_i xs
  obtain ⟨h1, h2⟩ := rds_at h hl hm
  simp only [evOp] at he
  split at he
  · rename_i hc
    injection he with he
    injection he with e1 e2
    subst e1 e2
    refine ⟨.func (.func f) #[] (xs.toArray.map a.eval), w, g, by simp [execOp, ho, Instr.makeFunc], h, ?_, Ext.refl _ _ _, rfl⟩
    refine (show RC g w (flyL 0 0 0) _ (.clo f (rds s caps')) from ⟨hlt, _, rfl, by simp [h1, hl], fun j d hj => ?_⟩)
    obtain ⟨x, L, q1, q2⟩ := h2 j d hj
    refine ⟨a.eval x, by simp [q1], ?_⟩
    have := List.all_eq_true.1 hc d (List.mem_of_getElem? hj)
    cases d with
    | v y => exact q2
    | ptr f s off => exact q2
    | fptr cs off => exact q2
    | _ => cases this
  · cases he
end
theorem rf1_cells {d : D} (h : d.rf1 = true) : d.cells = [d] := by cases d <;> first | rfl | cases h
theorem chunks_len (z : Nat) : ∀ (n : Nat) (cs : List D), (chunks z n cs).length = n
  | 0, _ => rfl
  | n + 1, cs => by simp [chunks, chunks_len z n]
theorem chunk_cells {cs : List D} {z : Nat} (h : cs.all D.rf1 = true) : (mkEl (cs.take z)).cells = cs.take z := by
  have h' : ∀ d ∈ cs.take z, d.rf1 = true := fun d hd => List.all_eq_true.1 h d (List.mem_of_mem_take hd)
  generalize cs.take z = l at h'
  match l, h' with
  | [], _ => rfl
  | [d], h' => exact rf1_cells (h' d (by simp))
  | d :: e :: r, _ => rfl
theorem chunks_ok {z : Nat} : ∀ {n : Nat} {cs : List D}, cs.all D.rf1 = true → n * z ≤ cs.length → ∀ (i : Nat) d, (chunks z n cs)[i]? = some d → d.cells.length = z ∧ ∀ (j : Nat) c, d.cells[j]? = some c → cs[i * z + j]? = some c
  | 0, cs, _, _, i, d, hi => by simp [chunks] at hi
  | n + 1, cs, h, hn, i, d, hi => by
    rw [Nat.add_mul, Nat.one_mul] at hn
    simp only [chunks] at hi
    cases i with
    | zero =>
      simp only [List.getElem?_cons_zero] at hi
      injection hi with hi
      have hc := chunk_cells (z := z) h
      rw [hi] at hc
      refine ⟨by rw [hc]; simp; omega, fun j c hj => ?_⟩
      rw [hc, List.getElem?_take] at hj
      split at hj
      · simpa using hj
      · cases hj
    | succ i =>
      simp only [List.getElem?_cons_succ] at hi
      obtain ⟨h1, h2⟩ := chunks_ok (cs := cs.drop z) (List.all_eq_true.2 fun d hd => List.all_eq_true.1 h d (List.mem_of_mem_drop hd)) (by simp; omega) i d hi
      refine ⟨h1, fun j c hj => ?_⟩
      have := h2 j c hj
      rw [List.getElem?_drop] at this
      rw [← this, Nat.add_mul]; congr 1; omega
theorem EL.flat {R : Value → D → Prop} {z : Nat} : ∀ {xs : List D} {vs : List Value}, EL R z xs vs → ∀ (q : Nat) c, (xs.flatMap D.cells)[q]? = some c → ∃ v, vs[q]? = some v ∧ R v c
  | [], vs, _, q, c, hq => by simp at hq
  | x :: xs, vs, h, q, c, hq => by
    have hx := h.el 0 x rfl
    rw [List.flatMap_cons] at hq
    rcases Nat.lt_or_ge q x.cells.length with hl | hl
    · rw [List.getElem?_append_left hl] at hq
      obtain ⟨v, h1, h2⟩ := h.rel 0 x q c rfl hq
      exact ⟨v, by simpa using h1, h2⟩
    · rw [List.getElem?_append_right hl, hx] at hq
      have ht : EL R z xs (vs.drop z) := ⟨by rw [List.length_drop, h.len, List.length_cons, Nat.add_mul]; omega, fun i d hi => h.el (i + 1) d (by simpa using hi), fun i d j c hi hj => by
        obtain ⟨v, h1, h2⟩ := h.rel (i + 1) d j c (by simpa using hi) hj
        refine ⟨v, ?_, h2⟩
        rw [List.getElem?_drop, ← h1, Nat.add_mul]; congr 1; omega⟩
      obtain ⟨v, h1, h2⟩ := EL.flat ht _ c hq
      refine ⟨v, ?_, h2⟩
      rw [List.getElem?_drop] at h1
      rw [← h1]; congr 1; omega
theorem flat_len {z : Nat} : ∀ {xs : List D}, (∀ (i : Nat) d, xs[i]? = some d → d.cells.length = z) → (xs.flatMap D.cells).length = xs.length * z
  | [], _ => by simp
  | x :: xs, h => by rw [List.flatMap_cons, List.length_append, h 0 x rfl, flat_len fun i d hi => h (i + 1) d (by simpa using hi), List.length_cons, Nat.add_mul]; omega

theorem RC.toRF {g : G} {w : World} {ℓ : Loc} {x : Value} {d : D} (h : RC g w ℓ x d) (hd : d.rf1 = true) : RF w g.fr x d := by
  cases d with
  | v y => rw [show x = y from h]; exact .v y hd
  | sl m z xs => cases m with
    | nl => exact h
    | ro => exact h
    | app => cases hd
    | mu => cases hd
  | _ => cases hd
theorem rf1_bnd {k : Nat} {d : D} (h : d.rf1 = true) : d.bnd1 k = true := by
  cases d with
  | v y => rfl
  | sl m z xs => rfl
  | _ => cases h
/-- A part of a variable that is never written again is a list to be read. -/
theorem ref_ro {w : World} {fr : Nat → Nat} {blk off off' n cap z : Nat} {vs : Array Value} {et : TypeId} {cs : List D} (hn : n ≤ cap) (hm : cap ≤ maxLen) (ho : n = 0 ∨ off' = off) (hw : w.heap[blk]? = some (.cells vs et (0, 0))) (hall : cs.all D.rf1 = true)
    (hc : ∀ (c : Nat) d, cs[c]? = some d → ∃ y, vs[c]? = some y ∧ RF w fr y d) (hfr : cs.length ≤ fr blk) (hle : off + n * z ≤ cs.length) : RF w fr (.slice (some ⟨blk, off', none⟩) n cap) (.sl .ro z (chunks z n (cs.drop off))) := by
  have hl := chunks_len z n (cs.drop off)
  have hch := chunks_ok (z := z) (n := n) (cs := cs.drop off) (List.all_eq_true.2 fun d hd => List.all_eq_true.1 hall d (List.mem_of_mem_drop hd)) (by simp; omega)
  generalize chunks z n (cs.drop off) = xs at hl hch
  subst hl
  have key : ∀ (i : Nat) d (j : Nat) c, xs[i]? = some d → d.cells[j]? = some c → off' = off ∧ cs[off + i * z + j]? = some c := fun i d j c hi hj => by
    have := (hch i d hi).2 j c hj
    rw [List.getElem?_drop] at this
    have hlt := getq_lt hi
    exact ⟨by omega, by rw [← this]; congr 1; omega⟩
  refine .ro blk off' cap z xs (fun i j => vs.getD (off + i * z + j) undef) hn hm ?_ (fun i d hi => (hch i d hi).1) (fun i d j c hi hj => ?_) (fun i d j c hi hj => ?_)
  · rcases ho with ho | ho
    · exact .inl (List.eq_nil_of_length_eq_zero ho)
    · exact .inr (by rw [ho]; omega)
  · obtain ⟨rfl, h2⟩ := key i d j c hi hj
    obtain ⟨y, h3, h4⟩ := hc _ c h2
    simp [World.cell?, hw, h3, Array.getD_eq_getD_getElem?]
  · obtain ⟨rfl, h2⟩ := key i d j c hi hj
    obtain ⟨y, h3, h4⟩ := hc _ c h2
    have : vs.getD (off' + i * z + j) undef = y := by simp [Array.getD_eq_getD_getElem?, h3]
    simp only [this]; exact h4


section
variable {o : Oper} {g : G} {w : World} {n : Nat} {a : Act} {s s' : S} {d : D} {call : Caller} {t : Option Nat}
theorem u8s_ok {xs : List D} : ∀ {l : List UInt8} {vs : List Value} {fr : Nat → Nat}, u8s xs = some l → vs.length = xs.length → (∀ (i : Nat) d, xs[i]? = some d → ∃ v, vs[i]? = some v ∧ ∀ c, d.cells[0]? = some c → RF w fr v c) →
    ∃ ns : List Int, vs = ns.map (.int .u8) ∧ l = ns.map fun n => UInt8.ofNat n.toNat := by
  induction xs with
  | nil =>
    intro l vs fr h hl _
    simp only [u8s] at h
    injection h with h
    subst h
    have : vs = [] := List.eq_nil_of_length_eq_zero (by simpa using hl)
    exact ⟨[], by simp [this], rfl⟩
  | cons x xs ih =>
    intro l vs fr h hl hr
    have hx : ∃ n, x = .v (.int .u8 n) ∧ ∃ l', u8s xs = some l' ∧ l = UInt8.ofNat n.toNat :: l' := by
      unfold u8s at h
      split at h
      · cases ‹_ :: _ = []›
      · rename_i n r e
        injection e with e1 e2
        subst e1 e2
        obtain ⟨l', h1, h2⟩ := Option.map_eq_some_iff.1 h
        exact ⟨n, rfl, l', h1, h2.symm⟩
      · cases h
    obtain ⟨n, rfl, l', h1, rfl⟩ := hx
    cases vs with
    | nil => simp at hl
    | cons v vs =>
      obtain ⟨v', e1, e2⟩ := hr 0 _ rfl
      simp at e1
      subst e1
      have hv : v = .int .u8 n := by
        cases e2 _ rfl with
        | v x h => rfl
      subst hv
      obtain ⟨ns, h3, h4⟩ := ih (vs := vs) (fr := fr) h1 (by simpa using hl) fun i d hi => by
        obtain ⟨v', e1, e2⟩ := hr (i + 1) d (by simpa using hi)
        exact ⟨v', by simpa using e1, e2⟩
      exact ⟨n :: ns, by simp [h3], by simp [h4]⟩
theorem push_ok (ns : List Int) : ∀ b : ByteArray, ns.foldl (fun r n => r.push (UInt8.ofNat n.toNat)) b = ⟨(b.data.toList ++ ns.map fun n => UInt8.ofNat n.toNat).toArray⟩ := by
  induction ns with
  | nil => intro b; simp
  | cons n ns ih => intro b; rw [List.foldl_cons, ih]; simp [ByteArray.push]
theorem RF.none {w : World} {fr : Nat → Nat} {x : Value} {m : Mode} {z l cap : Nat} {ys : List D} (h : RF w fr x (.sl m z ys)) (e : x = .slice none l cap) : cap = 0 ∧ ys = [] := by
  cases h with
  | nl z => injection e with e1 e2 e3; exact ⟨e3.symm, rfl⟩
  | z a z => injection e with e1; cases e1
  | ro => injection e with e1; cases e1
theorem RF.rc {ℓ : Loc} {x : Value} {c : D} (h : RF w g.fr x c) : RC g w ℓ x c := by
  have h' := h
  cases h <;> first | rfl | exact h'
theorem gives_bst {x : Operand} {x' : Opd} {s1 t1 e : TypeId} (ho : o.op = .convert s1 t1 x) (hx : MOpd x x') (hs : P.underlying s1 = some (.slice e)) (he' : P.underlying e = some (.int .u8)) (ht : P.underlying t1 = some .string) (h : SN g w n a.tmps s) (he : evOp call t (.bst x') s = some (d, s')) : Gives P o g w n a s d s' := by
  obtain ⟨L, hL⟩ := rd_at h hx
  simp only [evOp] at he
  split at he
  · rename_i m z xs hxs
    split at he
    · rename_i hc
      obtain ⟨c1, c2, c3⟩ := hc
      rw [hxs] at hL
      have hrf := RC.rf (show RC g w (L 0 0) (a.eval x) (.sl m z xs) from hL) c1 c2
      obtain ⟨l, hl, e1⟩ := Option.map_eq_some_iff.1 he
      injection e1 with e1 e2
      subst e1 e2
      have hsrc : ∃ base cap vs, a.eval x = .slice base xs.length cap ∧ EL (RF w g.fr) 1 xs vs ∧ (base = none → xs = []) ∧ ∀ a, base = some a → True ∧ ∀ (k : Nat) v, vs[k]? = some v → w.cell? (a.add k) = some v := by
        rcases c3 with rfl | hz
        · exact hrf.row
        · obtain rfl : xs = [] := List.isEmpty_iff.1 hz
          obtain ⟨base, cap, vs, k1, k2, k3, k4⟩ := hrf.row
          exact ⟨base, cap, [], k1, EL.nil _ _, fun _ => rfl, fun a ha => ⟨trivial, fun k v hk => by simp at hk⟩⟩
      obtain ⟨base, cap, vs, hv, hel, h3, h4⟩ := hsrc
      obtain ⟨ns, h5, h6⟩ := u8s_ok (w := w) (fr := g.fr) (vs := vs) hl (by rw [hel.len]; omega) fun i d hi => by
        have hd := hel.el i d hi
        have h0 : d.cells[0]? = some (d.cells[0]'(by omega)) := List.getElem?_eq_getElem _
        obtain ⟨v, q1, q2⟩ := hel.rel i d 0 _ hi h0
        exact ⟨v, by simpa using q1, fun c hc => by rw [h0] at hc; injection hc with hc; rw [← hc]; exact q2⟩
      refine ⟨.string ⟨l.toArray⟩, w, g, ?_, h, rfl, Ext.refl _ _ _, rfl⟩
      have hcv : (convert s1 t1 (a.eval x)).run P w = .ok (.string ⟨l.toArray⟩) w := by
        rw [hv, run_convert_bytes_string w s1 t1 e base xs.length cap hs he' ht]
        cases base with
        | none =>
          obtain rfl := h3 rfl
          have : vs = [] := List.eq_nil_of_length_eq_zero (by rw [hel.len]; simp)
          subst this
          have : ns = [] := by simpa using h5.symm
          subst this
          subst h6
          simp [Conv.bytesToString, Sem.run_pure]
          rfl
        | some ad =>
          have hlen : vs.length = xs.length := by rw [hel.len]; omega
          have := run_loadCells_list (P := P) w ad vs (fun j v hj => (h4 ad rfl).2 j v hj)
          rw [hlen, h5] at this
          rw [run_bytesToString w ad xs.length cap ns this, push_ok, h6]
          simp
      simp [execOp, ho, hcv]
    · cases he
  · cases he
theorem copy0 (w : World) (ty tx q e : TypeId) (i : TypeInfo) (d : Option Addr) (cap : Nat) (base : Option Addr) (len scap : Nat) (hu : P.underlying ty = some (.slice e)) (hi : P.info? e = some i) (hs : i.size = 1) :
    (Builtin.copy_ #[ty, tx] q #[.slice d 0 cap, .slice base len scap]).run P w = .ok (goInt 0) w := by
  cases base with
  | none => cases d <;> simp [Builtin.copy_, run_underlying hu, Builtin.lenOf, Builtin.firstCells, sizeOf, typeInfo, hi, hs, storeCells]
  | some a =>
    have hl : (loadCells a 0).run P w = .ok #[] w := run_loadCells_list (P := P) w a [] (fun j v hj => by simp at hj)
    cases d <;> simp [Builtin.copy_, run_underlying hu, Builtin.lenOf, Builtin.firstCells, sizeOf, typeInfo, hi, hs, storeCells, hl]
/-- Bytes laid over a part of a variable. -/
theorem gives_cpy {x y : Operand} {x' y' : Opd} {ty tx e : TypeId} {i : TypeInfo} (ho : o.op = .call ⟨.builtin .copy, #[x, y], #[ty, tx]⟩) (hx : MOpd x x') (hy : MOpd y y') (hu : P.underlying ty = some (.slice e)) (hi : P.info? e = some i) (hs : i.size = 1) (h : SN g w n a.tmps s) (he : evOp call t (.cpy x' y') s = some (d, s')) : Gives P o g w n a s d s' := by
  obtain ⟨L, hL⟩ := rd_at h hx
  obtain ⟨L', hL'⟩ := rd_at h hy
  simp only [evOp] at he
  split at he
  · rename_i z0 xs0 mm z' ys h1 h2
    rw [h1] at hL
    rw [h2] at hL'
    split at he
    · rename_i hc
      injection he with he
      injection he with e1 e2
      subst e1 e2
      have hd := (show RF w g.fr (a.eval x) (.sl .nl z0 xs0) from hL)
      have hd : a.eval x = .slice none 0 0 := by
        generalize a.eval x = v at hd
        cases hd with
        | nl z => rfl
      obtain ⟨base, cap, hv⟩ := RC.slice (show RC g w (L' 0 0) (a.eval y) (.sl mm z' ys) from hL')
      refine ⟨goInt 0, w, g, ?_, h, rfl, Ext.refl _ _ _, rfl⟩
      simp [execOp, ho, resolve, invoke, builtin, copy0 w ty tx _ e i none 0 base ys.length cap hu hi hs, hd, hv]
    · cases he
  · rename_i f b off m z mm z' ys h1 h2
    rw [h1] at hL
    rw [h2] at hL'
    obtain ⟨hRL, blk, cap, off', k1, k2, k3, k4, k5, _⟩ := (show RC g w (L 0 0) (a.eval x) (.ref f b off m z) from hL)
    split at he
    case isFalse => cases he
    rename_i hmm
    obtain ⟨c2, c3⟩ := hmm
    split at he
    · rename_i hm0
      subst hm0
      injection he with he
      injection he with e1 e2
      subst e1 e2
      obtain ⟨base, scap, hv⟩ := RC.slice (show RC g w (L' 0 0) (a.eval y) (.sl mm z' ys) from hL')
      refine ⟨goInt 0, w, g, ?_, h, rfl, Ext.refl _ _ _, rfl⟩
      simp [execOp, ho, resolve, invoke, builtin, copy0 w ty tx _ e i (some ⟨blk, off', none⟩) cap base ys.length scap hu hi hs, k2, hv]
    split at he
    · rename_i ds hds
      split at he
      · rename_i hc
        obtain ⟨c1, c4, c5, c6, c7, c8⟩ := hc
        subst c1
        injection he with he
        injection he with e1 e2
        subst e1 e2
        have hrf := RC.rf (show RC g w (L' 0 0) (a.eval y) (.sl mm z' ys) from hL') c2 c3
        have hsrc : ∃ base cap vs, a.eval y = .slice base ys.length cap ∧ EL (RF w g.fr) 1 ys vs ∧ (base = none → cap = 0 ∧ ys = []) ∧ ∀ a, base = some a → True ∧ ∀ (k : Nat) v, vs[k]? = some v → w.cell? (a.add k) = some v := by
          have cap0 : ∀ cap, a.eval y = .slice none ys.length cap → cap = 0 ∧ ys = [] := fun cap e => hrf.none e
          rcases c4 with rfl | hz
          · obtain ⟨base, cap, vs, k1, k2, k3, k4⟩ := hrf.row
            exact ⟨base, cap, vs, k1, k2, fun e => cap0 _ (by rw [k1, e]), k4⟩
          · obtain rfl : ys = [] := List.isEmpty_iff.1 hz
            obtain ⟨base, cap, vs, k1, k2, k3, k4⟩ := hrf.row
            exact ⟨base, cap, [], k1, EL.nil _ _, fun e => cap0 _ (by rw [k1, e]), fun a ha => ⟨trivial, fun k v hk => by simp at hk⟩⟩
        obtain ⟨base, scap, vs, hv, hel, h3, h4⟩ := hsrc
        have hvl : vs.length = ys.length := by rw [hel.len]; omega
        -- the cells that are laid
        have hcs : RV g w (flyL 0 0) (.agg (vs.take m).toArray) (.agg ((ys.take m).flatMap D.cells)) := by
          refine ⟨_, rfl, by simp [c6, hvl]; omega, fun c d hd => ?_⟩
          have hel' : EL (RF w g.fr) 1 (ys.take m) (vs.take m) := by
            refine ⟨by simp [hvl], fun i d hi => ?_, fun i d j c hi hj => ?_⟩
            · rw [List.getElem?_take] at hi
              split at hi
              · exact hel.el i d hi
              · cases hi
            · rw [List.getElem?_take] at hi
              split at hi
              · rename_i hlt
                obtain ⟨v, q1, q2⟩ := hel.rel i d j c hi hj
                have hj0 : j = 0 := by have := getq_lt hj; rw [hel.el i d hi] at this; omega
                subst hj0
                refine ⟨v, ?_, q2⟩
                rw [List.getElem?_take, if_pos (by omega)]; exact q1
              · cases hi
          obtain ⟨v, q1, q2⟩ := hel'.flat c d hd
          exact ⟨v, by simpa using q1, q2.rc⟩
        obtain ⟨g2, w2, r1, r2, r3⟩ := write_ok (P := P) h hds hcs hRL (by show off + ((ys.take m).flatMap D.cells).length ≤ ds.length; rw [c6]; omega) c7 c8 k1
        refine ⟨goInt (vs.take m).length, w2, g2, ?_, r2, ?_, r3, sbx_k _ _ _ _⟩
        · have hst : (storeCells ⟨blk, off', none⟩ (vs.take m)).run P w = .ok () w2 := by
            have r1' : (storeCells ⟨blk, off, none⟩ (vs.take m)).run P w = .ok () w2 := r1
            rcases k5 with ⟨k5, _⟩ | k5
            · have hm : m = 0 := by omega
              subst hm
              simpa [storeCells] using r1'
            · rw [k5]; exact r1'
          have hmin : (vs.take m).length = Nat.min ys.length m := by simp [hvl, Nat.min_comm]
          have hcopy : (Builtin.copy_ #[ty, tx] 0 #[a.eval x, a.eval y]).run P w = .ok (goInt (vs.take m).length) w2 := by
            rw [k2, hv]
            cases base with
            | none =>
              obtain ⟨rfl, rfl⟩ := h3 rfl
              have hvs : vs = [] := List.eq_nil_of_length_eq_zero (by simpa using hvl)
              subst hvs
              have hw : w2 = w := by simpa [storeCells] using hst.symm
              have := run_copy_nil (P := P) w ty tx 0 e ⟨blk, off', none⟩ m cap hu (by rw [hi]; rfl)
              rw [hw]
              simpa using this
            | some ad =>
              have hl := run_loadCells_list (P := P) w ad (vs.take m) (fun j v hj => by
                rw [List.getElem?_take] at hj
                split at hj
                · exact (h4 ad rfl).2 j v hj
                · cases hj)
              clear hcs r1
              generalize vs.take m = us at hl hst hmin ⊢
              simp [Builtin.copy_, run_underlying hu, Builtin.lenOf, Builtin.firstCells, sizeOf, typeInfo, hi, hs, ← hmin, hl, hst]
          have hc0 : ∀ q q', Builtin.copy_ #[ty, tx] q #[a.eval x, a.eval y] = Builtin.copy_ #[ty, tx] q' #[a.eval x, a.eval y] := fun _ _ => rfl
          simp [execOp, ho, resolve, invoke, builtin, hc0 _ 0, hcopy]
        · show goInt _ = _
          simp [goInt, hvl]; omega
      · cases he
    · cases he
  · cases he
end
end Go.Proofs.Ytfopbiiffiickaa.Ev
