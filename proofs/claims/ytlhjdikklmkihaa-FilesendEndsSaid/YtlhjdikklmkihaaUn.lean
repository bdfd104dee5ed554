/- Functions that hand out a function to go over. Conditions: none. -/
import Derived.Test.YtlhjdikklmkihaaUg
import Derived.Test.YtlhjdikklmkihaaEvT
import Derived.Test.YtlhjdikklmkihaaEvJ
import Derived.ProofKit
import Derived.WalkKit
import Derived.OpenShut
import Derived.ShutString
import Derived.ChangeOld
import Derived.Below
import Derived.SizedLaws
set_option linter.all false
namespace Go.Proofs.Ytlhjdikklmkihaa.Ev.U
open Go
section
variable {c : Cx} {e : Env} {l : Bx} {Y : List (List D)} {s : SU}
theorem tabOk_nil {P : Caller} : TabOk P (fun _ => none) := fun k tf h => by cases h
theorem resLW_ok (hc : c.ok) : ∀ {rs : List Res} {s : SU} {e : Env} {l : Bx} {Y : List (List D)} {q : List W × SU}, RepS c s e l Y -> resLW rs s = some q -> ∃ ds e' l' Y', RepS c q.2 e' l' Y' ∧ All2 (Rep4 c) q.1 ds ∧ ∀ B, Fam c B -> resL c.P rs ⟨e, l, upd c.rg Y B⟩ = some (ds, ⟨e', l', upd c.rg Y' B⟩)
 | [], s, e, l, Y, q, hS, h => by
  have := Option.some.inj h
  subst this
  exact ⟨[], e, l, Y, hS, trivial, fun B hB => rfl⟩
 | .t n :: r, s, e, l, Y, q, hS, h => by
  simp only [resLW] at h
  obtain ⟨q1, h1, h2⟩ := Option.map_eq_some_iff.1 h
  subst h2
  obtain ⟨ds, e', l', Y', g1, g2, g3⟩ := resLW_ok hc (rdW_st hS (.m n)) h1
  refine ⟨rdE e (.m n) :: ds, e', l', Y', g1, ⟨rdW_ok hS (act_nil e) (.m n), g2⟩, fun B hB => ?_⟩
  have g3 := g3 B hB
  simp only [resL, res1, Option.bind_some, rd_fst, rd_snd, g3, Option.map_some]
 | .c n k :: r, s, e, l, Y, q, hS, h => by
  simp only [resLW] at h
  split at h
  ·rename_i w s1 hw
   obtain ⟨q1, h1, h2⟩ := Option.map_eq_some_iff.1 h
   subst h2
   obtain ⟨d, e1, l1, Y1, k1, k2, k3⟩ := opLdm (T := fun _ => none) (a := .n) (t := none) hc hS (show (evOpW _ [] none .n (.ldm k (.t n)) s).out (some (w, s1)) from by rw [hw]; rfl)
   obtain ⟨ds, e', l', Y', g1, g2, g3⟩ := resLW_ok hc k1 h1
   refine ⟨d :: ds, e', l', Y', g1, ⟨k2, g2⟩, fun B hB => ?_⟩
   simp only [resL, res1, k3 B hB, Option.bind_some, g3 B hB, Option.map_some]
  ·cases h
theorem okR_flat {w : W} {d : D} (h : Rep4 c w d) (hw : w.okR = true) : Flat d := by
 cases w with
 | u τ x =>
  have h1 := h.1
  have h2 := h.2
  cases τ with
  | i k => exact flat_u h2 rfl
  | b => exact flat_u (τ := .b) h2 rfl
  | s => exact flat_u (τ := .s) h2 rfl
  | l m t => exact flat_u h2 rfl
  | fn a r => cases hw
  | cl a r => cases hw
  | _ => cases h1
 | nil => obtain ⟨z, rfl⟩ := h; exact flat_sl
 | _ => cases hw
theorem okR2_ok {w : W} {d : D} (h : Rep4 c w d) (hw : w.okR2 = true) : (∀ k l, d.frz2 k l = d) ∧ (∀ k, d.bnd2 k = true) ∧ Rep3 c w d := by
 cases w with
 | ag ws =>
  obtain ⟨cs, rfl, h2⟩ := h
  have key : ∀ {ws : List W} {cs : List D}, All2 (Rep2 c) ws cs -> ws.all W.okR = true -> (∀ k l, cs.map (D.frz1 k l) = cs) ∧ ∀ k, cs.all (D.bnd1 k) = true := by
   intro ws
   induction ws with
   | nil => intro cs h _; obtain rfl := h.nil_l; exact ⟨fun _ _ => rfl, fun _ => rfl⟩
   | cons w ws ih =>
    intro cs h hk
    obtain ⟨d, q, rfl, a1, a2⟩ := h.cons_l
    simp only [List.all_cons, Bool.and_eq_true] at hk
    have f := okR_flat (to4x2 a1) hk.1
    obtain ⟨i1, i2⟩ := ih a2 hk.2
    exact ⟨fun k l => by simp only [List.map_cons, f.frz, i1], fun k => by simp only [List.all_cons, f.bnd, i2, Bool.and_self]⟩
  obtain ⟨k1, k2⟩ := key h2 hw
  exact ⟨fun k l => by simp only [D.frz2, k1], k2, cs, rfl, h2⟩
 | u τ x =>
  have f := okR_flat h hw
  have e1 : ∀ {d : D}, d.aggB = false -> (∀ k l, d.frz2 k l = d.frz1 k l) ∧ ∀ k, d.bnd2 k = d.bnd1 k := fun {d} h => by cases d <;> first | exact ⟨fun _ _ => rfl, fun _ => rfl⟩ | cases h
  obtain ⟨k1, k2⟩ := e1 f.agg
  exact ⟨fun k l => by rw [k1, f.frz], fun k => by rw [k2, f.bnd], h⟩
 | nil =>
  have f := okR_flat h hw
  have e1 : ∀ {d : D}, d.aggB = false -> (∀ k l, d.frz2 k l = d.frz1 k l) ∧ ∀ k, d.bnd2 k = d.bnd1 k := fun {d} h => by cases d <;> first | exact ⟨fun _ _ => rfl, fun _ => rfl⟩ | cases h
  obtain ⟨k1, k2⟩ := e1 f.agg
  exact ⟨fun k l => by rw [k1, f.frz], fun k => by rw [k2, f.bnd], h⟩
 | _ => cases hw
theorem out_ok {r : Ty} {L : List Ty} {w : W} {ws : List W} {d : D} {ds : List D} {y : (oTy r L).T} (h : outT r L w ws = some y) (hr : r.fo = true) (hL : L = [] ∨ (tyOf L).fo = true) (hd : Rep4 c w d) (hds : All2 (Rep4 c) ws ds) :
  Rep4 (c0 c.P) (outW r L y).1 d ∧ (L ≠ [] -> All2 (Rep3 (c0 c.P)) (outW r L y).2 ds) := by
 have one : ∀ {r : Ty} {y : r.T}, r.fo = true -> resT r w = some y -> Rep4 (c0 c.P) (resW r y) d := fun hr h => by
  obtain ⟨k1, q, k2, k3⟩ := resT_ok h hd
  exact resW_ok (c := c0 c.P) k1 ⟨q, k2, RepL.fo hr k3⟩
 have rows : ∀ {L : List Ty} {z : (tyOf L).T}, (tyOf L).fo = true -> tupT (tyOf L) ws = some z -> All2 (Rep3 (c0 c.P)) (tupW (tyOf L) z) ds := fun hf h => by
  obtain ⟨k1, k2⟩ := tupT_ok h hds
  exact tupW_ok (c := c0 c.P) k1 (RepL.fo hf k2)
 cases L with
 | nil => cases r <;> exact ⟨one hr h, fun q => absurd rfl q⟩
 | cons a L =>
  have hf : (tyOf (a :: L)).fo = true := hL.resolve_left (by simp)
  cases r with
  | n =>
   obtain ⟨u, h1, h2⟩ := Option.bind_eq_some_iff.1 (show (resT .n w).bind (fun _ => tupT (tyOf (a :: L)) ws) = some y from h)
   exact ⟨one (r := .n) rfl h1, fun _ => rows hf h2⟩
  | t p q =>
   obtain ⟨x, h1, h2⟩ := Option.bind_eq_some_iff.1 (show (resT (.t p q) w).bind (fun x => (tupT (tyOf (a :: L)) ws).map fun y => (x, y)) = some y from h)
   obtain ⟨z, h3, h4⟩ := Option.map_eq_some_iff.1 h2
   subst h4
   exact ⟨one hr h1, fun _ => rows hf h3⟩
  | i k =>
   obtain ⟨x, h1, h2⟩ := Option.bind_eq_some_iff.1 (show (resT (.i k) w).bind (fun x => (tupT (tyOf (a :: L)) ws).map fun y => (x, y)) = some y from h)
   obtain ⟨z, h3, h4⟩ := Option.map_eq_some_iff.1 h2
   subst h4
   exact ⟨one hr h1, fun _ => rows hf h3⟩
  | b =>
   obtain ⟨x, h1, h2⟩ := Option.bind_eq_some_iff.1 (show (resT .b w).bind (fun x => (tupT (tyOf (a :: L)) ws).map fun y => (x, y)) = some y from h)
   obtain ⟨z, h3, h4⟩ := Option.map_eq_some_iff.1 h2
   subst h4
   exact ⟨one (r := .b) hr h1, fun _ => rows hf h3⟩
  | s =>
   obtain ⟨x, h1, h2⟩ := Option.bind_eq_some_iff.1 (show (resT .s w).bind (fun x => (tupT (tyOf (a :: L)) ws).map fun y => (x, y)) = some y from h)
   obtain ⟨z, h3, h4⟩ := Option.map_eq_some_iff.1 h2
   subst h4
   exact ⟨one (r := .s) hr h1, fun _ => rows hf h3⟩
  | l m q =>
   obtain ⟨x, h1, h2⟩ := Option.bind_eq_some_iff.1 (show (resT (.l m q) w).bind (fun x => (tupT (tyOf (a :: L)) ws).map fun y => (x, y)) = some y from h)
   obtain ⟨z, h3, h4⟩ := Option.map_eq_some_iff.1 h2
   subst h4
   exact ⟨one hr h1, fun _ => rows hf h3⟩
  | p p q =>
   obtain ⟨x, h1, h2⟩ := Option.bind_eq_some_iff.1 (show (resT (.p p q) w).bind (fun x => (tupT (tyOf (a :: L)) ws).map fun y => (x, y)) = some y from h)
   obtain ⟨z, h3, h4⟩ := Option.map_eq_some_iff.1 h2
   subst h4
   exact ⟨one hr h1, fun _ => rows hf h3⟩
  | g q =>
   obtain ⟨x, h1, h2⟩ := Option.bind_eq_some_iff.1 (show (resT (.g q) w).bind (fun x => (tupT (tyOf (a :: L)) ws).map fun y => (x, y)) = some y from h)
   obtain ⟨z, h3, h4⟩ := Option.map_eq_some_iff.1 h2
   subst h4
   exact ⟨one hr h1, fun _ => rows hf h3⟩
  | o p q =>
   obtain ⟨x, h1, h2⟩ := Option.bind_eq_some_iff.1 (show (resT (.o p q) w).bind (fun x => (tupT (tyOf (a :: L)) ws).map fun y => (x, y)) = some y from h)
   obtain ⟨z, h3, h4⟩ := Option.map_eq_some_iff.1 h2
   subst h4
   exact ⟨one hr h1, fun _ => rows hf h3⟩
  | fn p q => cases hr
  | cl p q =>
   obtain ⟨x, h1, h2⟩ := Option.bind_eq_some_iff.1 (show (resT (.cl p q) w).bind (fun x => (tupT (tyOf (a :: L)) ws).map fun y => (x, y)) = some y from h)
   obtain ⟨z, h3, h4⟩ := Option.map_eq_some_iff.1 h2
   subst h4
   exact ⟨one hr h1, fun _ => rows hf h3⟩
theorem rows_ok : ∀ {ak : List AK} {ws : List W} {ds : List D} {rg : List Rg} {Y0 : List (List D)} {xs : List (List W)} {Y : List (List D)}, ArgL c ak ws ds rg Y0 -> All2 (All2 (Rep2 c)) xs Y -> (∀ (i : Nat) r ys, rg[i]? = some r -> Y[i]? = some ys -> ys.length = r.z) -> Y.length = rg.length ->
  ∃ dx, All2 (Rep4 c) (RS.pack.xRows ak xs) dx ∧ ∀ {os : List W} {P : Caller}, os.all W.pf1 = true -> All2 (Rep3 (c0 P)) os dx -> OutL (c0 P) ak os Y
 | [], ws, ds, rg, Y0, xs, Y, ha, hx, hl, hn => by
  cases ws <;> cases ds <;> cases rg <;> cases Y0 <;> first | exact ha.elim | skip
  cases Y with
  | cons => simp at hn
  | nil =>
   refine ⟨[], by cases xs <;> exact trivial, fun {os P} hp h => ?_⟩
   obtain rfl := h.nil_r
   trivial
 | .v τ :: ak, ws, ds, rg, Y0, xs, Y, ha, hx, hl, hn => by
  cases ws with
  | nil => cases ds <;> cases rg <;> cases Y0 <;> exact ha.elim
  | cons w ws => cases ds with
   | nil => cases rg <;> cases Y0 <;> exact ha.elim
   | cons d ds =>
    have ha' : ArgL c ak ws ds rg Y0 := by cases rg <;> cases Y0 <;> exact ha.2
    obtain ⟨dx, h1, h2⟩ := rows_ok ha' hx hl hn
    exact ⟨dx, by cases xs <;> exact h1, fun {os P} hp h => by cases os <;> cases Y <;> exact h2 hp h⟩
 | .x τ :: ak, ws, ds, rg, Y0, xs, Y, ha, hx, hl, hn => by
  cases ws with
  | nil => cases ds <;> cases rg <;> cases Y0 <;> exact ha.elim
  | cons w ws => cases ds with
   | nil => cases rg <;> cases Y0 <;> exact ha.elim
   | cons d ds => cases rg with
    | nil => cases Y0 <;> exact ha.elim
    | cons g rg => cases Y0 with
     | nil => exact ha.elim
     | cons y0 Y0 => cases Y with
      | nil => simp at hn
      | cons y Y => cases xs with
       | nil => exact hx.elim
       | cons x xs =>
        obtain ⟨⟨a1, a2, a3, a4, a5⟩, a6⟩ := ha
        obtain ⟨dx, h1, h2⟩ := rows_ok a6 hx.2 (fun i r ys p q => hl (i + 1) r ys (by simpa using p) (by simpa using q)) (by simpa using hn)
        refine ⟨.agg y :: dx, ⟨⟨y, rfl, hx.1⟩, h1⟩, fun {os P} hp h => ?_⟩
        cases os with
        | nil => exact h.elim
        | cons o os =>
         simp only [List.all_cons, Bool.and_eq_true] at hp
         refine ⟨⟨by rw [hl 0 g y rfl rfl]; exact a3, ?_⟩, h2 hp.2 h.2⟩
         have := h.1
         have hp := hp.1
         cases o with
         | ag cs => obtain ⟨q, q1, q2⟩ := this; injection q1 with q1; subst q1; exact q2
         | u τ x => have h2 := this.2; have h1 := this.1; cases τ with
          | i k => cases (i_d h2).1
          | b => cases b_d h2
          | s => cases (s_d h2).1
          | l m t => obtain ⟨_, es, _, q | ⟨_, z, q⟩⟩ := l_d h2 <;> cases q
          | fn a r => obtain ⟨f, cs, q, _⟩ := fn_d h2; cases q
          | cl f r => obtain ⟨_, cs, q, _⟩ := cl_d h2; cases q
          | _ => cases h1
         | nil => obtain ⟨z, q⟩ := this; cases q
         | _ => cases hp
 | .o τ :: ak, ws, ds, rg, Y0, xs, Y, ha, hx, hl, hn => by
  cases ws with
  | nil => cases ds <;> cases rg <;> cases Y0 <;> exact ha.elim
  | cons w ws => cases ds with
   | nil => cases rg <;> cases Y0 <;> exact ha.elim
   | cons d ds => cases rg with
    | nil => cases Y0 <;> exact ha.elim
    | cons g rg => cases Y0 with
     | nil => exact ha.elim
     | cons y0 Y0 => cases Y with
      | nil => simp at hn
      | cons y Y => cases xs with
       | nil => exact hx.elim
       | cons x xs =>
        obtain ⟨⟨a1, a2, a3, a4, a5⟩, a6⟩ := ha
        obtain ⟨dx, h1, h2⟩ := rows_ok a6 hx.2 (fun i r ys p q => hl (i + 1) r ys (by simpa using p) (by simpa using q)) (by simpa using hn)
        exact ⟨dx, h1, fun {os P} hp h => by cases os <;> exact h2 hp h⟩
theorem su0_ok {c : Cx} : ∀ {ak : List AK} {ws : List W} {ds : List D} {rg0 rg : List Rg} {Y : List (List D)} {i : Nat}, c.rg = rg0 ++ rg -> ArgL c ak ws ds rg Y ->
  (∀ t, Rep4 c (getW t (su0 ak ws i rg0.length).1) (get t (argE i ds))) ∧ All2 (All2 (Rep2 c)) (su0 ak ws i rg0.length).2 Y ∧ wrs ak = rg.map Rg.w ∧ Y.length = rg.length
 | [], ws, ds, rg0, rg, Y, i, hrg, ha => by
  cases ws <;> cases ds <;> cases rg <;> cases Y <;> first | exact ha.elim | exact ⟨fun t => trivial, trivial, rfl, rfl⟩
 | a :: ak, [], ds, rg0, rg, Y, i, hrg, ha => by cases a <;> cases ds <;> cases rg <;> cases Y <;> exact ha.elim
 | a :: ak, w :: ws, [], rg0, rg, Y, i, hrg, ha => by cases a <;> cases rg <;> cases Y <;> exact ha.elim
 | .v τ :: ak, w :: ws, d :: ds, rg0, rg, Y, i, hrg, ha => by
  have ha1 : Rep3 c w d ∧ ArgL c ak ws ds rg Y := by cases rg <;> cases Y <;> exact ha
  obtain ⟨i1, i2, i3, i4⟩ := su0_ok (i := i + 1) hrg ha1.2
  refine ⟨fun t => ?_, i2, i3, i4⟩
  simp only [su0, argE, get_put]
  by_cases e : t = i
  ·subst e
   simp only [getW, Nat.beq_refl, cond_true, if_true]
   exact to4 ha1.1
  ·simp only [getW, nbeq_f e, cond_false, if_neg e]
   exact i1 t
 | .x τ :: ak, w :: ws, d :: ds, rg0, [], Y, i, hrg, ha => by cases Y <;> exact ha.elim
 | .x τ :: ak, w :: ws, d :: ds, rg0, g :: rg, [], i, hrg, ha => ha.elim
 | .x τ :: ak, w :: ws, d :: ds, rg0, g :: rg, y :: Y, i, hrg, ha => by
  obtain ⟨⟨a1, a2, a3, a4, a5⟩, a6⟩ := ha
  obtain ⟨i1, i2, i3, i4⟩ := su0_ok (rg0 := rg0 ++ [g]) (i := i + 1) (by rw [hrg]; simp) a6
  simp only [List.length_append, List.length_cons, List.length_nil, Nat.zero_add] at i1 i2
  refine ⟨fun t => ?_, ⟨a5, i2⟩, by simp only [wrs, List.map_cons, i3, a1], by simp [i4]⟩
  simp only [su0, argE, get_put]
  by_cases e : t = i
  ·subst e
   simp only [getW, Nat.beq_refl, cond_true, if_true]
   exact ⟨g, by rw [hrg]; simp, a2⟩
  ·simp only [getW, nbeq_f e, cond_false, if_neg e]
   exact i1 t
 | .o τ :: ak, w :: ws, d :: ds, rg0, [], Y, i, hrg, ha => by cases Y <;> exact ha.elim
 | .o τ :: ak, w :: ws, d :: ds, rg0, g :: rg, [], i, hrg, ha => ha.elim
 | .o τ :: ak, w :: ws, d :: ds, rg0, g :: rg, y :: Y, i, hrg, ha => by
  obtain ⟨⟨a1, a2, a3, a4, a5⟩, a6⟩ := ha
  obtain ⟨i1, i2, i3, i4⟩ := su0_ok (rg0 := rg0 ++ [g]) (i := i + 1) (by rw [hrg]; simp) a6
  simp only [List.length_append, List.length_cons, List.length_nil, Nat.zero_add] at i1 i2
  refine ⟨fun t => ?_, ⟨a5, i2⟩, by simp only [wrs, List.map_cons, i3, a1], by simp [i4]⟩
  simp only [su0, argE, get_put]
  by_cases e : t = i
  ·subst e
   simp only [getW, Nat.beq_refl, cond_true, if_true]
   exact ⟨g, by rw [hrg]; simp, a2⟩
  ·simp only [getW, nbeq_f e, cond_false, if_neg e]
   exact i1 t
theorem args_flat {c : Cx} : ∀ {ak : List AK} {ws : List W} {ds : List D} {rg : List Rg} {Y : List (List D)}, ArgL c ak ws ds rg Y -> ws.all W.pf1 = true -> ds.length = ak.length ∧ ds.all (fun d => !d.tupB) = true
 | [], ws, ds, rg, Y, ha, hp => by
  cases ws <;> cases ds <;> cases rg <;> cases Y <;> first | exact ha.elim | exact ⟨rfl, rfl⟩
 | a :: ak, [], ds, rg, Y, ha, hp => by cases a <;> cases ds <;> cases rg <;> cases Y <;> exact ha.elim
 | a :: ak, w :: ws, [], rg, Y, ha, hp => by cases a <;> cases rg <;> cases Y <;> exact ha.elim
 | .v τ :: ak, w :: ws, d :: ds, rg, Y, ha, hp => by
  have ha1 : Rep3 c w d ∧ ArgL c ak ws ds rg Y := by cases rg <;> cases Y <;> exact ha
  simp only [List.all_cons, Bool.and_eq_true] at hp
  obtain ⟨i1, i2⟩ := args_flat ha1.2 hp.2
  refine ⟨by simp [i1], ?_⟩
  rcases tup_d ha1.1 with q | q
  ·subst q; cases hp.1
  ·simp [q, i2]
 | .x τ :: ak, w :: ws, d :: ds, [], Y, ha, hp => by cases Y <;> exact ha.elim
 | .x τ :: ak, w :: ws, d :: ds, g :: rg, [], ha, hp => ha.elim
 | .x τ :: ak, w :: ws, d :: ds, g :: rg, y :: Y, ha, hp => by
  simp only [List.all_cons, Bool.and_eq_true] at hp
  obtain ⟨i1, i2⟩ := args_flat ha.2 hp.2
  rw [ha.1.2.1]
  exact ⟨by simp [i1], by simp only [List.all_cons, i2]; rfl⟩
 | .o τ :: ak, w :: ws, d :: ds, [], Y, ha, hp => by cases Y <;> exact ha.elim
 | .o τ :: ak, w :: ws, d :: ds, g :: rg, [], ha, hp => ha.elim
 | .o τ :: ak, w :: ws, d :: ds, g :: rg, y :: Y, ha, hp => by
  simp only [List.all_cons, Bool.and_eq_true] at hp
  obtain ⟨i1, i2⟩ := args_flat ha.2 hp.2
  rw [ha.1.2.1]
  exact ⟨by simp [i1], by simp only [List.all_cons, i2]; rfl⟩
theorem xsOf_fo : ∀ {ak : List AK}, (ak.all fun | .v τ => τ.val | .x r => r.rowk && r.fo | .o r => r.rowk && r.fo) = true -> ∀ τ ∈ xsOf ak, τ.fo = true
 | [], _, τ, h => by cases h
 | .v _ :: ak, hk, τ, h => by
  simp only [List.all_cons, Bool.and_eq_true] at hk
  exact xsOf_fo (ak := ak) hk.2 τ h
 | .o _ :: ak, hk, τ, h => by
  simp only [List.all_cons, Bool.and_eq_true] at hk
  exact xsOf_fo (ak := ak) hk.2 τ h
 | .x r :: ak, hk, τ, h => by
  simp only [List.all_cons, Bool.and_eq_true] at hk
  rcases List.mem_cons.1 h with rfl | h
  ·exact hk.1.2
  ·exact xsOf_fo (ak := ak) hk.2 τ h
noncomputable def run1 (F : Fn) (call : Caller) (ds : List D) (B : List Bx) : Option (D × List Bx) :=
 if ds.length <= F.nt ∧ ds.all (fun d => !d.tupB) = true then match evC call F.body ⟨argE 0 ds, [], B⟩ with
  | some (.ex _, _) => none
  | some (_, s) => (resL call F.res s).bind fun a =>
   let ds := a.1.map (D.frz2 B.length a.2.l)
   if ds.all (D.bnd2 B.length) then some (if F.keep then mkRes ds else (mkRes ds).strip, a.2.o) else none
  | none => none
 else none
theorem EF_run1 {pg : Nat -> Option Fn} {k : Nat} {F : Fn} (hp : pg k = some F) (hr : F.rnd = none) (ds : List D) (B : List Bx) : EF pg k ds B = run1 F (EF pg) ds B := by
 rw [EF_eq]
 unfold runF run1
 rw [hp]
 simp only [hr]
 rfl
def TOK1 (P : Caller) (R : List D -> List Bx -> Option (D × List Bx)) (tf : TF) : Prop := ∀ F n rg K Y, Cx.ok ⟨P, F, n, rg, K⟩ -> (∀ (i : Nat) r ys, rg[i]? = some r -> Y[i]? = some ys -> r.w = false -> ys = K i) ->
 ∀ (x : tf.sg.aT.T) ds, ArgL ⟨P, F, n, rg, K⟩ tf.sg.ak (argWs tf.sg x) ds rg Y -> ∀ y, tf.f x = some y -> ∃ d Y', Rep4 (c0 P) (outW tf.sg.res (xsOf tf.sg.ak) y).1 d ∧ OutL (c0 P) tf.sg.ak (outW tf.sg.res (xsOf tf.sg.ak) y).2 Y' ∧
  ∀ B, Fam ⟨P, F, n, rg, K⟩ B -> (∀ (i : Nat) r ys, rg[i]? = some r -> Y[i]? = some ys -> atR r ys B) -> R ds B = some (d, upd rg Y' B)
theorem tok_run {P : Caller} {F : Fn} {T : Tab} {sg : Sg} {t : Tc} {tf : TF} (hsg : tf.sg = sg) (hT : TabOk P T) (hF : F.rnd = none ∧ F.body = t.er ∧ sg.ak.length <= F.nt) (hok : sg.ok = true)
  (hR : RndOk P t) (hf : ∀ (x : tf.sg.aT.T) y, tf.f x = some y -> evFn T ⟨F.res, F.keep, tf.sg⟩ t x = some y) : TOK1 P (run1 F P) tf := by
 subst hsg
 intro F0 n rg K Y hc hK x ds harg y hy
 have hev := hf x y hy
 let c : Cx := ⟨P, F0, n, rg, K⟩
 have hlen := ArgL_len harg
 have hpf : (argWs tf.sg x).all W.pf1 = true := by
  unfold argWs
  split
  ·rfl
  ·exact pf_tup _ _
 obtain ⟨s1, s2, s3, s4⟩ := su0_ok (c := c) (rg0 := []) (rg := rg) (i := 0) rfl harg
 obtain ⟨d1, d2⟩ := args_flat harg hpf
 have hY : ∀ (i : Nat) r ys, rg[i]? = some r -> Y[i]? = some ys -> ys.length = r.z ∧ (r.w = false -> ys = K i) := fun i r ys a b => by
  obtain ⟨y', y1, y2⟩ := hlen i r a
  rw [b] at y1
  have := Option.some.inj y1
  subst this
  exact ⟨y2, hK i r ys a b⟩
 have hS : RepS c ⟨(su0 tf.sg.ak (argWs tf.sg x) 0 0).1, [], [], (su0 tf.sg.ak (argWs tf.sg x) 0 0).2, wrs tf.sg.ak⟩ (argE 0 ds) [] Y :=
  ⟨fun t => Rep5_of (s1 t), (fun b ws h => by cases h), (fun b h => absurd rfl h), s2, s3, s4, hY⟩
 have hev : evT T ⟨F.res, F.keep, tf.sg⟩ t ⟨(su0 tf.sg.ak (argWs tf.sg x) 0 0).1, [], [], (su0 tf.sg.ak (argWs tf.sg x) 0 0).2, wrs tf.sg.ak⟩ (RS.pack ⟨F.res, F.keep, tf.sg⟩) (fun _ _ => none) some = some y := hev
 obtain ⟨xx, s', e', l', Y', g1, g2, g3⟩ := evT_ok _ t (c := c) hc hT hR hS hev
 have hpack : RS.pack ⟨F.res, F.keep, tf.sg⟩ s' = some y := by
  cases xx with
  | nm => exact g3
  | ex i => cases g3.2
  | rt =>
   have g3 : (RS.pack ⟨F.res, F.keep, tf.sg⟩ s').bind some = some y ∨ (none : Option tf.sg.oT.T) = some y := g3
   rcases g3 with g3 | g3
   ·simpa using g3
   ·cases g3
 have hxx : ∀ i, xx ≠ .ex i := fun i h => by subst h; cases g3.2
 unfold RS.pack at hpack
 obtain ⟨q, q1, q2⟩ := Option.bind_eq_some_iff.1 hpack
 by_cases hall : q.1.all W.okR2 = true
 ·have q2 : (if q.1.all W.okR2 = true then outT tf.sg.res (xsOf tf.sg.ak) (if F.keep = true then mkResW q.1 else (mkResW q.1).strip) (RS.pack.xRows tf.sg.ak q.2.x) else none) = some y := q2
  rw [if_pos hall] at q2
  obtain ⟨dr, e2, l2, Y2, r1, r2, r3⟩ := resLW_ok hc g1 q1
  have hres : (∀ k l, dr.map (D.frz2 k l) = dr) ∧ (∀ k, dr.all (D.bnd2 k) = true) ∧ All2 (Rep3 c) q.1 dr := by
   have : ∀ {ws : List W} {ds : List D}, All2 (Rep4 c) ws ds -> ws.all W.okR2 = true -> (∀ k l, ds.map (D.frz2 k l) = ds) ∧ (∀ k, ds.all (D.bnd2 k) = true) ∧ All2 (Rep3 c) ws ds := by
    intro ws
    induction ws with
    | nil => intro ds h _; obtain rfl := h.nil_l; exact ⟨fun _ _ => rfl, fun _ => rfl, trivial⟩
    | cons w ws ih =>
     intro ds h hk
     obtain ⟨d, q, rfl, a1, a2⟩ := h.cons_l
     simp only [List.all_cons, Bool.and_eq_true] at hk
     obtain ⟨k1, k2, k3⟩ := okR2_ok a1 hk.1
     obtain ⟨i1, i2, i3⟩ := ih a2 hk.2
     exact ⟨fun k l => by simp only [List.map_cons, k1, i1], fun k => by simp only [List.all_cons, k2, i2, Bool.and_self], k3, i3⟩
   exact this r2 hall
  obtain ⟨f1, f2, f3⟩ := hres
  have hmk : Rep4 c (mkResW q.1) (mkRes dr) := by
   have : ∀ {ws : List W} {ds : List D}, All2 (Rep3 c) ws ds -> Rep4 c (mkResW ws) (mkRes ds) := by
    intro ws ds h
    match ws, ds, h with
    | [], [], h => exact ⟨[], rfl, trivial⟩
    | [w], [d], h => exact to4 h.1
    | w :: w2 :: ws, d :: d2 :: ds, h => exact ⟨_, rfl, h⟩
    | [], _ :: _, h => exact h.elim
    | [_], [], h => exact h.elim
    | [_], _ :: _ :: _, h => exact h.2.elim
    | _ :: _ :: _, [], h => exact h.elim
    | _ :: _ :: _, [_], h => exact h.2.elim
   exact this f3
  have hfin : Rep4 c (if F.keep then mkResW q.1 else (mkResW q.1).strip) (if F.keep then mkRes dr else (mkRes dr).strip) := by
   cases F.keep
   ·exact strip_ok hmk
   ·exact hmk
  obtain ⟨dx, x1, x2⟩ := rows_ok (c := c) harg r1.ext (fun i r ys a b => (r1.ro i r ys a b).1) r1.len
  have hok' := hok
  simp only [Sg.ok, Bool.and_eq_true] at hok'
  obtain ⟨o1, o2⟩ := out_ok (c := c) q2 hok'.1.1 (by
   cases hx : xsOf tf.sg.ak with
   | nil => exact .inl rfl
   | cons a L => exact .inr (fo_tyOf fun τ hτ => xsOf_fo hok'.2 τ (by rw [hx]; exact hτ))) hfin x1
  refine ⟨if F.keep then mkRes dr else (mkRes dr).strip, Y2, o1, ?_, fun B hB hat => ?_⟩
  ·by_cases hx : xsOf tf.sg.ak = []
   ·have hw : (outW tf.sg.res (xsOf tf.sg.ak) y).2 = [] := by
     have : ∀ {r : Ty} {L : List Ty} {y : (oTy r L).T}, L = [] -> (outW r L y).2 = [] := by
      intro r L y h; subst h; cases r <;> rfl
     exact this hx
    have hdx : dx = [] := by
     have : ∀ {ak : List AK} {xs : List (List W)}, xsOf ak = [] -> RS.pack.xRows ak xs = [] := by
      intro ak
      induction ak with
      | nil => intro xs _; cases xs <;> rfl
      | cons a ak ih =>
       intro xs h
       cases a with
       | v τ => cases xs <;> exact ih h
       | o τ => cases xs with
        | nil => rfl
        | cons x xs => exact ih h
       | x τ => cases h
     rw [this hx] at x1
     exact x1.nil_l
    rw [hw]
    exact x2 rfl (by rw [hdx]; trivial)
   ·exact x2 (pf_out _ _ _).2 (o2 hx)
  ·have hB' : Fam c B := hB
   have hid : upd rg Y B = B := upd_id fun i r ys a b _ => hat i r ys a b
   unfold run1
   rw [if_pos ⟨by rw [d1]; exact hF.2.2, d2⟩, hF.2.1]
   have g2 := g2 B hB'
   rw [show upd c.rg Y B = B from hid] at g2
   rw [g2]
   have r3 := r3 B hB'
   have fin : (resL P F.res ⟨e', l', upd c.rg Y' B⟩).bind (fun a => if (a.1.map (D.frz2 B.length a.2.l)).all (D.bnd2 B.length) = true then some (if F.keep = true then mkRes (a.1.map (D.frz2 B.length a.2.l)) else (mkRes (a.1.map (D.frz2 B.length a.2.l))).strip, a.2.o) else none) = some (if F.keep then mkRes dr else (mkRes dr).strip, upd rg Y2 B) := by
    rw [r3]
    simp only [Option.bind_some, f1, f2, if_true]
   cases xx with
   | nm => exact fin
   | ex i => exact absurd rfl (hxx i)
   | rt => exact fin
 ·have q2 : (if q.1.all W.okR2 = true then outT tf.sg.res (xsOf tf.sg.ak) (if F.keep = true then mkResW q.1 else (mkResW q.1).strip) (RS.pack.xRows tf.sg.ak q.2.x) else none) = some y := q2
  rw [if_neg hall] at q2
  cases q2
theorem tok_of {pg : Nat -> Option Fn} {k : Nat} {F : Fn} {T : Tab} {sg : Sg} {t : Tc} {tf : TF} (hp : pg k = some F) (hsg : tf.sg = sg) (hT : TabOk (EF pg) T) (hF : F.rnd = none ∧ F.body = t.er ∧ sg.ak.length <= F.nt) (hok : sg.ok = true)
  (hR : RndOk (EF pg) t) (hg : GOK (EF pg) k tf) (hf : ∀ (x : tf.sg.aT.T) y, tf.f x = some y -> evFn T ⟨F.res, F.keep, tf.sg⟩ t x = some y) : TOK (EF pg) k tf := by
 refine ⟨?_, hg⟩
 intro F0 n rg K Y hc hK x ds harg y hy
 obtain ⟨d, Y', h1, h2, h3⟩ := tok_run hsg hT hF hok hR hf F0 n rg K Y hc hK x ds harg y hy
 exact ⟨d, Y', h1, h2, fun B hB hat => (EF_run1 hp hF.1 ds B).trans (h3 B hB hat)⟩
end
theorem tok_list {P : Caller} {k : Nat} {a r : Ty} {h : r.T -> Option (List a.T)} (hg : GOK P k (.gen a r h)) : TOK P k (.gen a r h) := ⟨fun F n rg K Y hc hK x ds ha y hy => (by cases hy), hg⟩
theorem rnd_of {pg : Nat -> Option Fn} {rid : Nat} {F : Fn} {ps : List Nat} {asg body : Tc} (hp : pg rid = some F) (hr : F.rnd = some (ps, asg.er)) (hb : F.body = body.er) (ha : RndOk (EF pg) asg) (hbo : RndOk (EF pg) body) :
  (∀ f b args B, EF pg rid (.yld f b :: args) B = runR (EF pg) ⟨0, false, [], some (ps, asg.er), body.er⟩ ps asg.er rid f b args B) ∧ RndOk (EF pg) asg ∧ RndOk (EF pg) body := by
 refine ⟨fun f b args B => ?_, ha, hbo⟩
 rw [EF_eq]
 unfold runF
 simp only [hp, hr]
 unfold runR
 rw [hb]
end Go.Proofs.Ytlhjdikklmkihaa.Ev.U
namespace Go.Proofs.Ytlhjdikklmkihaa.Ev.U
open Go
abbrev u_ (t : Nat) (op : Op) : TStp := ⟨some t, none, op, .n⟩
abbrev un_ (op : Op) : TStp := ⟨none, none, op, .n⟩
abbrev ug_ (q : Nat) (w : Bool) (t : Nat) (op : Op) : TStp := ⟨some t, some (q, w), op, .n⟩
def tabU : List (Nat × TF) -> Tab
 | [], _ => none
 | (k, tf) :: r, n => bif Nat.beq n k then some tf else tabU r n
theorem tabU_nil {P : Caller} : TabOk P (tabU []) := fun k tf h => by cases h
theorem tabU_cons {P : Caller} {k : Nat} {tf : TF} {l : List (Nat × TF)} (h : TOK P k tf) (hl : TabOk P (tabU l)) : TabOk P (tabU ((k, tf) :: l)) := fun n t hn => by
 simp only [tabU] at hn
 by_cases e : n = k
 ·subst e
  rw [Nat.beq_refl, cond_true] at hn
  have := Option.some.inj hn
  subst this
  exact h
 ·rw [nbeq_f e, cond_false] at hn
  exact hl n t hn
theorem lpU_eq {σ ξ : Type} (body : σ -> Option (σ ⊕ ξ)) (s : σ) : lpU body s = match body s with
  | none => none
  | some (.inl s') => lpU body s'
  | some (.inr x) => some x := by
 have hm : ∀ (s : σ) (n : Nat) (r : ξ), itU body n s = some r -> itU body (n + 1) s = some r := by
  intro s n
  induction n generalizing s with
  | zero => intro r h; cases h
  | succ n ih =>
   intro r h
   unfold itU at h ⊢
   cases hb : body s with
   | none => rw [hb] at h; cases h
   | some q =>
    rw [hb] at h
    cases q with
    | inl s' => exact ih s' r h
    | inr x => exact h
 have a : ∀ r, lpU body s = some r -> (match body s with
  | none => none
  | some (.inl s') => lpU body s'
  | some (.inr x) => some x) = some r := by
  intro r h
  obtain ⟨n, hn⟩ := lim_ex h
  cases n with
  | zero => cases hn
  | succ n =>
   unfold itU at hn
   cases hb : body s with
   | none => rw [hb] at hn; cases hn
   | some q =>
    rw [hb] at hn
    cases q with
    | inl s' => exact lim_eq (hm s') hn
    | inr x => exact hn
 have b : ∀ r, (match body s with
  | none => none
  | some (.inl s') => lpU body s'
  | some (.inr x) => some x) = some r -> lpU body s = some r := by
  intro r h
  cases hb : body s with
  | none => rw [hb] at h; cases h
  | some q =>
   rw [hb] at h
   cases q with
   | inl s' =>
    obtain ⟨n, hn⟩ := lim_ex (show lpU body s' = some r from h)
    exact lim_eq (hm s) (n := n + 1) (by unfold itU; rw [hb]; exact hn)
   | inr x => exact lim_eq (hm s) (n := 1) (by unfold itU; rw [hb]; exact h)
 cases h : lpU body s with
 | some r => exact (a r h).symm
 | none =>
  generalize hR : (match body s with
   | none => none
   | some (.inl s') => lpU body s'
   | some (.inr x) => some x) = R
  cases R with
  | none => rfl
  | some r => rw [b r hR] at h; cases h
end Go.Proofs.Ytlhjdikklmkihaa.Ev.U
namespace Go.Proofs.Ytlhjdikklmkihaa.Ev
open Go
def lst (m : Mode) (z : Nat) (q : Bool) (xs : List D) : D := if (q && xs.isEmpty) = true then .sl .nl 0 [] else .sl m z xs
theorem lst_f {m : Mode} {z : Nat} {xs : List D} : lst m z false xs = .sl m z xs := by simp [lst]
def aggE (P : Program) (t : TypeId) : Bool := match P.underlying t with
 | some (.struct _) => true
 | some (.array _ _) => true
 | _ => false
def mkV (P : Program) (t : TypeId) (ds : List D) : D := if aggE P t = true then .agg ds else ds.headD .u
inductive RD (P : Program) : TypeId -> List D -> Prop
 | bool (t : TypeId) (b : Bool) (h : P.underlying t = some .bool) : RD P t [.v (.bool b)]
 | int (t : TypeId) (k : IntKind) (n : Int) (h : P.underlying t = some (.int k)) (hw : (Lit.int k n).wf = true) : RD P t [.v (.int k n)]
 | str (t : TypeId) (s : ByteArray) (h : P.underlying t = some .string) (hs : s.size <= maxLen) : RD P t [.v (.string s)]
 | sl (t e : TypeId) (q : Bool) (xs : List (List D)) (h : P.underlying t = some (.slice e)) (hn : xs.length <= maxLen) (hx : ∀ (i : Nat) x, xs[i]? = some x -> RD P e x) : RD P t [lst .ro (P.cellsOf e) q (xs.map (mkV P e))]
 | st (t : TypeId) (fs : Array Field) (xs : List (List D)) (h : P.underlying t = some (.struct fs)) (hl : xs.length = fs.size) (hx : ∀ (i : Nat) f x, fs[i]? = some f -> xs[i]? = some x -> RD P f.type x) : RD P t xs.flatten
 | arr (t e : TypeId) (n : Nat) (xs : List (List D)) (h : P.underlying t = some (.array n e)) (hl : xs.length = n) (hx : ∀ (i : Nat) x, xs[i]? = some x -> RD P e x) : RD P t xs.flatten
section
variable {P : Program} {t e : TypeId} {ds : List D}
theorem RD.und (h : RD P t ds) : (∃ b, P.underlying t = some .bool ∧ ds = [.v (.bool b)]) ∨ (∃ k n, P.underlying t = some (.int k) ∧ (Lit.int k n).wf = true ∧ ds = [.v (.int k n)]) ∨ (∃ s, P.underlying t = some .string ∧ s.size <= maxLen ∧ ds = [.v (.string s)]) ∨
  (∃ (e : TypeId) (q : Bool) (xs : List (List D)), P.underlying t = some (.slice e) ∧ (xs.length <= maxLen ∧ ∀ (i : Nat) x, xs[i]? = some x -> RD P e x) ∧ ds = [lst .ro (P.cellsOf e) q (xs.map (mkV P e))]) ∨
  (∃ (fs : Array Field) (xs : List (List D)), P.underlying t = some (.struct fs) ∧ xs.length = fs.size ∧ (∀ (i : Nat) f x, fs[i]? = some f -> xs[i]? = some x -> RD P f.type x) ∧ ds = xs.flatten) ∨
  (∃ (n : Nat) (e : TypeId) (xs : List (List D)), P.underlying t = some (.array n e) ∧ xs.length = n ∧ (∀ (i : Nat) x, xs[i]? = some x -> RD P e x) ∧ ds = xs.flatten) := by
 cases h with
 | bool _ b h => exact .inl ⟨b, h, rfl⟩
 | int _ k n h hw => exact .inr (.inl ⟨k, n, h, hw, rfl⟩)
 | str _ s h hs => exact .inr (.inr (.inl ⟨s, h, hs, rfl⟩))
 | sl _ e q xs h hn hx => exact .inr (.inr (.inr (.inl ⟨e, q, xs, h, ⟨hn, hx⟩, rfl⟩)))
 | st _ fs xs h hl hx => exact .inr (.inr (.inr (.inr (.inl ⟨fs, xs, h, hl, hx, rfl⟩))))
 | arr _ e n xs h hl hx => exact .inr (.inr (.inr (.inr (.inr ⟨n, e, xs, h, hl, hx, rfl⟩))))
theorem RD.bool' (hu : P.underlying t = some .bool) (hh : RD P t ds) : ∃ b, ds = [.v (.bool b)] := by
 rcases hh.und with ⟨b, h, hw⟩ | ⟨k', n, h, hw⟩ | ⟨s, h, hw⟩ | ⟨e', q, xs, h, hw⟩ | ⟨fs', xs, h, hw⟩ | ⟨n', e', xs, h, hw⟩ <;> rw [hu] at h <;> cases h
 exact ⟨b, hw⟩
theorem RD.int' {k : IntKind} (hu : P.underlying t = some (.int k)) (hh : RD P t ds) : ∃ n, (Lit.int k n).wf = true ∧ ds = [.v (.int k n)] := by
 rcases hh.und with ⟨b, h, hw⟩ | ⟨k', n, h, hw⟩ | ⟨s, h, hw⟩ | ⟨e', q, xs, h, hw⟩ | ⟨fs', xs, h, hw⟩ | ⟨n', e', xs, h, hw⟩ <;> rw [hu] at h <;> cases h
 exact ⟨n, hw⟩
theorem RD.str' (hu : P.underlying t = some .string) (hh : RD P t ds) : ∃ s, s.size <= maxLen ∧ ds = [.v (.string s)] := by
 rcases hh.und with ⟨b, h, hw⟩ | ⟨k', n, h, hw⟩ | ⟨s, h, hw⟩ | ⟨e', q, xs, h, hw⟩ | ⟨fs', xs, h, hw⟩ | ⟨n', e', xs, h, hw⟩ <;> rw [hu] at h <;> cases h
 exact ⟨s, hw⟩
theorem RD.sl' (hu : P.underlying t = some (.slice e)) (hh : RD P t ds) : ∃ (q : Bool) (xs : List (List D)), (xs.length <= maxLen ∧ ∀ x, x ∈ xs -> RD P e x) ∧ ds = [lst .ro (P.cellsOf e) q (xs.map (mkV P e))] := by
 rcases hh.und with ⟨b, h, hw⟩ | ⟨k', n, h, hw⟩ | ⟨s, h, hw⟩ | ⟨e', q, xs, h, hw⟩ | ⟨fs', xs, h, hw⟩ | ⟨n', e', xs, h, hw⟩ <;> rw [hu] at h <;> cases h
 exact ⟨q, xs, ⟨hw.1.1, fun x hm => by obtain ⟨i, hi⟩ := List.mem_iff_getElem?.1 hm; exact hw.1.2 i x hi⟩, hw.2⟩
theorem RD.st' {fs : Array Field} (hu : P.underlying t = some (.struct fs)) (hh : RD P t ds) : ∃ xs : List (List D), xs.length = fs.size ∧ (∀ (i : Nat) f x, fs[i]? = some f -> xs[i]? = some x -> RD P f.type x) ∧ ds = xs.flatten := by
 rcases hh.und with ⟨b, h, hw⟩ | ⟨k', n, h, hw⟩ | ⟨s, h, hw⟩ | ⟨e', q, xs, h, hw⟩ | ⟨fs', xs, h, hw⟩ | ⟨n', e', xs, h, hw⟩ <;> rw [hu] at h <;> cases h
 exact ⟨xs, hw⟩
theorem RD.arr' {n : Nat} (hu : P.underlying t = some (.array n e)) (hh : RD P t ds) : ∃ xs : List (List D), xs.length = n ∧ (∀ (i : Nat) x, xs[i]? = some x -> RD P e x) ∧ ds = xs.flatten := by
 rcases hh.und with ⟨b, h, hw⟩ | ⟨k', n, h, hw⟩ | ⟨s, h, hw⟩ | ⟨e', q, xs, h, hw⟩ | ⟨fs', xs, h, hw⟩ | ⟨n', e', xs, h, hw⟩ <;> rw [hu] at h <;> cases h
 exact ⟨xs, hw⟩
theorem lst_cells {m : Mode} {z : Nat} {q : Bool} {xs : List D} : (lst m z q xs).cells = [lst m z q xs] := by unfold lst; split <;> rfl
theorem mkV_cells (hh : RD P t ds) : (mkV P t ds).cells = ds := by
 rcases hh.und with ⟨_, h, rfl⟩ | ⟨k', n, h, hw, rfl⟩ | ⟨_, h, _, rfl⟩ | ⟨_, q, xs, h, hx, rfl⟩ | ⟨_, xs, h, hl, hx, rfl⟩ | ⟨_, _, xs, h, hl, hx, rfl⟩ <;> simp only [mkV, aggE, h, Bool.false_eq_true, ↓reduceIte, List.headD_cons]
 ·rfl
 ·rfl
 ·rfl
 ·exact lst_cells
 ·rfl
 ·rfl
end
def contig (P : Program) : Nat -> List Field -> Nat -> Bool
 | o, [], n => o == n
 | o, f :: fs, n => f.offset == o && contig P (o + P.cellsOf f.type) fs n
def okTy (P : Program) : Nat -> TypeId -> Bool
 | 0, _ => false
 | k + 1, t => match P.underlying t with
  | some .bool => true
  | some (.int _) => true
  | some .string => true
  | some (.slice e) => okTy P k e && decide (0 < P.cellsOf e)
  | some (.struct fs) => contig P 0 fs.toList (P.cellsOf t) && fs.toList.all fun f => okTy P k f.type
  | some (.array n e) => okTy P k e && P.cellsOf t == n * P.cellsOf e
  | _ => false
section
variable {H : Type} {enc : TypeId × Value -> H} {P : Program} {w : World} {base : Nat} {sp : Nat -> Bool} {held : Bool} {fr : Nat -> Nat}
def Tl (w : World) (fr : Nat -> Nat) (cs : List Value) (ds : List D) : Prop := ds.length = cs.length ∧ ∀ (i : Nat) v c, cs[i]? = some v -> ds[i]? = some c -> RF w fr v c
theorem Tl.one {v : Value} {d : D} (h : RF w fr v d) : Tl w fr [v] [d] := ⟨rfl, fun i v' c h1 h2 => by
 cases i with
 | zero => simp at h1 h2; subst h1 h2; exact h
 | succ i => simp at h1⟩
theorem Tl.app {a b : List Value} {x y : List D} (h : Tl w fr a x) (k : Tl w fr b y) : Tl w fr (a ++ b) (x ++ y) := by
 refine ⟨by rw [List.length_append, List.length_append, h.1, k.1], fun i v c h1 h2 => ?_⟩
 rcases Nat.lt_or_ge i a.length with hi | hi
 ·rw [List.getElem?_append_left hi] at h1
  rw [List.getElem?_append_left (by rw [h.1]; exact hi)] at h2
  exact h.2 i v c h1 h2
 ·rw [List.getElem?_append_right hi] at h1
  rw [List.getElem?_append_right (by rw [h.1]; exact hi), h.1] at h2
  exact k.2 _ v c h1 h2
theorem tl_fields {Q : TypeId -> List D -> Prop} {cs : List Value} : ∀ (fs : List Field) (o : Nat), contig P o fs cs.length = true -> (∀ f ∈ fs, ∃ ds, Q f.type ds ∧ Tl w fr ((cs.drop f.offset).take (P.cellsOf f.type)) ds) ->
  ∃ xs : List (List D), xs.length = fs.length ∧ (∀ (i : Nat) f x, fs[i]? = some f -> xs[i]? = some x -> Q f.type x) ∧ Tl w fr (cs.drop o) xs.flatten
 | [], o, h, _ => by
  simp only [contig, beq_iff_eq] at h
  refine ⟨[], rfl, fun i f x h => by simp at h, ?_⟩
  rw [h, List.drop_length]
  exact ⟨rfl, fun i v c h => by simp at h⟩
 | f :: fs, o, h, hf => by
  simp only [contig, Bool.and_eq_true, beq_iff_eq] at h
  obtain ⟨ho, h⟩ := h
  obtain ⟨ds, h1, h2⟩ := hf f (List.mem_cons_self ..)
  obtain ⟨xs, h3, h4, h5⟩ := tl_fields fs _ h (fun g hg => hf g (List.mem_cons_of_mem _ hg))
  refine ⟨ds :: xs, by simp [h3], fun i g x hg hx => ?_, ?_⟩
  ·cases i with
   | zero => simp at hg hx; subst hg hx; exact h1
   | succ i => simp at hg hx; exact h4 i g x hg hx
  ·rw [ho] at h2
   have e : cs.drop o = (cs.drop o).take (P.cellsOf f.type) ++ cs.drop (o + P.cellsOf f.type) := by rw [<- List.drop_drop, List.take_append_drop]
   rw [e, List.flatten_cons]
   exact h2.app h5
theorem tl_elems {Q : List D -> Prop} {cs : List Value} {z : Nat} : ∀ (m o : Nat), cs.length = (o + m) * z -> (∀ i, o <= i -> i < o + m -> ∃ ds, Q ds ∧ Tl w fr ((cs.drop (i * z)).take z) ds) ->
  ∃ xs : List (List D), xs.length = m ∧ (∀ (i : Nat) x, xs[i]? = some x -> Q x) ∧ Tl w fr (cs.drop (o * z)) xs.flatten
 | 0, o, h, _ => by
  refine ⟨[], rfl, fun i x h => by simp at h, ?_⟩
  rw [Nat.add_zero] at h
  rw [<- h, List.drop_length]
  exact ⟨rfl, fun i v c h => by simp at h⟩
 | m + 1, o, h, hf => by
  obtain ⟨ds, h1, h2⟩ := hf o (Nat.le_refl _) (by omega)
  obtain ⟨xs, h3, h4, h5⟩ := tl_elems m (o + 1) (by rw [h]; congr 1; omega) (fun i h1 h2 => hf i (by omega) (by omega))
  refine ⟨ds :: xs, by simp [h3], fun i x hx => ?_, ?_⟩
  ·cases i with
   | zero => simp at hx; subst hx; exact h1
   | succ i => simp at hx; exact h4 i x hx
  ·have e : cs.drop (o * z) = (cs.drop (o * z)).take z ++ cs.drop ((o + 1) * z) := by rw [Nat.add_mul, Nat.one_mul, <- List.drop_drop, List.take_append_drop]
   rw [e, List.flatten_cons]
   exact h2.app h5
theorem cells?_get {base : Nat} {a : Addr} {n : Nat} {vs : List Value} (h : w.cells? base a n = some vs) : vs.length = n ∧ ∀ i, i < n -> w.cell? (a.add i) = vs[i]? := by
 unfold World.cells? at h
 split at h
 ·refine ⟨by simpa using mapM_some_length h, fun i hi => ?_⟩
  exact mapM_some_get h i i (by rw [List.getElem?_range hi])
 ·cases h
theorem spot_of {a : Addr} {k : Nat} {v : Value} (h : w.cell? (a.add 0) = some v) : a.spot = none := by
 simp only [Addr.add, ↓reduceIte] at h
 unfold World.cell? at h
 split at h
 ·split at h
  ·cases h
  ·rename_i hs
   cases hq : a.spot with
   | none => rfl
   | some _ => rw [hq] at hs; exact absurd rfl hs
 ·cases h
theorem read_tl (hsp : ∀ b, sp b = true) (hfr : ∀ b o, (w.cell? ⟨b, o, none⟩).isSome -> o < fr b) : ∀ (k : Nat) (t : TypeId), okTy P k t = true -> ∀ (n : Nat) (cs : List Value) (x : DataW H × List MemPlace), DataW.trod enc P w base sp held n t cs = some x -> ∃ ds, RD P t ds ∧ Tl w fr cs ds
 | 0, _, h => by cases h
 | k + 1, t, h => by
  intro n cs x hx
  unfold okTy at h
  split at h
  ·rename_i hu
   obtain ⟨b, rfl, _⟩ := DataW.trod_bool hu hx
   exact ⟨_, .bool t b hu, .one (.v _ rfl)⟩
  ·rename_i hu
   obtain ⟨m, rfl, _, hw⟩ := DataW.trod_int hu hx
   exact ⟨_, .int t _ m hu hw, .one (.v _ rfl)⟩
  ·rename_i hu
   obtain ⟨s, rfl, _, hs⟩ := DataW.trod_string hu hx
   exact ⟨_, .str t s hu hs, .one (.v _ rfl)⟩
  ·rename_i e hu
   rw [Bool.and_eq_true, decide_eq_true_eq] at h
   obtain ⟨h, hz⟩ := h
   rcases DataW.trod_slice hu hx with ⟨rfl, _⟩ | ⟨a, len, cap, elems, rest, m, _, rfl, _, _, hlc, hcap, hlen, hel, hrest, _⟩
   ·refine ⟨_, .sl t e true [] hu (Nat.zero_le _) (fun i x h => by simp at h), .one ?_⟩
    exact .nl 0
   ·have each : ∀ i, i < len -> ∃ vs ds, (∀ j, j < P.cellsOf e -> w.cell? ((a.add (i * P.cellsOf e)).add j) = vs[j]?) ∧ vs.length = P.cellsOf e ∧ RD P e ds ∧ Tl w fr vs ds := by
     intro i hi
     have h1 := hel i hi
     rw [List.getElem?_eq_getElem (by omega)] at h1
     cases hc : w.cells? base (a.add (i * P.cellsOf e)) (P.cellsOf e) with
     | none => rw [hc] at h1; cases h1
     | some vs =>
      rw [hc] at h1
      obtain ⟨ds, h2, h3⟩ := read_tl hsp hfr k e h m vs _ h1
      obtain ⟨h4, h5⟩ := cells?_get hc
      exact ⟨vs, ds, h5, h4, h2, h3⟩
    have all : ∃ xs : List (List D), xs.length = len ∧ ∀ (i : Nat) x, xs[i]? = some x -> RD P e x ∧ ∃ vs : List Value, (∀ j, j < P.cellsOf e -> w.cell? ((a.add (i * P.cellsOf e)).add j) = vs[j]?) ∧ vs.length = P.cellsOf e ∧ Tl w fr vs x := by
     clear hx hel hlen hlc hcap hrest
     induction len with
     | zero => exact ⟨[], rfl, fun i x h => by simp at h⟩
     | succ len ih =>
      obtain ⟨xs, h1, h2⟩ := ih (fun i hi => each i (by omega))
      obtain ⟨vs, ds, h3, h4, h5, h6⟩ := each len (by omega)
      refine ⟨xs ++ [ds], by simp [h1], fun i x hx => ?_⟩
      rcases Nat.lt_trichotomy i xs.length with hi | hi | hi
      ·rw [List.getElem?_append_left hi] at hx; exact h2 i x hx
      ·rw [List.getElem?_append_right (by omega), hi, Nat.sub_self] at hx
       simp at hx
       subst hx
       rw [hi, h1]
       exact ⟨h5, vs, h3, h4, h6⟩
      ·rw [List.getElem?_append_right (by omega)] at hx
       have : i - xs.length ≠ 0 := by omega
       cases hk : i - xs.length with
       | zero => omega
       | succ q => rw [hk] at hx; simp at hx
    obtain ⟨xs, h1, h2⟩ := all
    refine ⟨_, .sl t e false xs hu (by omega) (fun i x hx => (h2 i x hx).1), .one ?_⟩
    rw [lst_f]
    rcases Nat.eq_zero_or_pos len with h0 | h0
    ·subst h0
     obtain rfl : xs = [] := List.eq_nil_of_length_eq_zero h1
     rcases Nat.eq_zero_or_pos cap with c0 | c0
     ·subst c0
      exact .z a _
     ·obtain ⟨r1, r2⟩ := hrest (hsp _)
      have r3 := r2 0 (by omega)
      rw [List.getElem?_eq_getElem (by omega)] at r3
      cases hc : w.cells? base (a.add ((0 + 0) * P.cellsOf e)) (P.cellsOf e) with
      | none => rw [hc] at r3; cases r3
      | some vs =>
       obtain ⟨h4, h5⟩ := cells?_get hc
       have h6 := h5 0 hz
       rw [List.getElem?_eq_getElem (by omega), Nat.add_zero, Nat.zero_mul] at h6
       have hsp' : a.spot = none := spot_of (k := 0) (by simpa [Addr.add] using h6)
       obtain ⟨b, off, s⟩ := a
       simp only at hsp'
       subst hsp'
       exact .ro b off cap _ [] (fun _ _ => undef) (Nat.zero_le _) hcap (.inl rfl) (fun i d h => by simp at h) (fun i d j c h => by simp at h) (fun i d j c h => by simp at h)
    obtain ⟨x0, hx0⟩ : ∃ x0, xs[0]? = some x0 := ⟨_, List.getElem?_eq_getElem (by omega)⟩
    obtain ⟨_, v0, h3, h4, _⟩ := h2 0 x0 hx0
    have hsp : a.spot = none := by
     have := h3 0 hz
     rw [List.getElem?_eq_getElem (by omega), Nat.zero_mul] at this
     exact spot_of (k := 0) (by simpa [Addr.add] using this)
    obtain ⟨b, off, s⟩ := a
    simp only at hsp
    subst hsp
    simp only [add_lit] at h2
    have hcell : ∀ (i : Nat) d (j : Nat) c, (xs.map (mkV P e))[i]? = some d -> d.cells[j]? = some c -> ∃ v, w.cell? ⟨b, off + i * P.cellsOf e + j, none⟩ = some v ∧ RF w fr v c := by
     intro i d j c hd hj
     rw [List.getElem?_map] at hd
     cases hxi : xs[i]? with
     | none => rw [hxi] at hd; cases hd
     | some x =>
      rw [hxi] at hd
      injection hd with hd
      subst hd
      obtain ⟨g1, vs, g2, g3, g4⟩ := h2 i x hxi
      rw [mkV_cells g1] at hj
      have hjl := getq_lt hj
      rw [g4.1, g3] at hjl
      have hv : vs[j]? = some vs[j] := List.getElem?_eq_getElem (by omega)
      exact ⟨vs[j], by rw [g2 j hjl, hv], g4.2 j _ c hv hj⟩
    have hcl : ∀ (i : Nat) d, (xs.map (mkV P e))[i]? = some d -> d.cells.length = P.cellsOf e := by
     intro i d hd
     rw [List.getElem?_map] at hd
     cases hxi : xs[i]? with
     | none => rw [hxi] at hd; cases hd
     | some x =>
      rw [hxi] at hd
      injection hd with hd
      subst hd
      obtain ⟨g1, vs, g2, g3, g4⟩ := h2 i x hxi
      rw [mkV_cells g1, g4.1, g3]
    have hml : (xs.map (mkV P e)).length = len := by rw [List.length_map, h1]
    rw [<- hml]
    refine .ro b off cap _ _ (fun i j => (w.cell? ⟨b, off + i * P.cellsOf e + j, none⟩).getD undef) (by omega) hcap (.inr ?_) hcl (fun i d j c hd hj => ?_) (fun i d j c hd hj => ?_)
    ·rw [hml]
     obtain ⟨d, hd⟩ : ∃ d, (xs.map (mkV P e))[len - 1]? = some d := ⟨_, List.getElem?_eq_getElem (by omega)⟩
     obtain ⟨c, hc⟩ : ∃ c, d.cells[P.cellsOf e - 1]? = some c := ⟨_, List.getElem?_eq_getElem (by rw [hcl _ _ hd]; omega)⟩
     obtain ⟨v, hv, _⟩ := hcell _ _ _ _ hd hc
     have := hfr b (off + (len - 1) * P.cellsOf e + (P.cellsOf e - 1)) (by rw [hv]; rfl)
     have e1 : len * P.cellsOf e = (len - 1) * P.cellsOf e + P.cellsOf e := by
      conv => lhs; rw [show len = (len - 1) + 1 by omega, Nat.add_mul, Nat.one_mul]
     omega
    ·obtain ⟨v, hv, _⟩ := hcell _ _ _ _ hd hj
     rw [hv]; rfl
    ·obtain ⟨v, hv, hr⟩ := hcell _ _ _ _ hd hj
     rw [hv]; exact hr
  ·rename_i fs hu
   rw [Bool.and_eq_true] at h
   obtain ⟨hc, hall⟩ := h
   obtain ⟨ys, m, _, _, hl, hys, hf⟩ := DataW.trod_struct hu hx
   rw [<- hl] at hc
   obtain ⟨xs, h1, h2, h3⟩ := tl_fields (P := P) (w := w) (fr := fr) (Q := RD P) (cs := cs) fs.toList 0 hc (fun f hm => by
    obtain ⟨i, hi⟩ := List.mem_iff_getElem?.1 hm
    have hi' : fs[i]? = some f := by rw [<- Array.getElem?_toList]; exact hi
    have h4 := hf i f hi'
    rw [List.getElem?_eq_getElem (by rw [hys]; exact (Array.getElem?_eq_some_iff.1 hi').1)] at h4
    exact read_tl hsp hfr k f.type (List.all_eq_true.1 hall f hm) m _ _ h4)
   refine ⟨_, .st t fs xs hu (by rw [h1]; rfl) (fun i f x hf hx => h2 i f x (by rw [Array.getElem?_toList]; exact hf) hx), ?_⟩
   simpa using h3
  ·rename_i m e hu
   rw [Bool.and_eq_true, beq_iff_eq] at h
   obtain ⟨h, hz⟩ := h
   obtain ⟨ys, m', _, _, hl, hys, hf⟩ := DataW.trod_array hu hx
   obtain ⟨xs, h1, h2, h3⟩ := tl_elems (w := w) (fr := fr) (Q := RD P e) (cs := cs) (z := P.cellsOf e) m 0 (by rw [hl, hz, Nat.zero_add]) (fun i _ hi => by
    have h4 := hf i (by omega)
    rw [List.getElem?_eq_getElem (by omega)] at h4
    exact read_tl hsp hfr k e h m' _ _ h4)
   refine ⟨_, .arr t e m xs hu h1 h2, ?_⟩
   simpa using h3
  ·cases h
end
end Go.Proofs.Ytlhjdikklmkihaa.Ev
namespace Go.Proofs.Ytlhjdikklmkihaa.Ev
open Go Go.RowKit
def g0 (w : World) : G := ⟨w.heap.size, fun _ _ => none, fun b => match w.heap[b]? with | some (.cells cs _ _) => cs.size | _ => 0, fun _ => none, fun _ => false⟩
theorem fr0 {w : World} (b o : Nat) (h : (w.cell? ⟨b, o, none⟩).isSome) : o < (g0 w).fr b := by
 unfold World.cell? at h
 simp only [Option.isSome_none, Bool.false_eq_true, ↓reduceIte] at h
 simp only [g0]
 split at h
 ·rename_i hb
  rw [hb]
  simp only
  exact (Array.getElem?_eq_some_iff.1 (Option.isSome_iff_exists.1 h).choose_spec).1
 ·cases h
theorem inv0 (w : World) : Inv (g0 w) w where
 base := Nat.le_refl _
 fresh b hb := by
  refine ⟨?_, rfl⟩
  simp only [g0]
  rw [Array.getElem?_eq_none hb]
 box f s b h := by cases h
 inj f s f' s' b h := by cases h
 tk b l h := by cases h
 cells b o h := by
  simp only [g0] at h
  split at h
  ·rename_i hb
   unfold World.cell?
   simp only [hb, Option.isSome_none, Bool.false_eq_true, ↓reduceIte]
   rw [Array.getElem?_eq_getElem h]; rfl
  ·cases h
 dm b h := by cases h
 dt b h := by cases h
theorem sb0 (w : World) : SB (g0 w) w [] where
 rel f s ds h := by simp [bxl] at h
 dom f s h := by cases h
 bnd f s ds d h := by simp [bxl] at h
section
variable {H : Type} {enc : TypeId × Value -> H} {w : World} {base b0 k : Nat} {sp : Nat -> Bool} {held : Bool} {t : TypeId} {v : Value} {d : DataW H} {ps : List MemPlace}
set_option maxRecDepth 100000 in
theorem open_arg (hsp : ∀ b, sp b = true) (hk : okTy PP k t = true) (hval : Value.okWide PP w .any b0 t v) (h : DataW.Trod enc PP w base sp held t v d ps) : ∃ ds, RD PP t ds ∧ ∀ L, RV (g0 w) w L v (mkV PP t ds) := by
 obtain ⟨n, h⟩ := h
 obtain ⟨ds, h1, h2⟩ := read_tl hsp (fr := (g0 w).fr) fr0 k t hk n _ _ h
 refine ⟨ds, h1, fun L => ?_⟩
 have agg : ∀ cs : Array Value, v = .agg cs -> RV (g0 w) w L v (.agg ds) := by
  intro cs e
  subst e
  have e : (Value.agg cs).cells.toList = cs.toList := rfl
  rw [e] at h2
  refine ⟨cs, rfl, h2.1.symm, fun c d hc => ?_⟩
  have hl := getq_lt hc
  rw [h2.1] at hl
  have hv : cs[c]? = some cs[c] := Array.getElem?_eq_getElem hl
  exact ⟨_, hv, (h2.2 c _ _ (by rw [Array.getElem?_toList]; exact hv) hc).toRC _⟩
 have one : v.cells.toList = [v] -> ∀ d', ds = [d'] -> d'.aggB = false -> RV (g0 w) w L v d' := by
  intro e d' e' ha
  subst e'
  rw [e] at h2
  rw [RV_ne ha]
  exact (h2.2 0 v d' rfl rfl).toRC _
 rcases h1.und with ⟨b, hu, e⟩ | ⟨k', m, hu, _, e⟩ | ⟨s, hu, _, e⟩ | ⟨e', q, xs, hu, _, e⟩ | ⟨fs, xs, hu, _, _, e⟩ | ⟨m, e', xs, hu, _, _, e⟩ <;> simp only [mkV, aggE, hu, Bool.false_eq_true, ↓reduceIte]
 ·obtain ⟨x, rfl⟩ := WideShapes.okWide_bool hu hval
  rw [e]; exact one rfl _ e rfl
 ·obtain ⟨x, rfl⟩ := WideShapes.okWide_int hu hval
  rw [e]; exact one rfl _ e rfl
 ·obtain ⟨x, rfl⟩ := WideShapes.okWide_string hu hval
  rw [e]; exact one rfl _ e rfl
 ·obtain ⟨x, l, c, rfl⟩ := WideShapes.okWide_slice hu hval
  rw [e]; exact one rfl _ e (by unfold lst; split <;> rfl)
 ·simp only [Value.okWide, hu] at hval
  obtain ⟨cs, rfl, _⟩ := hval
  exact agg cs rfl
 ·simp only [Value.okWide, hu] at hval
  obtain ⟨cs, rfl, _⟩ := hval
  exact agg cs rfl
end
theorem run0 {prog : Nat -> Option Fn} (hp : MProg PP prog) {f : Nat} {ds : List D} {r : D} (hf : f < RL) (h : EF prog f ds [] = some (r, [])) {W : World} {vs : Array Value} (hs : vs.size = ds.length)
  (hv : ∀ (i : Nat) d, ds[i]? = some d -> ∃ x, vs[i]? = some x ∧ ∀ L, RV (g0 W) W L x d) :
  Calls PP f vs W fun e W' => ∃ x g', e = .returned x ∧ RT g' W' retL x r ∧ Below W.heap.size W W' := by
 obtain ⟨_, _, h2⟩ := (EF_good hp f ds [] r [] h).1 hf
 have h3 := h2 (g0 W) W vs (inv0 W) (sb0 W) hs (fun i d hi => by
  obtain ⟨x, hx, hr⟩ := hv i d hi
  exact ⟨x, hx, hr _⟩)
 refine ((callsIn_wide (n := 0)).1 h3).mono fun e W' ⟨x, g', he, hi, _, _, hx, hr⟩ => ⟨x, g', he, hr, hx.os, hx.tape, hx.output, hx.size, hx.old⟩
end Go.Proofs.Ytlhjdikklmkihaa.Ev
namespace Go.Proofs.Ytlhjdikklmkihaa.Ev.U
open Go
def CellOk (P : Caller) (τ : Ty) (d : D) : Prop := τ.one = true ∧ ∃ x : τ.T, RepL P τ [] x [d]
def rowL : Ty -> List Ty
 | .p a r => a :: rowL r
 | τ => [τ]
def rowKk : Ty -> Bool
 | .p a r => a.one && (r.rowk && rowKk r)
 | τ => τ.one
theorem row_of {P : Caller} : ∀ (r : Ty) (ds : List D), rowKk r = true -> All2 (CellOk P) (rowL r) ds -> ∃ x : r.T, RepL P r [] x ds := by
 have base : ∀ (r : Ty) (ds : List D), All2 (CellOk P) [r] ds -> ∃ x : r.T, RepL P r [] x ds := fun r ds h => by
  obtain ⟨d, q, rfl, ⟨_, x, hx⟩, h2⟩ := h.cons_l
  obtain rfl := h2.nil_l
  exact ⟨x, hx⟩
 intro r
 induction r with
 | p a r _ ih =>
  intro ds hk h
  simp only [rowKk, Bool.and_eq_true] at hk
  obtain ⟨d, q, rfl, ⟨_, x, hx⟩, h2⟩ := h.cons_l
  obtain ⟨y, hy⟩ := ih q hk.2.2 h2
  exact ⟨(x, y), ⟨hk.1, hk.2.1⟩, d, q, rfl, hx, hy⟩
 | _ => intro ds _ h; exact base _ ds h
def manyM (cM : TypeId -> List Ty -> Option (List Ty)) : List TypeId -> List Ty -> Option (List Ty)
 | [], ts => some ts
 | t :: l, ts => (cM t ts).bind (manyM cM l)
def endM : Option (List Ty) -> Bool
 | some [] => true
 | _ => false
def valM (P : Program) (cM : TypeId -> List Ty -> Option (List Ty)) (e : TypeId) (τ : Ty) : Bool := bif aggE P e then (match τ with
 | .g r => r.rowk && rowKk r && endM (cM e (rowL r))
 | _ => false) else τ.one && endM (cM e [τ])
def cellM (P : Program) : Nat -> TypeId -> List Ty -> Option (List Ty)
 | 0, _, _ => none
 | k + 1, t, ts => match P.underlying t with
  | some .bool => match ts with
   | .b :: q => some q
   | _ => none
  | some (.int k1) => match ts with
   | .i k2 :: q => bif decide (k1 = k2) then some q else none
   | _ => none
  | some .string => match ts with
   | .s :: q => some q
   | _ => none
  | some (.slice e) => match ts with
   | .l .ro τ :: q => bif valM P (cellM P k) e τ && (csz τ == P.cellsOf e) then some q else none
   | _ => none
  | some (.struct fs) => manyM (cellM P k) (fs.toList.map (·.type)) ts
  | some (.array n e) => manyM (cellM P k) (List.replicate n e) ts
  | _ => none
section
variable {P : Caller}
def CM (P : Caller) (cM : TypeId -> List Ty -> Option (List Ty)) : Prop := ∀ t ts q, cM t ts = some q -> ∀ ds, RD PP t ds -> ∃ us, ts = us ++ q ∧ All2 (CellOk P) us ds
theorem many_ok {cM : TypeId -> List Ty -> Option (List Ty)} (h : CM P cM) : ∀ (l : List TypeId) (ts q : List Ty), manyM cM l ts = some q -> ∀ xs : List (List D), xs.length = l.length -> (∀ (i : Nat) t x, l[i]? = some t -> xs[i]? = some x -> RD PP t x) -> ∃ us, ts = us ++ q ∧ All2 (CellOk P) us xs.flatten
 | [], ts, q, hm, xs, hl, hx => by
  obtain rfl : ts = q := by injection hm
  obtain rfl : xs = [] := List.eq_nil_of_length_eq_zero hl
  exact ⟨[], rfl, trivial⟩
 | t :: l, ts, q, hm, [], hl, hx => by simp at hl
 | t :: l, ts, q, hm, x :: xs, hl, hx => by
  obtain ⟨r, h1, h2⟩ := Option.bind_eq_some_iff.1 hm
  obtain ⟨us, rfl, h3⟩ := h t ts r h1 x (hx 0 t x rfl rfl)
  obtain ⟨vs, rfl, h4⟩ := many_ok h l r q h2 xs (by simpa using hl) fun i t x ht hq => hx (i + 1) t x (by simpa using ht) (by simpa using hq)
  exact ⟨us ++ vs, by simp, by rw [List.flatten_cons]; exact h3.app h4⟩
theorem end_ok {o : Option (List Ty)} (h : endM o = true) : o = some [] := by
 cases o with
 | none => cases h
 | some l => cases l with
  | nil => rfl
  | cons => cases h
theorem val_ok {cM : TypeId -> List Ty -> Option (List Ty)} (h : CM P cM) {e : TypeId} {τ : Ty} (hm : valM PP cM e τ = true) {ds : List D} (hr : RD PP e ds) : τ.val = true ∧ ∃ x : τ.T, RepL P τ [] x [mkV PP e ds] := by
 unfold valM at hm
 cases ha : aggE PP e with
 | true =>
  rw [ha, cond_true] at hm
  have hv : mkV PP e ds = .agg ds := by unfold mkV; rw [if_pos ha]
  rw [hv]
  cases τ with
  | g r =>
   simp only [Bool.and_eq_true] at hm
   obtain ⟨us, h1, h2⟩ := h e (rowL r) [] (end_ok hm.2) ds hr
   rw [List.append_nil] at h1
   subst h1
   obtain ⟨x, hx⟩ := row_of r ds hm.1.2 h2
   exact ⟨rfl, x, hm.1.1, ds, rfl, hx⟩
  | _ => cases hm
 | false =>
  rw [ha, cond_false, Bool.and_eq_true] at hm
  have hv : mkV PP e ds = ds.headD .u := by unfold mkV; rw [if_neg (by rw [ha]; simp)]
  obtain ⟨us, h1, h2⟩ := h e [τ] [] (end_ok hm.2) ds hr
  rw [List.append_nil] at h1
  subst h1
  obtain ⟨d, q, rfl, ⟨h3, x, hx⟩, h4⟩ := h2.cons_l
  obtain rfl := h4.nil_l
  rw [hv]
  refine ⟨?_, x, hx⟩
  cases τ <;> first | exact h3 | rfl
theorem list_ok {cM : TypeId -> List Ty -> Option (List Ty)} (h : CM P cM) {e : TypeId} {τ : Ty} (hm : valM PP cM e τ = true) : ∀ {xs : List (List D)}, (∀ x, x ∈ xs -> RD PP e x) -> ∃ l : List τ.T, l.length = xs.length ∧ All2 (fun y d => RepL P τ [] y [d]) l (xs.map (mkV PP e))
 | [], _ => ⟨[], rfl, trivial⟩
 | x :: xs, hx => by
  obtain ⟨l, h1, h2⟩ := list_ok h hm (xs := xs) fun y hy => hx y (List.mem_cons_of_mem _ hy)
  obtain ⟨_, y, hy⟩ := val_ok h hm (hx x (List.mem_cons_self ..))
  exact ⟨y :: l, by simp [h1], hy, h2⟩
theorem str_ok (s : ByteArray) : strV (s.data.toList.map fun u => ((u.toNat : Nat) : Int)) = s := by
 have : ∀ l : List UInt8, (l.map fun u => ((u.toNat : Nat) : Int)).map (fun c => UInt8.ofNat c.toNat) = l := by
  intro l
  induction l with
  | nil => rfl
  | cons u l ih => simp only [List.map_cons, ih, Int.toNat_natCast, UInt8.ofNat_toNat]
 unfold strV
 rw [this]
theorem wf_in {k : IntKind} {n : Int} (h : (Lit.int k n).wf = true) : inK k n = true := by
 simp only [Lit.wf, Bool.and_eq_true, decide_eq_true_eq] at h
 cases k <;> exact decide_eq_true h
theorem cell_ok : ∀ k, CM P (cellM PP k)
 | 0 => fun t ts q h => by cases h
 | k + 1 => fun t ts q h ds hr => by
  have ih := cell_ok k
  unfold cellM at h
  split at h
  ·rename_i hu
   obtain ⟨b, rfl⟩ := hr.bool' hu
   split at h
   ·injection h with h; subst h
    exact ⟨[.b], rfl, ⟨rfl, b, rfl⟩, trivial⟩
   ·cases h
  ·rename_i k1 hu
   obtain ⟨n, hw, rfl⟩ := hr.int' hu
   split at h
   ·rename_i k2 q'
    by_cases e : k1 = k2
    ·rw [decide_eq_true e, cond_true] at h
     injection h with h; subst h; subst e
     exact ⟨[.i k1], rfl, ⟨rfl, n, rfl, wf_in hw⟩, trivial⟩
    ·rw [decide_eq_false e, cond_false] at h; cases h
   ·cases h
  ·rename_i hu
   obtain ⟨s, hs, rfl⟩ := hr.str' hu
   split at h
   ·injection h with h; subst h
    refine ⟨[.s], rfl, ⟨rfl, s.data.toList.map fun u => ((u.toNat : Nat) : Int), by rw [str_ok], ?_, fun c hc => ?_⟩, trivial⟩
    ·rw [List.length_map]; exact hs
    ·obtain ⟨u, _, rfl⟩ := List.mem_map.1 hc
     have := u.toNat_lt
     omega
   ·cases h
  ·rename_i e hu
   obtain ⟨b, xs, ⟨hn, hx⟩, rfl⟩ := hr.sl' hu
   split at h
   ·rename_i τ q'
    cases hc : (valM PP (cellM PP k) e τ && (csz τ == PP.cellsOf e)) with
    | false => rw [hc, cond_false] at h; cases h
    | true =>
     rw [hc, cond_true] at h
     injection h with h; subst h
     rw [Bool.and_eq_true, beq_iff_eq] at hc
     obtain ⟨l, h1, h2⟩ := list_ok ih hc.1 hx
     refine ⟨[.l .ro τ], rfl, ⟨rfl, l, by rw [h1]; exact hn, _, h2, ?_⟩, trivial⟩
     unfold lst
     rw [hc.2]
     split
     ·rename_i hq
      simp only [Bool.and_eq_true, List.isEmpty_iff] at hq
      exact .inr ⟨hq.2, 0, rfl⟩
     ·exact .inl rfl
   ·cases h
  ·rename_i fs hu
   obtain ⟨xs, hl, hx, rfl⟩ := hr.st' hu
   refine many_ok ih _ ts q h xs (by simpa using hl) fun i t x ht hq => ?_
   rw [List.getElem?_map] at ht
   cases hf : fs.toList[i]? with
   | none => rw [hf] at ht; cases ht
   | some f =>
    rw [hf] at ht
    injection ht with ht; subst ht
    exact hx i f x (by rw [<- Array.getElem?_toList]; exact hf) hq
  ·rename_i n e hu
   obtain ⟨xs, hl, hx, rfl⟩ := hr.arr' hu
   refine many_ok ih _ ts q h xs (by simpa using hl) fun i t x ht hq => ?_
   have := List.mem_of_getElem? ht
   obtain ⟨_, rfl⟩ := List.mem_replicate.1 this
   exact hx i x hq
  ·cases h
end
theorem arg_u {P : Caller} (k : Nat) {t : TypeId} (τ : Ty) (hm : valM PP (cellM PP k) t τ = true) {ds : List D} (hr : RD PP t ds) : ∃ x : τ.T, RepL P τ [] x [mkV PP t ds] := (val_ok (cell_ok k) hm hr).2
def Wf : (τ : Ty) -> τ.T -> Prop
 | .i k, x => inK k x = true
 | .b, _ => True
 | .s, x => ∀ c : Int, List.Mem (α := Int) c x -> 0 <= c ∧ c < 256
 | .l _ t, x => ∀ y : t.T, List.Mem (α := t.T) y x -> Wf t y
 | .p a r, x => Wf a x.1 ∧ Wf r x.2
 | .g r, x => Wf r x
 | .t a r, x => Wf a x.1 ∧ Wf r x.2
 | .n, _ => True
 | .o _ _, _ => True
 | .fn _ _, _ => True
 | .cl _ r, x => Wf r x
theorem All2.mem_l {α β : Type} {R : α -> β -> Prop} : ∀ {xs : List α} {ys : List β}, All2 R xs ys -> ∀ x ∈ xs, ∃ y, R x y
 | [], _, _, x, h => by cases h
 | a :: xs, [], h, _, _ => h.elim
 | a :: xs, b :: ys, h, x, hx => by
  rcases List.mem_cons.1 hx with rfl | hx
  ·exact ⟨b, h.1⟩
  ·exact All2.mem_l h.2 x hx
theorem wf_rep {P : Caller} {F : List Fx} : ∀ {τ : Ty} {x : τ.T} {ds : List D}, RepL P τ F x ds -> Wf τ x
 | .i k, x, ds, h => h.2
 | .b, x, ds, h => trivial
 | .s, x, ds, h => h.2.2
 | .l m t, x, ds, h => by
  obtain ⟨_, es, h1, _⟩ := h
  intro y hy
  obtain ⟨e, he⟩ := h1.mem_l y hy
  exact wf_rep (τ := t) he
 | .p a r, x, ds, h => by
  obtain ⟨_, d, q, _, h1, h2⟩ := h
  exact ⟨wf_rep h1, wf_rep h2⟩
 | .g r, x, ds, h => by
  obtain ⟨_, cs, _, h1⟩ := h
  exact wf_rep (τ := r) h1
 | .t a r, x, ds, h => by
  obtain ⟨_, d, q, _, h1, h2⟩ := h
  exact ⟨wf_rep h1, wf_rep h2⟩
 | .n, x, ds, h => trivial
 | .o _ _, x, ds, h => trivial
 | .fn _ _, x, ds, h => trivial
 | .cl _ r, x, ds, h => by
  obtain ⟨_, cs, _, h1⟩ := h
  exact wf_rep (τ := r) h1
theorem ef_b1 {P : Caller} {R : List D -> List Bx -> Option (D × List Bx)} {a : AK} {ak : List AK} {F : (Sg.mk (a :: ak) .b).aT.T -> Option (Sg.mk (a :: ak) .b).oT.T} (ho : TOK1 P R (.par ⟨a :: ak, .b⟩ F)) (hv : ∀ b ∈ a :: ak, ∃ τ, b = .v τ) (ht : (Sg.mk (a :: ak) .b).aT.tupk = true)
  {x : (Sg.mk (a :: ak) .b).aT.T} {ds : List D} (hl : ds.length = (a :: ak).length) (hr : RepL P (Sg.mk (a :: ak) .b).aT [] x ds) {y : (Sg.mk (a :: ak) .b).oT.T} (hy : F x = some y) : ∃ b : Bool, R ds [] = some (D.v (.bool b), []) ∧ HEq y b := by
 have hw := tupW_ok (c := cz P) ht hr
 have harg := argl_v (c' := cz P) hv (by rw [<- hl, hw.length]) hw
 obtain ⟨d, Y', r1, r2, r3⟩ := ho [] 0 [] (fun _ => []) [] (cz_ok P) (fun i r ys h => by simp at h) x ds harg y hy
 have hrun : R ds [] = some (d, []) := by
  have := r3 [] ⟨rfl, Sat.nil [], (fun r h => by cases h), (fun i r h => by simp at h)⟩ (fun i r ys h => by simp at h)
  rw [this]
  cases Y' <;> rfl
 have key : ∀ {xk : List Ty} {z : (oTy .b xk).T}, xk = [] -> Rep4 (c0 P) (outW .b xk z).1 d -> ∃ b : Bool, d = D.v (.bool b) ∧ HEq z b := by
  intro xk z hx hrep
  subst hx
  obtain rfl := b_d hrep.2
  exact ⟨z, rfl, HEq.rfl⟩
 obtain ⟨b, rfl, hb⟩ := key (xs_v hv) r1
 exact ⟨b, hrun, hb⟩
theorem ef_b {P : Caller} {f : Nat} {a : AK} {ak : List AK} {F : (Sg.mk (a :: ak) .b).aT.T -> Option (Sg.mk (a :: ak) .b).oT.T} (ho : TOK P f (.par ⟨a :: ak, .b⟩ F)) (hv : ∀ b ∈ a :: ak, ∃ τ, b = .v τ) (ht : (Sg.mk (a :: ak) .b).aT.tupk = true)
  {x : (Sg.mk (a :: ak) .b).aT.T} {ds : List D} (hl : ds.length = (a :: ak).length) (hr : RepL P (Sg.mk (a :: ak) .b).aT [] x ds) {y : (Sg.mk (a :: ak) .b).oT.T} (hy : F x = some y) : ∃ b : Bool, P f ds [] = some (D.v (.bool b), []) ∧ HEq y b := ef_b1 ho.1 hv ht hl hr hy
end Go.Proofs.Ytlhjdikklmkihaa.Ev.U
namespace Go.Proofs.Ytlhjdikklmkihaa.Ev.U
open Go
def roRow : Ty -> Bool
 | .p a r => trTy a && roRow r
 | τ => trTy τ
theorem tr_ro {P : Caller} {F : List Fx} {τ : Ty} {x : τ.T} {d : D} (hk : trTy τ = true) (h : RepL P τ F x [d]) : d.strip1 = d ∧ d.sto1 = true ∧ d.rf1 = true ∧ (∀ k, d.bnd1 k = true) ∧ d.aggB = false := by
 cases τ with
 | i k => obtain ⟨rfl, h2⟩ := i_d h; exact ⟨rfl, rfl, rfl, fun _ => rfl, rfl⟩
 | b => obtain rfl := b_d h; exact ⟨rfl, rfl, rfl, fun _ => rfl, rfl⟩
 | s => obtain ⟨rfl, h2⟩ := s_d h; exact ⟨rfl, rfl, rfl, fun _ => rfl, rfl⟩
 | l m t => cases m with
  | ro => obtain ⟨hl, es, h3, rfl | ⟨rfl, z, rfl⟩⟩ := l_d h <;> exact ⟨rfl, rfl, rfl, fun _ => rfl, rfl⟩
  | _ => cases hk
 | _ => cases hk
theorem ro_row {P : Caller} {F : List Fx} : ∀ {r : Ty} {x : r.T} {cs : List D}, roRow r = true -> RepL P r F x cs -> cs.map D.strip1 = cs ∧ cs.all D.sto1 = true ∧ cs.all D.rf1 = true ∧ ∀ k, cs.all (D.bnd1 k) = true := by
 have base : ∀ {r : Ty} {x : r.T} {cs : List D}, trTy r = true -> RepL P r F x cs -> cs.map D.strip1 = cs ∧ cs.all D.sto1 = true ∧ cs.all D.rf1 = true ∧ ∀ k, cs.all (D.bnd1 k) = true := fun {r x cs} hk h => by
  have h1 : r.one = true := by cases r <;> first | rfl | cases hk
  obtain ⟨d, rfl⟩ := one_sing h1 h
  obtain ⟨a1, a2, a3, a4, _⟩ := tr_ro hk h
  exact ⟨by simp [a1], by simp [a2], by simp [a3], fun k => by simp [a4]⟩
 intro r
 induction r with
 | p a r _ ih =>
  intro x cs hk h
  simp only [roRow, Bool.and_eq_true] at hk
  obtain ⟨_, d, q, rfl, h1, h2⟩ := h
  obtain ⟨a1, a2, a3, a4, _⟩ := tr_ro hk.1 h1
  obtain ⟨b1, b2, b3, b4⟩ := ih hk.2 h2
  exact ⟨by simp [a1, b1], by simp [a2, b2], by simp [a3, b3], fun k => by simp [a4, b4]⟩
 | _ => intro x cs hk h; exact base hk h
theorem tok_clo {pg : Nat -> Option Fn} {k f nt : Nat} {r : Ty} (hp : pg k = some ⟨nt, false, [.t 2], none, .sq (.rg [s_ 1 (.bx (.t 0)), s_ 2 (.mv (.c .nilFunc))]) (.sq (.rg [s_ 3 (.mf f [(.t 1)]), s_ 2 (.mv (.t 3))]) .rt)⟩) (hn : 0 < nt) (hr : roRow r = true) (hk : r.rowk = true) (hfo : r.fo = true) :
  TOK (EF pg) k (.par ⟨[.v (.g r)], .cl f r⟩ some) := by
 refine ⟨fun F n rg K Y hc hK x ds harg y hy => ?_, trivial⟩
 have := Option.some.inj hy
 subst this
 have ha : ∃ d, ds = [d] ∧ rg = [] ∧ Y = [] ∧ Rep3 ⟨EF pg, F, n, rg, K⟩ (valW (.g r) x) d := by
  have harg : ArgL ⟨EF pg, F, n, rg, K⟩ [.v (.g r)] [valW (.g r) x] ds rg Y := harg
  cases ds with
  | nil => cases rg <;> cases Y <;> exact harg.elim
  | cons d q =>
   have h2 : Rep3 ⟨EF pg, F, n, rg, K⟩ (valW (.g r) x) d ∧ ArgL ⟨EF pg, F, n, rg, K⟩ [] [] q rg Y := by cases rg <;> cases Y <;> exact harg
   cases q with
   | nil => cases rg with
    | nil => cases Y with
     | nil => exact ⟨d, rfl, rfl, rfl, h2.1⟩
     | cons => exact h2.2.elim
    | cons => cases Y <;> exact h2.2.elim
   | cons => cases rg <;> cases Y <;> exact h2.2.elim
 obtain ⟨d, rfl, rfl, rfl, hd⟩ := ha
 have hrep := val_inv (τ := .g r) rfl hd
 obtain ⟨_, cs, hcs, hrow⟩ := hrep
 injection hcs with hcs
 subst hcs
 obtain ⟨a1, a2, a3, a4⟩ := ro_row hr hrow
 refine ⟨.clo f [.fptr cs 0], [], ⟨rfl, hk, cs, rfl, ?_⟩, trivial, fun B hB hat => ?_⟩
 ·exact RepL.fo hfo hrow
 ·rw [EF_eq]
  unfold runF
  simp only [hp]
  rw [if_pos ⟨hn, rfl⟩]
  have hev : evC (EF pg) (.sq (.rg [s_ 1 (.bx (.t 0)), s_ 2 (.mv (.c .nilFunc))]) (.sq (.rg [s_ 3 (.mf f [(.t 1)]), s_ 2 (.mv (.t 3))]) .rt)) ⟨argE 0 [.agg cs], [], B⟩ = some (.rt, ⟨[(2, .clo f [.ptr B.length 1 0]), (3, .clo f [.ptr B.length 1 0]), (2, .v .nilFunc), (1, .ptr B.length 1 0), (0, .agg cs)], [(1, cs)], B⟩) := by
   have hst : (D.agg cs).strip = .agg cs := by show D.agg (cs.map D.strip1) = _; rw [a1]
   have e1 : evOp (EF pg) (some 1) (.bx (.t 0)) ⟨[(0, .agg cs)], [], B⟩ = some (.ptr B.length 1 0, ⟨[(0, .agg cs)], [(1, cs)], B⟩) := by
    have hrd : rd (.t 0) ⟨[(0, .agg cs)], [], B⟩ = (.agg cs, ⟨[(0, .agg cs)], [], B⟩) := by
     show ((D.agg cs).strip, _) = _
     rw [hst]
    show (let a := rd (.t 0) (⟨[(0, .agg cs)], [], B⟩ : S); if a.1.bnd2 (B.length + 1) = true ∧ a.1.cells.all D.sto1 = true then some (D.ptr B.length 1 0, a.2.wl (ins 1 a.1.cells a.2.l)) else none) = _
    rw [hrd]
    exact if_pos ⟨a4 _, a2⟩
   show (match ((evStp (EF pg) (s_ 1 (.bx (.t 0))) ⟨[(0, .agg cs)], [], B⟩).bind (evOps (EF pg) [s_ 2 (.mv (.c .nilFunc))])).map (fun s => (Ex.nm, s)) with | some (.nm, s) => evC (EF pg) _ s | r => r) = _
   have e2 : evStp (EF pg) (s_ 1 (.bx (.t 0))) ⟨[(0, .agg cs)], [], B⟩ = some ⟨[(1, .ptr B.length 1 0), (0, .agg cs)], [(1, cs)], B⟩ := by
    show (evOp (EF pg) (some 1) (.bx (.t 0)) ⟨[(0, .agg cs)], [], B⟩).map _ = _
    rw [e1]; rfl
   rw [e2]
   rfl
  rw [hev]
  have hfz : (D.clo f [.ptr B.length 1 0]).frz2 B.length [(1, cs)] = .clo f [.fptr cs 0] := by
   show D.clo f [(if B.length = B.length then (if cs.all D.rf1 = true then D.fptr cs 0 else D.ptr B.length 1 0) else D.ptr B.length 1 0)] = _
   rw [if_pos rfl, if_pos a3]
  show (let ds := [(D.clo f [.ptr B.length 1 0]).frz2 B.length [(1, cs)]]; if ds.all (D.bnd2 B.length) = true then some (if false = true then mkRes ds else (mkRes ds).strip, B) else none) = _
  rw [hfz]
  rfl
end Go.Proofs.Ytlhjdikklmkihaa.Ev.U
