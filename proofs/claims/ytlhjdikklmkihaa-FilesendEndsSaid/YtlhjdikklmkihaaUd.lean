/- Steps that draw their order, over typed values. Conditions: none. -/
import Derived.Test.YtlhjdikklmkihaaU9
set_option linter.all false
namespace Go.Proofs.Ytlhjdikklmkihaa.Ev.U
open Go
section
variable {c : Cx} {e : Env} {l : Bx} {Y : List (List D)} {t : Option Nat} {s : SU}
theorem upd_ro : ∀ {rs : List Rg} {Y : List (List D)} {B : List Bx}, (∀ r ∈ rs, r.w = false) -> upd rs Y B = B
 | [], [], B, _ => rfl
 | [], _ :: _, B, _ => rfl
 | _ :: _, [], B, _ => rfl
 | r :: rs, y :: Y, B, h => by
  simp only [upd, h r (by simp), cond_false]
  exact upd_ro fun q hq => h q (by simp [hq])
theorem rgOf_ro : ∀ {ak : List AK} {ds : List D}, xsOf ak = [] -> ∀ r ∈ rgOf ak ds, r.w = false
 | [], ds, _, r, h => by cases ds <;> simp [rgOf] at h
 | .v τ :: ak, ds, hx, r, h => by
  cases ds with
  | nil => simp [rgOf] at h
  | cons d ds => exact rgOf_ro (ak := ak) hx r (by cases d <;> exact h)
 | .o τ :: ak, ds, hx, r, h => by
  cases ds with
  | nil => simp [rgOf] at h
  | cons d ds =>
   cases d with
   | ptr f b o =>
    rcases List.mem_cons.1 h with rfl | h
    ·rfl
    ·exact rgOf_ro (ak := ak) hx r h
   | _ => exact rgOf_ro (ak := ak) hx r h
 | .x τ :: ak, ds, hx, r, h => by cases hx
theorem fo_tup {P : Caller} {a : Ty} {F : List Fx} {x : a.T} {ds : List D} (h : RepL P a F x ds) (hf : a.fo = true) (F' : List Fx) : RepL P a F' x ds := RepL.fo hf h
theorem args_ne {sg : Sg} (hs : sg.ok = true) : ∀ a ∈ sg.ak, a.ty.val = true := by
 intro a ha
 simp only [Sg.ok, Bool.and_eq_true] at hs
 have := List.all_eq_true.1 hs.2 a ha
 cases a with
 | v τ => exact this
 | x r => rfl
 | o r => rfl
theorem argWs_ok {c' : Cx} {sg : Sg} (hs : sg.ok = true) {ws : List W} {ds : List D} {rg : List Rg} {Yc : List (List D)} {x : sg.aT.T} (h : ArgL c' sg.ak ws ds rg Yc) (hx : tupT sg.aT ws = some x) : ArgL c' sg.ak (argWs sg x) ds rg Yc := by
 obtain ⟨ak, res⟩ := sg
 cases ak with
 | nil =>
  cases ws with
  | nil => exact h
  | cons => cases ds <;> cases rg <;> cases Yc <;> exact h.elim
 | cons a ak => exact repack (by simp) (args_ne hs) h hx
theorem fct_pts {pb : PB} {x : Fx} {caps : List W} (h : fct c l Y pb = some x) (hp : pb ∈ capPts caps) : x ∈ (capPts caps).filterMap (fct c l Y) := List.mem_filterMap.2 ⟨pb, hp, h⟩
theorem atR_sat {F : List Fx} {B : List Bx} (h : Sat F B) {x : Fx} (hx : x ∈ F) : Sat [x] B := fun y hy => by
 have : y = x := by simpa using hy
 subst this
 exact h y hx
theorem ArgL_len {c' : Cx} : ∀ {ak : List AK} {ws : List W} {ds : List D} {rg : List Rg} {Yc : List (List D)}, ArgL c' ak ws ds rg Yc -> ∀ (i : Nat) r, rg[i]? = some r -> ∃ y, Yc[i]? = some y ∧ y.length = r.z
 | [], ws, ds, rg, Yc, h, i, r, hr => by
  cases ws <;> cases ds <;> cases rg <;> cases Yc <;> first | exact h.elim | simp at hr
 | .v τ :: ak, [], ds, rg, Yc, h, i, r, hr => by cases ds <;> cases rg <;> cases Yc <;> exact h.elim
 | .v τ :: ak, w :: ws, [], rg, Yc, h, i, r, hr => by cases rg <;> cases Yc <;> exact h.elim
 | .v τ :: ak, w :: ws, d :: ds, rg, Yc, h, i, r, hr => by
  have : ArgL c' ak ws ds rg Yc := by cases rg <;> cases Yc <;> exact h.2
  exact ArgL_len this i r hr
 | .x q :: ak, ws, ds, rg, Yc, h, i, r, hr => by
  cases ws with
  | nil => cases ds <;> cases rg <;> cases Yc <;> exact h.elim
  | cons w ws => cases ds with
   | nil => cases rg <;> cases Yc <;> exact h.elim
   | cons d ds => cases rg with
    | nil => cases Yc <;> exact h.elim
    | cons g rg => cases Yc with
     | nil => exact h.elim
     | cons y Yc => cases i with
      | zero =>
       simp only [List.getElem?_cons_zero, Option.some.injEq] at hr
       subst hr
       exact ⟨y, rfl, h.1.2.2.2.1⟩
      | succ i => exact ArgL_len h.2 i r (by simpa using hr)
 | .o q :: ak, ws, ds, rg, Yc, h, i, r, hr => by
  cases ws with
  | nil => cases ds <;> cases rg <;> cases Yc <;> exact h.elim
  | cons w ws => cases ds with
   | nil => cases rg <;> cases Yc <;> exact h.elim
   | cons d ds => cases rg with
    | nil => cases Yc <;> exact h.elim
    | cons g rg => cases Yc with
     | nil => exact h.elim
     | cons y Yc => cases i with
      | zero =>
       simp only [List.getElem?_cons_zero, Option.some.injEq] at hr
       subst hr
       exact ⟨y, rfl, h.1.2.2.2.1⟩
      | succ i => exact ArgL_len h.2 i r (by simpa using hr)
theorem clo_ok (hc : c.ok) (hS : RepS c s e l Y) {T : Tab} (hT : TabOk c.P T) {fn : Nat} {caps : List W} {cs : List D} {a r : Ty} {φ : a.T -> Option r.T} (hcap : All2 (Rep1 c) caps cs) (h : cloF T s fn caps a r = some φ) {F : List Fx} (hF : ∀ x ∈ c.F, x ∈ F) (hF2 : ∀ x ∈ (capPts caps).filterMap (fct c l Y), x ∈ F) :
  RepL c.P (.fn a r) F φ [.clo fn cs] := by
 unfold cloF at h
 split at h
 ·cases h
 ·rename_i tf htf
  split at h
  ·rename_i hxs hfo
   simp only [Bool.and_eq_true] at hfo
   obtain ⟨⟨⟨⟨⟨⟨hfa, hfr⟩, hat⟩, hrok⟩, hsg⟩, hci⟩, hcw⟩ := hfo
   have hφ := (Option.some.inj h).symm
   have hcd : ∀ {ws : List W} {ds : List D}, (∀ w ∈ ws, w ∈ caps) -> All2 (Rep1 c) ws ds -> ∀ d ∈ ds, capD F d := by
    intro ws
    induction ws with
    | nil => intro ds _ h d hd; obtain rfl := h.nil_l; cases hd
    | cons w ws ih =>
     intro ds hin h d hd
     obtain ⟨d0, q, rfl, a1, a2⟩ := h.cons_l
     rcases List.mem_cons.1 hd with rfl | hd
     ·have k1 := List.all_eq_true.1 hci w (hin w (by simp))
      have k2 := List.all_eq_true.1 hcw w (hin w (by simp))
      cases w with
      | pt pb off =>
       simp only [capIn, Option.isSome_iff_exists] at k1
       obtain ⟨ws0, k1⟩ := k1
       obtain ⟨x, x1, x2, _, _⟩ := fct_ok hc hS (to4x2 (to2 a1)) k1
       rw [x2]
       refine ⟨x, hF2 x (fct_pts x1 ?_), rfl⟩
       have : ∀ {ws : List W}, (.pt pb off) ∈ ws -> pb ∈ capPts ws := by
        intro ws
        induction ws with
        | nil => intro h; cases h
        | cons v ws ih =>
         intro h
         rcases List.mem_cons.1 h with rfl | h
         ·simp [capPts]
         ·have := ih h
          cases v <;> simp [capPts, this]
       exact this (hin _ (by simp))
      | fp ws0 off => obtain ⟨_, rfl, _⟩ := a1; trivial
      | u τ x => cases τ with
       | i k => rw [(i_d a1.2).1]; trivial
       | b => rw [b_d a1.2]; trivial
       | s => rw [(s_d a1.2).1]; trivial
       | _ => cases k2
      | _ => cases k2
     ·exact ih (fun w hw => hin w (by simp [hw])) a2 d hd
   refine ⟨fn, cs, rfl, hcd (fun _ h => h) hcap, fun x ak hx y hy n hn => ?_⟩
   rw [hφ] at hy
   obtain ⟨ws', h1, h2⟩ := Option.bind_eq_some_iff.1 hy
   obtain ⟨xx, h3, h4⟩ := Option.bind_eq_some_iff.1 h2
   obtain ⟨z, h5, h6⟩ := Option.bind_eq_some_iff.1 h4
   have hx' : RepL c.P a c.F x ak := RepL.up (fun x h => by simp at h) hx
   have hall : All2 (Rep4 c) (tupW a x ++ caps) (ak ++ cs) := (All2.to4 (tupW_ok hat hx')).app (hcap.mono fun _ _ _ q => to4x2 (to2 q))
   obtain ⟨i0, Yc, i1, i2, i3⟩ := args0_ok hc hS h1 hall
   have hpts : ∀ p, p ∈ ptsX tf.sg.ak (tupW a x ++ caps) -> p.2 ∈ capPts caps := fun p hp => by
    have := ptsX_sub hp
    rw [capPts_app, pf1_nopt (pf_tup a x), List.nil_append] at this
    exact this
   have hro := rgOf_ro (ak := tf.sg.ak) (ds := ak ++ cs) hxs
   have hok : Cx.ok ⟨c.P, F, n, rgOf tf.sg.ak (ak ++ cs), fun i => (Yc[i]?).getD []⟩ := by
    refine ⟨fun r hr => ?_, fun i j r q hi _ _ hw => ?_, fun x hx => ⟨hn x hx, fun r hr hw => ?_⟩⟩
    ·obtain ⟨k1, p, x', k2, k3, k4, k5⟩ := i2 r hr
     injection k5 with k5
     show r.f < n
     rw [k5]
     exact hn x' (hF2 x' (fct_pts k4 (hpts p k2)))
    ·rw [hro r (List.mem_of_getElem? hi)] at hw; cases hw
    ·rw [hro r hr] at hw; cases hw
   have harg := argWs_ok (c' := ⟨c.P, F, n, rgOf tf.sg.ak (ak ++ cs), fun i => (Yc[i]?).getD []⟩) hsg (i1 _ rfl hF) h3
   obtain ⟨d, Y', t1, t2, t3⟩ := (hT fn tf htf).1 F n (rgOf tf.sg.ak (ak ++ cs)) (fun i => (Yc[i]?).getD []) Yc hok (fun i r ys _ hy _ => by simp [hy]) xx (ak ++ cs) harg z h5
   -- the result
   have hsg' := hsg
   simp only [Sg.ok, Bool.and_eq_true] at hsg'
   have key : ∀ {res : Ty} {xs : List Ty} {z : (oTy res xs).T} {y : r.T}, xs = [] -> castT (oTy res xs) r z = some y -> Rep4 (c0 c.P) (outW res xs z).1 d -> Rep4 (c0 c.P) (resW r y) d := by
    intro res xs z y hx hcst hrep
    subst hx
    have e : oTy res [] = res := by cases res <;> rfl
    cases res <;> (obtain ⟨e1, e2⟩ := castT_eq hcst; subst e1; subst e2; exact hrep)
   have hres := key hxs h6 t1
   obtain ⟨q, q1, q2⟩ := res_inv hrok hres
   refine ⟨d, q, q1, q2, fun B hB hSat => ?_⟩
   have hat := i3 B fun p x hp hx => atR_sat hSat (hF2 x (fct_pts hx (hpts p hp)))
   rw [t3 B ⟨hB, hSat, fun r hr => ?_, fun i r hi hw => ?_⟩ hat, upd_ro hro]
   ·obtain ⟨j, hj⟩ := List.mem_iff_getElem?.1 hr
    obtain ⟨y, y1, y2⟩ := ArgL_len harg j r hj
    obtain ⟨l', cs', k1, k2, k3, k4⟩ := hat j r y hj y1
    exact ⟨l', cs', k1, k2, by omega⟩
   ·obtain ⟨y, y1, y2⟩ := ArgL_len harg i r hi
    obtain ⟨l', cs', k1, k2, k3, k4⟩ := hat i r y hi y1
    exact ⟨l', cs', k1, k2, by omega, by simp only [y1, Option.getD_some]; rw [<- y2]; exact k4⟩
  ·cases h
theorem argsF_ok (hc : c.ok) (hS : RepS c s e l Y) {T : Tab} (hT : TabOk c.P T) : ∀ {ak : List AK} {ws ws' : List W} {ds : List D}, argsF T s ak ws = some ws' -> All2 (Rep4 c) ws ds ->
  ptL ak ws = true ∧ ∃ Yc, (∀ (c' : Cx), c'.P = c.P -> (∀ x ∈ c.F, x ∈ c'.F) -> (∀ x ∈ (ptsC ws).filterMap (fct c l Y), x ∈ c'.F) -> ArgL c' ak ws' ds (rgOf ak ds) Yc) ∧
   (All2 (fun (p : Bool × PB) (r : Rg) => r.f < c.n + 1 ∧ p.1 = r.w ∧ (r.w = true -> wrB s p.2 = true) ∧ ∃ x, fct c l Y p.2 = some x ∧ (r.f, r.b) = (x.f, x.b)) (ptsX ak ws) (rgOf ak ds)) ∧
   (∀ B', (∀ p x, p ∈ ptsX ak ws -> fct c l Y p.2 = some x -> Sat [x] B') -> ∀ (j : Nat) r y, (rgOf ak ds)[j]? = some r -> Yc[j]? = some y -> atR r y B')
 | [], [], ws', ds, h, ha => by
  have := Option.some.inj h
  subst this
  obtain rfl := ha.nil_l
  exact ⟨rfl, [], (fun _ _ _ _ => trivial), trivial, fun _ _ j r y hj => by simp [rgOf] at hj⟩
 | [], _ :: _, ws', ds, h, ha => by simp [argsF] at h
 | a :: ak, [], ws', ds, h, ha => by simp [argsF] at h
 | a :: ak, w :: ws, ws', ds, h, ha => by
  obtain ⟨d, q, rfl, a1, a2⟩ := ha.cons_l
  simp only [argsF] at h
  obtain ⟨w', h1, h2⟩ := Option.bind_eq_some_iff.1 h
  obtain ⟨ws2, h3, h4⟩ := Option.map_eq_some_iff.1 h2
  subst h4
  obtain ⟨i0, Yc, i1, i2, i3⟩ := argsF_ok hc hS hT h3 a2
  have pc : ∀ {F : List Fx}, (∀ x ∈ (ptsC (w :: ws)).filterMap (fct c l Y), x ∈ F) -> ∀ x ∈ (ptsC ws).filterMap (fct c l Y), x ∈ F := fun hq x hx => hq x (by
   obtain ⟨pb, p1, p2⟩ := List.mem_filterMap.1 hx
   exact List.mem_filterMap.2 ⟨pb, by cases w <;> simp [ptsC, p1], p2⟩)
  cases a with
  | v τ =>
   have hpt : ptsX (.v τ :: ak) (w :: ws) = ptsX ak ws := by cases w <;> rfl
   have hrg : rgOf (.v τ :: ak) (d :: q) = rgOf ak q := by cases d <;> rfl
   have hp0 : ptL (.v τ :: ak) (w :: ws) = true := by cases w <;> exact i0
   rw [hrg, hpt]
   refine ⟨hp0, Yc, fun c' hP hF hF2 => ⟨?_, i1 c' hP hF (pc hF2)⟩, i2, i3⟩
   unfold argF at h1
   split at h1
   ·rename_i a r fn caps e1
    obtain ⟨φ, k1, k2⟩ := Option.map_eq_some_iff.1 h1
    subst k2
    obtain ⟨cs, rfl, m1, m2⟩ := a1
    have := clo_ok hc hS hT m1 k1 (F := c'.F) hF fun x hx => hF2 x (by
     obtain ⟨pb, p1, p2⟩ := List.mem_filterMap.1 hx
     exact List.mem_filterMap.2 ⟨pb, by simp [ptsC, p1], p2⟩)
    exact ⟨rfl, by rw [hP]; exact this⟩
   ·obtain ⟨rfl, hp⟩ := chk1_some h1
    exact pf1_up hP hF (of4 a1 fun ws q => by subst q; cases hp) hp
  | x r =>
   cases w with
   | pt pb off =>
    simp only [argF, arg0] at h1
    cases hw : wrB s pb with
    | false => rw [hw] at h1; cases h1
    | true =>
     rw [hw, cond_true] at h1
     obtain ⟨cs, g1, g2⟩ := Option.bind_eq_some_iff.1 h1
     obtain ⟨w2, g3, g4⟩ := Option.bind_eq_some_iff.1 g2
     obtain ⟨rfl, hp⟩ := chk1_some g4
     obtain ⟨x, y, p1, p2, p3, p4, p5, p6⟩ := ptr_ok hc hS a1 g1 g3 hp
     subst p2
     refine ⟨i0, y :: Yc, fun c' hP hF hF2 => ⟨⟨rfl, rfl, rfl, p3, p4 c' hP hF⟩, i1 c' hP hF (pc hF2)⟩, ⟨⟨p5, rfl, fun _ => hw, x, p1, rfl⟩, i2⟩, fun B' hB' j r' y' hj hy => ?_⟩
     cases j with
     | zero =>
      simp only [rgOf, List.getElem?_cons_zero] at hj hy
      have e1 := Option.some.inj hj; have e2 := Option.some.inj hy
      subst e1 e2
      exact p6 B' (hB' (true, pb) x (by simp [ptsX]) p1) true
     | succ j => exact i3 B' (fun p x hp => hB' p x (by simp [ptsX, hp])) j r' y' (by simpa [rgOf] using hj) (by simpa using hy)
   | _ => simp [argF, arg0] at h1
  | o r =>
   cases w with
   | pt pb off =>
    simp only [argF, arg0] at h1
    obtain ⟨cs, g1, g2⟩ := Option.bind_eq_some_iff.1 h1
    obtain ⟨w2, g3, g4⟩ := Option.bind_eq_some_iff.1 g2
    obtain ⟨rfl, hp⟩ := chk1_some g4
    obtain ⟨x, y, p1, p2, p3, p4, p5, p6⟩ := ptr_ok hc hS a1 g1 g3 hp
    subst p2
    refine ⟨i0, y :: Yc, fun c' hP hF hF2 => ⟨⟨rfl, rfl, rfl, p3, p4 c' hP hF⟩, i1 c' hP hF (pc hF2)⟩, ⟨⟨p5, rfl, (fun q => by cases q), x, p1, rfl⟩, i2⟩, fun B' hB' j r' y' hj hy => ?_⟩
    cases j with
    | zero =>
     simp only [rgOf, List.getElem?_cons_zero] at hj hy
     have e1 := Option.some.inj hj; have e2 := Option.some.inj hy
     subst e1 e2
     exact p6 B' (hB' (false, pb) x (by simp [ptsX]) p1) false
    | succ j => exact i3 B' (fun p x hp => hB' p x (by simp [ptsX, hp])) j r' y' (by simpa [rgOf] using hj) (by simpa using hy)
   | _ => simp [argF, arg0] at h1
theorem box_ne (hc : c.ok) (hS : RepS c s e l Y) {p q : PB} {x y : Fx} (hp : fct c l Y p = some x) (hq : fct c l Y q = some y) (hne : p ≠ q) (hw : wrB s p = true ∨ wrB s q = true) : (x.f, x.b) ≠ (y.f, y.b) := by
 have own : ∀ {b x}, fct c l Y (.own b) = some x -> (x.f, x.b) = (c.n, b) := fun h => by
  obtain ⟨ds, h1, rfl⟩ := Option.map_eq_some_iff.1 h; rfl
 have ext : ∀ {i x}, fct c l Y (.ext i) = some x -> ∃ r, c.rg[i]? = some r ∧ (x.f, x.b) = (r.f, r.b) := fun h => by
  simp only [fct] at h
  split at h
  ·rename_i r ys h1 h2
   have := Option.some.inj h
   subst this
   exact ⟨r, h1, rfl⟩
  ·cases h
 have wr : ∀ {i r}, wrB s (.ext i) = true -> c.rg[i]? = some r -> r.w = true := fun hw h1 => by
  simp only [wrB] at hw
  split at hw
  ·rename_i h2
   rw [hS.wr, List.getElem?_map, h1] at h2
   exact Option.some.inj h2
  ·cases hw
 cases p with
 | own b =>
  rw [own hp]
  cases q with
  | own b' =>
   rw [own hq]
   intro h
   injection h with h1 h2
   exact hne (by rw [h2])
  | ext i =>
   obtain ⟨r, h1, h2⟩ := ext hq
   rw [h2]
   intro h
   injection h with h3 h4
   have := hc.lt r (List.mem_of_getElem? h1)
   omega
 | ext i =>
  obtain ⟨r, h1, h2⟩ := ext hp
  rw [h2]
  cases q with
  | own b' =>
   rw [own hq]
   intro h
   injection h with h3 h4
   have := hc.lt r (List.mem_of_getElem? h1)
   omega
  | ext j =>
   obtain ⟨r', h3, h4⟩ := ext hq
   rw [h4]
   have hij : i ≠ j := fun h => hne (by rw [h])
   rcases hw with hw | hw
   ·exact hc.dj i j r r' h1 h3 hij (wr hw h1)
   ·exact (hc.dj j i r' r h3 h1 (Ne.symm hij) (wr hw h3)).symm
theorem distP_get : ∀ {l : List (Bool × PB)}, distP l = true -> ∀ (i j : Nat) p q, l[i]? = some p -> l[j]? = some q -> i ≠ j -> p.1 = true -> p.2 ≠ q.2
 | [], _, i, j, p, q, hi, _, _, _ => by simp at hi
 | x :: r, h, i, j, p, q, hi, hj, hij, hp => by
  simp only [distP, Bool.and_eq_true] at h
  have key : ∀ y ∈ r, (x.1 || y.1) = true -> x.2 ≠ y.2 := fun y hy hq => by
   have := List.all_eq_true.1 h.1 y hy
   rw [hq] at this
   simpa using this
  cases i with
  | zero =>
   simp only [List.getElem?_cons_zero, Option.some.injEq] at hi
   subst hi
   cases j with
   | zero => exact absurd rfl hij
   | succ j =>
    simp only [List.getElem?_cons_succ] at hj
    exact key q (List.mem_of_getElem? hj) (by rw [hp]; rfl)
  | succ i =>
   simp only [List.getElem?_cons_succ] at hi
   cases j with
   | zero =>
    simp only [List.getElem?_cons_zero, Option.some.injEq] at hj
    subst hj
    exact (key p (List.mem_of_getElem? hi) (by rw [hp]; simp)).symm
   | succ j =>
    simp only [List.getElem?_cons_succ] at hj
    exact distP_get h.2 i j p q hi hj (by omega) hp
theorem call_ok (hc : c.ok) (hS : RepS c s e l Y) {T : Tab} (hT : TabOk c.P T) {f : Nat} {ws : List W} {ds : List D} (ha : All2 (Rep4 c) ws ds) {w : W} {s' : SU} (h : (callW T f ws s).out (some (w, s'))) :
  ∃ d l' Y', RepS c s' e l' Y' ∧ Rep4 c w d ∧ ∀ B, Fam c B -> doCall c.P f ds ⟨e, l, upd c.rg Y B⟩ = some (d, ⟨e, l', upd c.rg Y' B⟩) := by
 have key : ∀ {tf : TF}, T f = some tf -> ∀ {a : tf.sg.aT.T} {y : tf.sg.oT.T}, (argsF T s tf.sg.ak ws).bind (tupT tf.sg.aT) = some a -> (distOk tf.sg.ak ws && tf.sg.ok) = true -> tf.f a = some y ->
   (backW tf.sg.ak ws (outW tf.sg.res (xsOf tf.sg.ak) y).2 s).map (fun s' => ((outW tf.sg.res (xsOf tf.sg.ak) y).1, s')) = some (w, s') ->
   ∃ d l' Y', RepS c s' e l' Y' ∧ Rep4 c w d ∧ ∀ B, Fam c B -> doCall c.P f ds ⟨e, l, upd c.rg Y B⟩ = some (d, ⟨e, l', upd c.rg Y' B⟩) := by
  intro tf htf a y h1 h2 h3 h4
  obtain ⟨ws', k1, k2⟩ := Option.bind_eq_some_iff.1 h1
  simp only [Bool.and_eq_true, distOk] at h2
  obtain ⟨⟨hd1, hd2⟩, hsg⟩ := h2
  obtain ⟨s1, b1, b2⟩ := Option.map_eq_some_iff.1 h4
  injection b2 with b2 b3
  subst b2 b3
  obtain ⟨i0, Yc, i1, i2, i3⟩ := argsF_ok hc hS hT k1 ha
  let Fc := c.F ++ (ptsC ws).filterMap (fct c l Y)
  let c' : Cx := ⟨c.P, Fc, c.n + 1, rgOf tf.sg.ak ds, fun i => (Yc[i]?).getD []⟩
  have hF : ∀ x ∈ c.F, x ∈ c'.F := fun x hx => List.mem_append_left _ hx
  have hF2 : ∀ x ∈ (ptsC ws).filterMap (fct c l Y), x ∈ c'.F := fun x hx => List.mem_append_right _ hx
  have harg := argWs_ok (c' := c') hsg (i1 c' rfl hF hF2) k2
  have rgp : ∀ (j : Nat) r, (rgOf tf.sg.ak ds)[j]? = some r -> ∃ p, (ptsX tf.sg.ak ws)[j]? = some p ∧ r.f < c.n + 1 ∧ p.1 = r.w ∧ (r.w = true -> wrB s p.2 = true) ∧ ∃ x, fct c l Y p.2 = some x ∧ (r.f, r.b) = (x.f, x.b) := by
   intro j r hj
   have hlen := i2.length
   have hlt := getq_lt hj
   obtain ⟨p, hp⟩ : ∃ p, (ptsX tf.sg.ak ws)[j]? = some p := ⟨_, List.getElem?_eq_getElem (by omega)⟩
   obtain ⟨r', hr', q⟩ := i2.get hp
   rw [hj] at hr'
   have := Option.some.inj hr'
   subst this
   exact ⟨p, hp, q⟩
  have hok : c'.ok := by
   refine ⟨fun r hr => ?_, fun i j r q hi hj hij hw => ?_, fun x hx => ⟨?_, fun r hr hw => ?_⟩⟩
   ·obtain ⟨j, hj⟩ := List.mem_iff_getElem?.1 hr
    obtain ⟨p, _, q, _⟩ := rgp j r hj
    exact q
   ·obtain ⟨p, p1, p2, p3, p4, x, p5, p6⟩ := rgp i r hi
    obtain ⟨p', q1, q2, q3, q4, x', q5, q6⟩ := rgp j q hj
    rw [p6, q6]
    exact box_ne hc hS p5 q5 (distP_get hd1 i j p p' p1 q1 hij (by rw [p3]; exact hw)) (.inl (p4 hw))
   ·rcases List.mem_append.1 hx with hx | hx
    ·exact Nat.lt_succ_of_lt (hc.fd x hx).1
    ·obtain ⟨pb, _, p2⟩ := List.mem_filterMap.1 hx
     exact fct_f hc p2
   ·obtain ⟨i, hi⟩ := List.mem_iff_getElem?.1 hr
    obtain ⟨p, p1, p2, p3, p4, x', p5, p6⟩ := rgp i r hi
    rw [p6]
    rcases List.mem_append.1 hx with hx | hx
    ·have hwp := p4 hw
     obtain ⟨f1, f2⟩ := hc.fd x hx
     cases hpb : p.2 with
     | own b =>
      rw [hpb] at p5
      obtain ⟨ds', _, rfl⟩ := Option.map_eq_some_iff.1 p5
      intro h
      injection h with h5 h6
      have h5 : x.f = c.n := h5
      omega
     | ext i =>
      rw [hpb] at p5 hwp
      simp only [fct] at p5
      split at p5
      ·rename_i r0 ys0 g1 g2
       have := Option.some.inj p5
       subst this
       refine f2 r0 (List.mem_of_getElem? g1) ?_
       simp only [wrB] at hwp
       split at hwp
       ·rename_i g3
        rw [hS.wr, List.getElem?_map, g1] at g3
        exact Option.some.inj g3
       ·cases hwp
      ·cases p5
    ·obtain ⟨pb, g1, g2⟩ := List.mem_filterMap.1 hx
     refine box_ne hc hS g2 p5 ?_ (.inr (p4 hw))
     have h5 := List.all_eq_true.1 hd2 p (List.mem_of_getElem? p1)
     rw [p3, hw] at h5
     simp only [Bool.not_true, Bool.false_or] at h5
     have h6 := List.all_eq_true.1 h5 pb g1
     intro e
     subst e
     simp at h6
  obtain ⟨d, Y2, t1, t2, t3⟩ := (hT f tf htf).1 Fc (c.n + 1) (rgOf tf.sg.ak ds) (fun i => (Yc[i]?).getD []) Yc hok (fun i r ys _ hy _ => by simp [hy]) a ds harg y h3
  have hpf := pf_out tf.sg.res (xsOf tf.sg.ak) y
  obtain ⟨l', Y', g1, g2⟩ := back_ok hc (c1 := c0 c.P) rfl rfl hS ha i0 b1 t2 hpf.2
  refine ⟨d, l', Y', g1, pf2_up (c := c0 c.P) (c' := c) rfl (fun x hx => by cases hx) t1 hpf.1, fun B hB => ?_⟩
  have hat := i3 (upd c.rg Y B ++ [l]) fun p x hp hx => fct_sat hc hS hx hB
  have hfam : Fam c' (upd c.rg Y B ++ [l]) := by
   refine ⟨?_, fun x hx => ?_, fun r hr => ?_, fun i r hi hw => ?_⟩
   ·rw [List.length_append, fam_len hB Y]; rfl
   ·rcases List.mem_append.1 hx with hx | hx
    ·obtain ⟨l', cs, a1, a2, a3, a4⟩ := Sat.upd (rs := c.rg) (Y := Y) (fun x hx => (hc.fd x hx).2) hB.sat x hx
     exact ⟨l', cs, by rw [List.getElem?_append_left (getq_lt a1)]; exact a1, a2, a3, a4⟩
    ·obtain ⟨pb, p1, p2⟩ := List.mem_filterMap.1 hx
     exact fct_sat hc hS p2 hB x (by simp)
   ·obtain ⟨j, hj⟩ := List.mem_iff_getElem?.1 hr
    obtain ⟨z, y1, y2⟩ := ArgL_len harg j r hj
    obtain ⟨l', cs', k1, k2, k3, k4⟩ := hat j r z hj y1
    exact ⟨l', cs', k1, k2, by omega⟩
   ·obtain ⟨z, y1, y2⟩ := ArgL_len harg i r hi
    obtain ⟨l', cs', k1, k2, k3, k4⟩ := hat i r z hi y1
    exact ⟨l', cs', k1, k2, by omega, by show _ = (Yc[i]?).getD []; rw [y1, Option.getD_some, <- y2]; exact k4⟩
  unfold doCall
  rw [t3 _ hfam hat, g2 B hB]
  simp only [unsnoc_app]
  rfl
 unfold callW at h
 split at h
 ·exact h.elim
 ·rename_i sg g htf
  split at h
  ·rename_i a h1 h2
   obtain ⟨y, o1, o2⟩ := out_b h
   exact key htf (a := a) (y := y) h1 h2 o1 o2
  ·exact h.elim
 ·rename_i sg g htf
  split at h
  ·rename_i a h1 h2
   exact key htf (a := a) (y := g a) h1 h2 rfl (out_r h)
  ·exact h.elim
 ·exact h.elim
end
end Go.Proofs.Ytlhjdikklmkihaa.Ev.U
namespace Go.Proofs.Ytlhjdikklmkihaa.Ev.U
open Go
section
variable {c : Cx} {e : Env} {l : Bx} {Y : List (List D)} {t : Option Nat} {s : SU}
def rdLE : List Opd -> Env -> List D × Env
 | [], e => ([], e)
 | x :: r, e => (rdE e x :: (rdLE r (rdN e x)).1, (rdLE r (rdN e x)).2)
theorem rdL_eq (l : Bx) (o : List Bx) : ∀ (xs : List Opd) (e : Env), rdL xs ⟨e, l, o⟩ = ((rdLE xs e).1, ⟨(rdLE xs e).2, l, o⟩)
 | [], e => rfl
 | x :: r, e => by simp only [rdL, rdLE, rd_fst, rd_snd, rdL_eq l o r]
theorem rdLW_ok (hc : c.ok) : ∀ {xs : List Opd} {s : SU} {e : Env}, RepS c s e l Y -> All2 (Rep4 c) (rdLW [] xs s).1 (rdLE xs e).1 ∧ RepS c (rdLW [] xs s).2 (rdLE xs e).2 l Y
 | [], s, e, hS => ⟨trivial, hS⟩
 | x :: r, s, e, hS => by
  obtain ⟨h1, h2⟩ := rdLW_ok hc (xs := r) (rdW_st hS x)
  exact ⟨⟨rdW_ok hS (act_nil e) x, h1⟩, h2⟩
theorem rdLW_ot {p : Path} : ∀ {xs : List Opd} {s : SU}, xs.all Opd.ot = true -> rdLW p xs s = (rdsW p s xs, s)
 | [], s, _ => rfl
 | x :: r, s, h => by
  simp only [List.all_cons, Bool.and_eq_true] at h
  simp only [rdLW, rdsW, rdW_ot h.1, rdLW_ot h.2]
theorem rdLE_ot : ∀ {xs : List Opd} {e : Env}, xs.all Opd.ot = true -> rdLE xs e = (xs.map (rdE e), e)
 | [], e, _ => rfl
 | x :: r, e, h => by
  simp only [List.all_cons, Bool.and_eq_true] at h
  simp only [rdLE, List.map_cons, rdN_ot h.1, rdLE_ot h.2]
theorem y_ro {t' : Ty} {ys : List t'.T} {d : D} (h : Rep4 c (.u (.l .ro t') ys) d) : ys.length <= maxLn ∧ ∃ es, All2 (fun y e => RepL c.P t' c.F y [e]) ys es ∧ (d = .sl .ro (csz t') es ∨ (es = [] ∧ ∃ z, d = .sl .nl z [])) := l_d h.2
theorem opAp (hc : c.ok) (hS : RepS c s e l Y) {T : Tab} {a : Ty} {q : Bool} {z b : Nat} {x y : Opd} {w : W} {s' : SU} (h : (evOpW T [] t a (.ap q z b x y) s).out (some (w, s'))) : SR c e l Y t (.ap q z b x y) w s' := by
 have hx := rdW_ok hS (act_nil e) x
 have hy := rdW_ok hS (act_nil e) y
 have hS1 := rdW_st hS x
 have fin : ∀ {d : D}, Rep4 c w d -> s' = (rdW [] x s).2 -> (∀ o, evOp c.P t (.ap q z b x y) ⟨e, l, o⟩ = some (d, ⟨rdN e x, l, o⟩)) -> SR c e l Y t (.ap q z b x y) w s' := fun {d} h1 h2 h3 => by
  subst h2
  exact ⟨d, rdN e x, l, Y, hS1, h1, fun B _ => h3 _⟩
 have lim : ∀ {n : Nat}, 0 < b -> n * b <= 140737488355328 -> n <= maxLn := fun {n} hb h => by
  have : n <= n * b := Nat.le_mul_of_pos_right n hb
  unfold maxLn; omega
 simp only [evOpW] at h
 split at h
 ·rename_i _ h1 h2
  rw [h1] at hx; rw [h2] at hy
  obtain ⟨z1, dx⟩ := hx
  obtain ⟨z2, dy⟩ := hy
  have h := Option.some.inj (out_r h)
  injection h with h3 h4
  refine fin (d := .sl .nl 0 []) (by rw [<- h3]; exact ⟨0, rfl⟩) h4.symm fun o => ?_
  simp only [evOp, rd_fst, rd_snd, dx, dy]
  rw [if_pos ⟨.inr rfl, by decide, by decide, by simp⟩]; rfl
 ·rename_i t' ys _ h1 h2
  rw [h1] at hx; rw [h2] at hy
  obtain ⟨z1, dx⟩ := hx
  obtain ⟨hl, es, ha, dy⟩ := y_ro hy
  split at h
  ·rename_i hz
   obtain ⟨v, o1, o2⟩ := out_b h
   have o2 := Option.some.inj o2
   injection o2 with o3 o4
   obtain ⟨c1, rfl⟩ := apd_some o1
   simp only [List.nil_append, List.length_nil, Nat.zero_add] at c1 o3
   rw [ha.length] at c1
   have hlim := lim hz.2 c1
   rcases dy with dy | ⟨rfl, z2, dy⟩
   ·cases es with
    | nil =>
     refine fin (d := .sl .nl 0 []) (by rw [<- o3, ha.nil_r]; exact ⟨rfl, Nat.zero_le _, [], trivial, .inr ⟨rfl, 0, rfl⟩⟩) o4.symm fun o => ?_
     simp only [evOp, rd_fst, rd_snd, dx, dy]
     rw [if_pos ⟨.inr rfl, by decide, by decide, by simp⟩]; rfl
    | cons e0 es =>
     refine fin (d := .sl (apM q) z (e0 :: es)) (by rw [<- o3]; exact ⟨rfl, by rw [ha.length]; exact hlim, _, ha, .inl (by rw [hz.1])⟩) o4.symm fun o => ?_
     simp only [evOp, rd_fst, rd_snd, dx, dy]
     rw [if_pos ⟨.inl hz.1.symm, by decide, by decide, c1⟩]; rfl
   ·refine fin (d := .sl .nl 0 []) (by rw [<- o3, ha.nil_r]; exact ⟨rfl, Nat.zero_le _, [], trivial, .inr ⟨rfl, 0, rfl⟩⟩) o4.symm fun o => ?_
    simp only [evOp, rd_fst, rd_snd, dx, dy]
    rw [if_pos ⟨.inr rfl, by decide, by decide, by simp⟩]; rfl
  ·exact h.elim
 ·rename_i m t1 xs t2 ys _ h1 h2
  rw [h1] at hx; rw [h2] at hy
  obtain ⟨hl0, es0, ha0, dx⟩ := flat_cells_l hx
  obtain ⟨hl, es, ha, dy⟩ := y_ro hy
  split at h
  ·rename_i hz
   split at h
   ·rename_i ys' hcast
    obtain ⟨e1, e2⟩ := castT_eq hcast
    injection e1 with e1 e1'
    subst e1'
    subst e2
    obtain ⟨v, o1, o2⟩ := out_b h
    have o2 := Option.some.inj o2
    injection o2 with o3 o4
    obtain ⟨c1, rfl⟩ := apd_some o1
    have hlen : (es0.length + es.length) * b <= 140737488355328 := by rw [<- ha0.length, <- ha.length]; exact c1
    have hlim : (xs ++ ys).length <= maxLn := by rw [List.length_append]; exact lim hz.2.1 c1
    have hall := ha0.app ha
    obtain ⟨hz1, hz2, hz3⟩ := hz
    rcases dx with dx | ⟨rfl, z1, dx⟩
    ·rcases dy with dy | ⟨rfl, z2, dy⟩
     ·refine fin (d := .sl m z (es0 ++ es)) (by rw [<- o3]; exact ⟨rfl, hlim, _, hall, .inl (by rw [hz1])⟩) o4.symm fun o => ?_
      subst hz3
      cases q <;> (simp only [evOp, rd_fst, rd_snd, dx, dy, apM, if_true, if_false, Bool.false_eq_true]; rw [if_pos ⟨hz1.symm, .inl hz1.symm, by decide, by decide, hlen⟩])
     ·refine fin (d := .sl m z (es0 ++ [])) (by rw [<- o3]; exact ⟨rfl, hlim, _, hall, .inl (by rw [hz1])⟩) o4.symm fun o => ?_
      subst hz3
      cases q <;> (simp only [evOp, rd_fst, rd_snd, dx, dy, apM, if_true, if_false, Bool.false_eq_true]; rw [if_pos ⟨hz1.symm, .inr rfl, by decide, by decide, hlen⟩])
    ·simp only [List.nil_append, List.length_nil, Nat.zero_add] at hall hlen
     rcases dy with dy | ⟨rfl, z2, dy⟩
     ·cases es with
      | nil =>
       refine fin (d := .sl .nl 0 []) (by rw [<- o3]; exact ⟨rfl, hlim, [], hall, .inr ⟨rfl, 0, rfl⟩⟩) o4.symm fun o => ?_
       simp only [evOp, rd_fst, rd_snd, dx, dy]
       rw [if_pos ⟨.inr rfl, by decide, by decide, by simp⟩]; rfl
      | cons e0 es =>
       refine fin (d := .sl (apM q) z (e0 :: es)) (by rw [<- o3]; exact ⟨rfl, hlim, _, hall, .inl (by rw [hz1, hz3])⟩) o4.symm fun o => ?_
       simp only [evOp, rd_fst, rd_snd, dx, dy]
       rw [if_pos ⟨.inl hz1.symm, by decide, by decide, hlen⟩]; rfl
     ·refine fin (d := .sl .nl 0 []) (by rw [<- o3]; exact ⟨rfl, hlim, [], hall, .inr ⟨rfl, 0, rfl⟩⟩) o4.symm fun o => ?_
      simp only [evOp, rd_fst, rd_snd, dx, dy]
      rw [if_pos ⟨.inr rfl, by decide, by decide, by simp⟩]; rfl
   ·exact h.elim
  ·exact h.elim
 ·exact h.elim
theorem opCall (hc : c.ok) (hS : RepS c s e l Y) {T : Tab} (hT : TabOk c.P T) {a : Ty} {f : Nat} {xs : List Opd} {w : W} {s' : SU} (h : (evOpW T [] t a (.call f xs) s).out (some (w, s'))) : SR c e l Y t (.call f xs) w s' := by
 simp only [evOpW, List.isEmpty_nil, Bool.or_true] at h
 obtain ⟨h1, h2⟩ := rdLW_ok hc (xs := xs) hS
 obtain ⟨d, l', Y', g1, g2, g3⟩ := call_ok hc h2 hT h1 h
 refine ⟨d, _, l', Y', g1, g2, fun B hB => ?_⟩
 simp only [evOp, rdL_eq]
 exact g3 B hB
theorem dwn1_ok {w : W} {d : D} (h : Rep2 c w d) : Rep2 c w.dwn1 d.dwn1 := by
 cases w with
 | u τ x =>
  have h1 := h.1
  have h2 := h.2
  cases τ with
  | i k => obtain ⟨rfl, h3⟩ := i_d h2; exact ⟨rfl, rfl, h3⟩
  | b => obtain rfl := b_d h2; exact ⟨rfl, rfl⟩
  | s => obtain ⟨rfl, h3⟩ := s_d h2; exact ⟨rfl, rfl, h3⟩
  | l m t =>
   obtain ⟨hl, es, h3, h4⟩ := l_d h2
   cases m with
   | mu =>
    rcases h4 with rfl | ⟨rfl, z, rfl⟩
    ·exact ⟨rfl, hl, es, h3, .inl rfl⟩
    ·exact ⟨rfl, hl, [], h3, .inr ⟨rfl, z, rfl⟩⟩
   | app =>
    rcases h4 with rfl | ⟨rfl, z, rfl⟩
    ·exact ⟨rfl, hl, es, h3, .inl rfl⟩
    ·exact ⟨rfl, hl, [], h3, .inr ⟨rfl, z, rfl⟩⟩
   | ro =>
    rcases h4 with rfl | ⟨rfl, z, rfl⟩
    ·exact ⟨rfl, hl, es, h3, .inl rfl⟩
    ·exact ⟨rfl, hl, [], h3, .inr ⟨rfl, z, rfl⟩⟩
   | nl =>
    rcases h4 with rfl | ⟨rfl, z, rfl⟩
    ·exact ⟨rfl, hl, es, h3, .inl rfl⟩
    ·exact ⟨rfl, hl, [], h3, .inr ⟨rfl, z, rfl⟩⟩
  | fn a r => obtain ⟨f, caps, rfl, h3⟩ := fn_d h2; exact ⟨rfl, f, caps, rfl, h3⟩
  | cl f r => obtain ⟨h0, cs, rfl, h3⟩ := cl_d h2; exact ⟨rfl, h0, cs, rfl, h3⟩
  | _ => cases h1
 | nil => obtain ⟨z, rfl⟩ := h; exact ⟨z, rfl⟩
 | np => rw [show d = .v (.pointer none) from h]; exact rfl
 | un => trivial
 | pt b off => cases b with
  | own b => rw [show d = .ptr c.n b off from h]; exact rfl
  | ext i => obtain ⟨r, h1, h2⟩ := h; rw [h2]; exact ⟨r, h1, rfl⟩
 | fp ws off => obtain ⟨q, rfl, h2⟩ := h; exact ⟨q, rfl, h2⟩
 | clo f ws => obtain ⟨q, rfl, h2⟩ := h; exact ⟨q, rfl, h2⟩
 | ag => exact False.elim (by simpa [Rep2, Rep1, Rep0] using h)
 | tp => exact False.elim (by simpa [Rep2, Rep1, Rep0] using h)
 | gd => exact False.elim (by simpa [Rep2, Rep1, Rep0] using h)
 | lb => exact False.elim (by simpa [Rep2, Rep1, Rep0] using h)
 | rs b τ lo n =>
  obtain ⟨h0, rfl | ⟨h1, z, rfl⟩⟩ := h
  ·exact ⟨h0, .inl rfl⟩
  ·exact ⟨h0, .inr ⟨h1, z, rfl⟩⟩
 | ep b τ i off => obtain ⟨h0, rfl⟩ := h; exact ⟨h0, rfl⟩
theorem dwnA_ok {w : W} {d : D} (h : Rep4 c w d) : Rep4 c (dwnW w) (dwnA d) := by
 cases w with
 | ag ws => obtain ⟨ds, rfl, h2⟩ := h; exact ⟨_, rfl, h2.map fun _ _ _ q => dwn1_ok q⟩
 | un => exact trivial
 | tp ws => obtain ⟨ds, rfl, h2⟩ := h; exact ⟨_, rfl, h2⟩
 | gd => exact (Rep4_gd h).elim
 | _ =>
  have h2 := of3 (of4 h (fun _ q => by cases q)) (fun _ q => by cases q)
  have k := ag_d h2 (fun _ q => by cases q)
  rcases k with k | k | k
  ·cases k
  ·cases k
  ·have e : dwnA d = d.dwn1 := by cases d <;> first | rfl | cases k
   rw [e]; exact to4x2 (dwn1_ok h2)
theorem calf_eq {P : Caller} {t : Option Nat} {f : Nat} {xs : List Opd} {st st' : S} {d : D} (h : doCall P f (rdL xs st).1 (rdL xs st).2 = some (d, st')) : evOp P t (.calf f xs) st = some (dwnA d, st') := by
 simp only [evOp, h]
theorem opCalf (hc : c.ok) (hS : RepS c s e l Y) {T : Tab} (hT : TabOk c.P T) {a : Ty} {f : Nat} {xs : List Opd} {w : W} {s' : SU} (h : (evOpW T [] t a (.calf f xs) s).out (some (w, s'))) : SR c e l Y t (.calf f xs) w s' := by
 simp only [evOpW, List.isEmpty_nil, Bool.or_true] at h
 obtain ⟨r, o1, o2⟩ := out_map h
 cases r with
 | none => cases o2
 | some q =>
  obtain ⟨w1, s1⟩ := q
  have o2 := Option.some.inj o2
  injection o2 with o3 o4
  obtain ⟨h1, h2⟩ := rdLW_ok hc (xs := xs) hS
  obtain ⟨d, l', Y', g1, g2, g3⟩ := call_ok hc h2 hT h1 o1
  have o4 : s1 = s' := o4
  rw [o4] at g1
  exact ⟨dwnA d, _, l', Y', g1, by rw [<- o3]; exact dwnA_ok g2, fun B hB => calf_eq (by rw [rdL_eq]; exact g3 B hB)⟩
theorem opCv (hc : c.ok) (hS : RepS c s e l Y) {T : Tab} (hT : TabOk c.P T) {a : Ty} {x : Opd} {xs : List Opd} {w : W} {s' : SU} (h : (evOpW T [] t a (.cv x xs) s).out (some (w, s'))) : SR c e l Y t (.cv x xs) w s' := by
 have hx := rdW_ok hS (act_nil e) x
 obtain ⟨h1, h2⟩ := rdLW_ok hc (xs := xs) hS
 simp only [evOpW] at h
 split at h
 ·rename_i f caps _ hq
  rw [hq] at hx
  obtain ⟨cs, dx, m1, m2⟩ := hx
  obtain ⟨d, l', Y', g1, g2, g3⟩ := call_ok hc h2 hT (h1.app (m1.mono fun _ _ _ q => to4x2 (to2 q))) h
  refine ⟨d, _, l', Y', g1, g2, fun B hB => ?_⟩
  simp only [evOp, rd_fst, dx, rdL_eq]
  exact g3 B hB
 ·rename_i a r φ _ hq
  rw [hq] at hx
  obtain ⟨f, caps, dx, _, hφ⟩ := fn_d hx.2
  split at h
  ·rename_i y hy hfo
   simp only [Bool.and_eq_true] at hfo
   obtain ⟨z, o1, o2⟩ := out_b h
   have o2 := Option.some.inj o2
   injection o2 with o3 o4
   obtain ⟨k1, k2⟩ := tupT_ok hy h1
   obtain ⟨d, q, r1, r2, r3⟩ := hφ y _ (RepL.fo hfo.1 k2) z o1 (c.n + 1) fun x hx => Nat.lt_succ_of_lt (hc.fd x hx).1
   refine ⟨d, _, l, Y, by rw [<- o4]; exact h2, ?_, fun B hB => ?_⟩
   ·rw [<- o3]
    exact resW_ok hfo.2 ⟨q, r1, RepL.up (fun x hx => by cases hx) r2⟩
   ·simp only [evOp, rd_fst, dx, rdL_eq, doCall]
    rw [r3 (upd c.rg Y B ++ [l]) (by rw [List.length_append, fam_len hB Y]; rfl) (fun x hx => by
     obtain ⟨l', cs, a1, a2, a3, a4⟩ := Sat.upd (rs := c.rg) (Y := Y) (fun x hx => (hc.fd x hx).2) hB.sat x hx
     exact ⟨l', cs, by rw [List.getElem?_append_left (getq_lt a1)]; exact a1, a2, a3, a4⟩)]
    simp only [unsnoc_app]
    rfl
  ·exact h.elim
 ·exact h.elim
def cz (P : Caller) : Cx := ⟨P, [], 0, [], fun _ => []⟩
theorem cz_ok (P : Caller) : (cz P).ok := ⟨(fun r h => by cases h), (fun i j r q h => by simp [cz] at h), (fun x h => by cases h)⟩
theorem snp1_rep (hS : RepS c s e l Y) {w w' : W} {q : List (Int × Int)} {d : D} (h : Rep4 c w d) (hs : snpW1 s w = some (q, w')) (hq : ∀ p ∈ q, p.1 = p.2) : ∃ d', Rep2 (cz c.P) w' d' ∧ (∀ ws, w' ≠ .ag ws) ∧ d.aggB = false ∧ ∀ o : List Bx, o.length = c.n -> d.snp1 ⟨e, l, o⟩ = some d' := by
 unfold snpW1 at hs
 split at hs
 ·rename_i k x
  have := Option.some.inj hs; injection this with h1 h2; subst h1 h2
  obtain ⟨rfl, h3⟩ := i_d h.2
  exact ⟨_, ⟨rfl, rfl, h3⟩, (fun ws q => by cases q), rfl, fun o ho => rfl⟩
 ·rename_i x
  have := Option.some.inj hs; injection this with h1 h2; subst h1 h2
  obtain rfl := b_d h.2
  exact ⟨_, ⟨rfl, rfl⟩, (fun ws q => by cases q), rfl, fun o ho => rfl⟩
 ·rename_i x
  have := Option.some.inj hs; injection this with h1 h2; subst h1 h2
  obtain ⟨rfl, h3⟩ := s_d h.2
  exact ⟨_, ⟨rfl, rfl, h3⟩, (fun ws q => by cases q), rfl, fun o ho => rfl⟩
 ·rename_i m t x
  split at hs
  ·rename_i hk
   have := Option.some.inj hs; injection this with h1 h2; subst h1 h2
   obtain ⟨hl, es, h3, h4⟩ := flat_cells_l h
   have h3' : All2 (fun y e => RepL c.P t [] y [e]) x es := h3.mono fun _ _ _ q => RepL.fo hk.1 q
   rcases h4 with rfl | ⟨rfl, z, rfl⟩
   ·refine ⟨.sl .ro (csz t) es, ⟨rfl, hl, es, h3', .inl rfl⟩, (fun ws q => by cases q), rfl, fun o ho => ?_⟩
    cases m with
    | nl => exact absurd rfl hk.2
    | _ => rfl
   ·exact ⟨.sl .nl z [], ⟨rfl, hl, [], h3', .inr ⟨rfl, z, rfl⟩⟩, (fun ws q => by cases q), rfl, fun o ho => rfl⟩
  ·cases hs
 ·have := Option.some.inj hs; injection this with h1 h2; subst h1 h2
  obtain ⟨z, rfl⟩ := h
  exact ⟨.sl .nl z [], ⟨z, rfl⟩, (fun ws q => by cases q), rfl, fun o ho => rfl⟩
 ·rename_i b τ n
  split at hs
  ·rename_i τ' m xs0 hb
   split at hs
   ·rename_i xs hcast
    split at hs
    ·rename_i hfo
     have := Option.some.inj hs; injection this with h1 h2; subst h1 h2
     obtain ⟨e1, e2⟩ := mu_cast hcast
     subst e1
     subst e2
     have hnm : n = m := hq (n, m) (by simp)
     obtain ⟨⟨n0, n1, _⟩, hd⟩ := (show Rep4 c (.rs b τ' none n) d from h)
     obtain ⟨⟨hk, hv⟩, hmk, hlen, hl, es, ha, hlk⟩ := (show BRep c [.lb τ' m xs0] (lk b l) from hS.box b _ hb)
     have ha' : All2 (fun y e => RepL c.P τ' [] y [e]) xs0 es := ha.mono fun _ _ _ q => RepL.fo hfo q
     have hel := ha.length
     rcases hd with rfl | ⟨h0, z, rfl⟩
     ·refine ⟨.sl .ro (csz τ') es, ⟨rfl, hl, es, ha', .inl rfl⟩, (fun ws q => by cases q), rfl, fun o ho => ?_⟩
      simp only [D.snp1, Option.getD_none, Int.toNat_zero, Nat.zero_mul]
      have hn : n.toNat = es.length := by omega
      by_cases hz : n.toNat = 0
      ·rw [if_pos hz]
       have : es = [] := List.eq_nil_of_length_eq_zero (by omega)
       rw [this]
      ·rw [if_neg hz, bx_own ho]
       rcases hlk with hlk | ⟨h0, _⟩
       ·have hrf : (es.flatMap D.cells).all D.rf1 = true := by
         refine List.all_eq_true.2 fun d hd => ?_
         obtain ⟨e, he, hd⟩ := List.mem_flatMap.1 hd
         exact List.all_eq_true.1 (List.all_eq_true.1 (els_rf hv hk ha) e he) d hd
        have hfl := flat_len (xs := es) (z := csz τ') fun i d hi => els_len hv ha d (List.mem_of_getElem? hi)
        rw [hlk, Option.bind_some, if_pos ⟨by rw [hfl, hn]; omega, hrf⟩, hn, List.drop_zero, chunks_flat (els_mk hv hk hmk ha)]
       ·exact absurd (by rw [hn, h0]; rfl) hz
     ·have he0 : es = [] := List.eq_nil_of_length_eq_zero (by omega)
      exact ⟨.sl .nl z [], ⟨rfl, hl, es, ha', .inr ⟨he0, z, rfl⟩⟩, (fun ws q => by cases q), rfl, fun o ho => rfl⟩
    ·cases hs
   ·cases hs
  ·cases hs
 ·cases hs
theorem snpL_rep (hS : RepS c s e l Y) : ∀ {ws ws' : List W} {q : List (Int × Int)} {ds : List D}, All2 (Rep2 c) ws ds -> snpWL s ws = some (q, ws') -> (∀ p ∈ q, p.1 = p.2) -> ∃ ds', All2 (Rep2 (cz c.P)) ws' ds' ∧ ∀ o : List Bx, o.length = c.n -> snpL ⟨e, l, o⟩ ds = some ds'
 | [], ws', q, ds, h, hs, hq => by
  have := Option.some.inj hs; injection this with h1 h2; subst h1 h2
  obtain rfl := h.nil_l
  exact ⟨[], trivial, fun o ho => rfl⟩
 | w :: ws, ws', q, ds, h, hs, hq => by
  obtain ⟨d, r, rfl, a1, a2⟩ := h.cons_l
  simp only [snpWL] at hs
  split at hs
  ·rename_i p1 p2 k1 k2
   have := Option.some.inj hs; injection this with h1 h2; subst h1 h2
   obtain ⟨d', g1, _, _, g2⟩ := snp1_rep hS (to4x2 a1) (q := p1.1) (w' := p1.2) k1 fun p hp => hq p (by simp [hp])
   obtain ⟨ds', g3, g4⟩ := snpL_rep hS a2 (q := p2.1) (ws' := p2.2) k2 fun p hp => hq p (by simp [hp])
   exact ⟨d' :: ds', ⟨g1, g3⟩, fun o ho => by simp only [snpL, g2 o ho, g4 o ho]⟩
  ·cases hs
theorem snp_rep (hS : RepS c s e l Y) {w w' : W} {q : List (Int × Int)} {d : D} (h : Rep4 c w d) (hs : snpW s w = some (q, w')) (hq : ∀ p ∈ q, p.1 = p.2) : ∃ d', Rep3 (cz c.P) w' d' ∧ ∀ o : List Bx, o.length = c.n -> d.snp ⟨e, l, o⟩ = some d' := by
 by_cases hw : ∃ ws, w = .ag ws
 ·obtain ⟨ws, rfl⟩ := hw
  simp only [snpW] at hs
  obtain ⟨p, k1, k2⟩ := Option.map_eq_some_iff.1 hs
  injection k2 with h1 h2
  subst h1 h2
  obtain ⟨cs, rfl, h3⟩ := h
  obtain ⟨ds', g3, g4⟩ := snpL_rep hS h3 (q := p.1) (ws' := p.2) k1 hq
  exact ⟨.agg ds', ⟨ds', rfl, g3⟩, fun o ho => by simp only [D.snp, g4 o ho]; rfl⟩
 ·have hn : snpW s w = snpW1 s w := by
   cases w with
   | ag ws => exact absurd ⟨ws, rfl⟩ hw
   | _ => rfl
  rw [hn] at hs
  obtain ⟨d', g1, g2, g3, g4⟩ := snp1_rep hS h hs hq
  refine ⟨d', to3 g1, fun o ho => ?_⟩
  rw [<- g4 o ho]
  cases d <;> first | rfl | cases g3
theorem rdRW_rep (hS : RepS c s e l Y) (x : Opd) : (∃ p b w, rdRW x s = .gd p b w) ∨ ∀ o, Rep4 c (rdRW x s) (rdR x ⟨e, l, o⟩) := by
 cases x with
 | t n =>
  have h := hS.env n
  by_cases hg : ∃ p b w, getW n s.e = .gd p b w
  ·exact .inl hg
  ·refine .inr fun o => ?_
   have : ∀ {w : W} {d : D}, (¬ ∃ p b v, w = .gd p b v) -> Rep5 c e w d -> Rep4 c w d := fun {w d} hg h => by
    cases w with
    | gd p b v => exact absurd ⟨p, b, v, rfl⟩ hg
    | _ => exact h
   exact this hg h
 | m n => exact .inr fun o => by have := rdW_ok hS (act_nil e) (.m n); rw [<- rd_fst (.m n) e l o] at this; exact this
 | c v => exact .inr fun o => by have := rdW_ok hS (act_nil e) (.c v); rw [<- rd_fst (.c v) e l o] at this; exact this
 | cn => exact .inr fun o => by have := rdW_ok hS (act_nil e) .cn; rw [<- rd_fst .cn e l o] at this; exact this
 | f n => exact .inr fun o => by have := rdW_ok hS (act_nil e) (.f n); rw [<- rd_fst (.f n) e l o] at this; exact this
theorem rdR_o (x : Opd) (o o' : List Bx) : rdR x ⟨e, l, o⟩ = rdR x ⟨e, l, o'⟩ := by cases x <;> rfl
theorem snpA_rep (hS : RepS c s e l Y) : ∀ {xs : List Opd} {ws' : List W} {q : List (Int × Int)}, snpAW s xs = some (q, ws') -> (∀ p ∈ q, p.1 = p.2) -> ∃ ds', All2 (Rep3 (cz c.P)) ws' ds' ∧ ∀ o : List Bx, o.length = c.n -> snpA ⟨e, l, o⟩ xs = some ds'
 | [], ws', q, hs, hq => by
  have := Option.some.inj hs; injection this with h1 h2; subst h1 h2
  exact ⟨[], trivial, fun o ho => rfl⟩
 | x :: xs, ws', q, hs, hq => by
  simp only [snpAW] at hs
  split at hs
  ·rename_i p1 p2 k1 k2
   have := Option.some.inj hs; injection this with h1 h2; subst h1 h2
   have hx : ∀ o, Rep4 c (rdRW x s) (rdR x ⟨e, l, o⟩) := by
    rcases rdRW_rep hS x with ⟨p, b, w, hg⟩ | h
    ·rw [hg] at k1; cases k1
    ·exact h
   obtain ⟨d', g1, g2⟩ := snp_rep hS (hx []) (q := p1.1) (w' := p1.2) k1 fun p hp => hq p (by simp [hp])
   obtain ⟨ds', g3, g4⟩ := snpA_rep hS (q := p2.1) (ws' := p2.2) k2 fun p hp => hq p (by simp [hp])
   exact ⟨d' :: ds', ⟨g1, g3⟩, fun o ho => by simp only [snpA, rdR_o x o [], g2 o ho, g4 o ho]⟩
  ·cases hs
theorem chkL_some {α : Type} {o : Option α} {y : α} : ∀ {q : List (Int × Int)}, chkL q o = some y -> (∀ p ∈ q, p.1 = p.2) ∧ o = some y
 | [], h => ⟨fun p hp => (by cases hp), h⟩
 | (a, b) :: q, h => by
  obtain ⟨u, h1, h2⟩ := Option.bind_eq_some_iff.1 h
  obtain ⟨h3, h4⟩ := chkL_some h2
  refine ⟨fun p hp => ?_, h4⟩
  rcases List.mem_cons.1 hp with rfl | hp
  ·unfold eqI at h1
   split at h1
   ·assumption
   ·cases h1
  ·exact h3 p hp
theorem argl_v {c' : Cx} : ∀ {ak : List AK} {ws : List W} {ds : List D}, (∀ a ∈ ak, ∃ τ, a = .v τ) -> ak.length = ws.length -> All2 (Rep3 c') ws ds -> ArgL c' ak ws ds [] []
 | [], [], ds, _, _, ha => by obtain rfl := ha.nil_l; trivial
 | [], _ :: _, ds, _, hl, ha => by simp at hl
 | a :: ak, [], ds, _, hl, ha => by simp at hl
 | a :: ak, w :: ws, ds, hv, hl, ha => by
  obtain ⟨d, q, rfl, a1, a2⟩ := ha.cons_l
  obtain ⟨τ, rfl⟩ := hv a (by simp)
  exact ⟨a1, argl_v (fun b hb => hv b (by simp [hb])) (by simpa using hl) a2⟩
theorem xs_v : ∀ {ak : List AK}, (∀ a ∈ ak, ∃ τ, a = .v τ) -> xsOf ak = []
 | [], _ => rfl
 | a :: ak, hv => by
  obtain ⟨τ, rfl⟩ := hv a (by simp)
  exact xs_v (ak := ak) fun b hb => hv b (by simp [hb])
theorem opPcal (hc : c.ok) (hS : RepS c s e l Y) {T : Tab} (hT : TabOk c.P T) {a : Ty} {f : Nat} {xs : List Opd} {w : W} {s' : SU} (h : (evOpW T [] t a (.pcal f xs) s).out (some (w, s'))) : SR c e l Y t (.pcal f xs) w s' := by
 simp only [evOpW] at h
 split at h
 ·rename_i q ws tf _ hsn htf
  split at h
  ·rename_i av hk ha
   simp only [Bool.and_eq_true] at hk
   obtain ⟨⟨⟨k1, k2⟩, k3⟩, k4⟩ := hk
   obtain ⟨y, o1, o2⟩ := out_b h
   injection Option.some.inj o2 with p2 p3
   subst p2 p3
   obtain ⟨hq, hy⟩ := chkL_some o1
   obtain ⟨ds, g1, g2⟩ := snpA_rep hS hsn hq
   have hv : ∀ a ∈ tf.sg.ak, ∃ τ, a = .v τ := fun a h => by
    simp only [okQ, htf] at k1
    have := List.all_eq_true.1 k1 a h
    cases a with
    | v τ => exact ⟨τ, rfl⟩
    | _ => cases this
   have harg := argWs_ok k2 (argl_v hv (nbeq.1 k4) g1) ha
   obtain ⟨d, Y', r1, r2, r3⟩ := (hT f tf htf).1 [] 0 [] (fun _ => []) [] (cz_ok c.P) (fun i r ys h => by simp at h) av ds harg y hy
   have hrun : c.P f ds [] = some (d, []) := by
    have := r3 [] ⟨rfl, Sat.nil [], (fun r h => by cases h), (fun i r h => by simp at h)⟩ (fun i r ys h => by simp at h)
    rw [this]
    cases Y' <;> rfl
   have key : ∀ {res : Ty} {xk : List Ty} {z : (oTy res xk).T}, xk = [] -> scal res = true -> Rep4 (c0 c.P) (outW res xk z).1 d -> ∃ v, d = .v v ∧ Rep4 c (outW res xk z).1 d := by
    intro res xk z hx hsc hrep
    subst hx
    cases res with
    | i k => obtain ⟨rfl, h3⟩ := i_d hrep.2; exact ⟨_, rfl, rfl, rfl, h3⟩
    | b => obtain rfl := b_d hrep.2; exact ⟨_, rfl, rfl, rfl⟩
    | s => obtain ⟨rfl, h3⟩ := s_d hrep.2; exact ⟨_, rfl, rfl, rfl, h3⟩
    | _ => cases hsc
   obtain ⟨v, hd, hrep⟩ := key (xs_v hv) k3 r1
   subst hd
   refine ⟨.v v, e, l, Y, hS, hrep, fun B hB => ?_⟩
   simp only [evOp, g2 _ (fam_len hB Y), hrun]
  ·exact h.elim
 ·exact h.elim
theorem op_ok (hc : c.ok) (hS : RepS c s e l Y) {T : Tab} (hT : TabOk c.P T) {a : Ty} {op : Op} {w : W} {s' : SU} (h : (evOpW T [] t a op s).out (some (w, s'))) : SR c e l Y t op w s' := by
 cases hg : gOp op with
 | true =>
  obtain ⟨e1, h2⟩ := opG hc hS (act_nil e) hg h
  subst e1
  exact GR.sr hS h2
 | false =>
  cases op with
  | mv x => exact opM hc hS h
  | ext x i => exact opE hc hS h
  | al z => exact opAl hc hS h
  | bx x => exact opBx hc hS h
  | ldm q x => exact opLdm hc hS h
  | st n x y => exact opSt hc hS h
  | call f xs => exact opCall hc hS hT h
  | calf f xs => exact opCalf hc hS hT h
  | cv x xs => exact opCv hc hS hT h
  | ap q z b x y => exact opAp hc hS h
  | cpy x y => exact opCpy hc hS h
  | pcal f xs => exact opPcal hc hS hT h
  | six x y => simp only [evOpW] at h; exact False.elim h
  | bxo u z => simp only [evOpW] at h; exact False.elim h
  | mkm => simp only [evOpW] at h; exact False.elim h
  | _ => cases hg
end
end Go.Proofs.Ytlhjdikklmkihaa.Ev.U
namespace Go.Proofs.Ytlhjdikklmkihaa.Ev.U
open Go
section
variable {c : Cx} {e : Env} {l : Bx} {Y : List (List D)} {s : SU}
theorem undef_nb (b : Bool) : (.v undef : D) ≠ .v (.bool b) := by
 intro h
 injection h with h
 unfold undef at h
 cases h
theorem cnd_iff {x w : Bool} : cnd x w = true ↔ x = w := by cases x <;> cases w <;> decide
theorem path_ok (hS : RepS c s e l Y) {g : Nat} {want : Bool} {p : Path} {b : Bool} (h : pathOf g want s = some (p, b)) : p ≠ [] ∧ (b = true ↔ act p e) ∧
  ((act p e -> get g e = .v (.bool want)) ∧ (¬ act p e -> get g e = .v (.bool !want) ∨ get g e = .v undef)) := by
 have hg := hS.env g
 unfold pathOf at h
 split at h
 ·rename_i x hx
  rw [hx] at hg
  have hd : get g e = .v (.bool x) := b_d hg.2
  have := Option.some.inj h
  injection this with h1 h2
  subst h1 h2
  have ha : act [(g, want)] e ↔ x = want := by
   constructor
   ·intro q
    have := q (g, want) (by simp)
    rw [hd] at this
    injection this with this
    injection this
   ·intro q y hy
    have : y = (g, want) := by simpa using hy
    subst this
    rw [hd, q]
  refine ⟨by simp, by rw [cnd_iff, ha], fun q => by rw [hd, ha.1 q], fun q => .inl ?_⟩
  rw [hd]
  have : x ≠ want := fun k => q (ha.2 k)
  cases x <;> cases want <;> first | rfl | exact absurd rfl this
 ·rename_i p0 c0 x hx
  rw [hx] at hg
  obtain ⟨g1, g2, g3⟩ := hg
  have := Option.some.inj h
  injection this with h1 h2
  subst h1 h2
  have ha : act ((g, want) :: p0) e ↔ act p0 e ∧ x = want := by
   constructor
   ·intro q
    have q0 : act p0 e := fun y hy => q y (by simp [hy])
    have q1 := q (g, want) (by simp)
    rw [b_d (g2 q0).2] at q1
    injection q1 with q1
    injection q1 with q1
    exact ⟨q0, q1⟩
   ·intro ⟨q0, q1⟩
    exact act_cons q0 (by rw [b_d (g2 q0).2, q1])
  refine ⟨by simp, by rw [Bool.and_eq_true, cnd_iff, ha, g1], fun q => by rw [b_d (g2 (ha.1 q).1).2, (ha.1 q).2], fun q => ?_⟩
  by_cases q0 : act p0 e
  ·left
   rw [b_d (g2 q0).2]
   have : x ≠ want := fun k => q (ha.2 ⟨q0, k⟩)
   cases x <;> cases want <;> first | rfl | exact absurd rfl this
  ·exact .inr (g3 q0)
 ·cases h
theorem stp_act {q : Stp} {g : Nat} {want : Bool} (hg : q.g = some (g, want)) {st : S} (h : get g st.e = .v (.bool want)) : evStp c.P q st = (evOp c.P q.t q.op st).map fun r => putO q.t r.1 r.2 := by
 unfold evStp
 rw [hg]
 simp only [h, if_true]
theorem stp_not {q : Stp} {g : Nat} {want : Bool} (hg : q.g = some (g, want)) {st : S} (h : get g st.e = .v (.bool !want) ∨ get g st.e = .v undef) : evStp c.P q st = some (putO q.t (.v undef) st) := by
 unfold evStp
 rw [hg]
 rcases h with h | h
 ·simp only [h]
  rw [if_neg (by cases want <;> simp)]
 ·simp only [h]
  split
  ·rename_i b hb
   exact absurd hb (undef_nb b)
  ·rfl
  ·rename_i h1 h2; exact absurd rfl (h2 undef)
theorem put_gd (hS : RepS c s e l Y) {t : Nat} {p : Path} {b : Bool} {w : W} {d : D} (hn : namesP t p = false) (hb : b = true ↔ act p e) (h1 : act p e -> Rep4 c w d) (h2 : ¬ act p e -> d = .v undef) : RepS c (putW t (.gd p b w) s) ((t, d) :: e) l Y :=
 ⟨env_put hS.env ⟨hb.trans (act_put hn).symm, fun q => h1 ((act_put hn).1 q), fun q => h2 fun k => q ((act_put hn).2 k)⟩, hS.box, hS.nm, hS.ext, hS.wr, hS.len, hS.ro⟩
theorem out_i {τ : Ty} {o o' d : Option τ.T} {k : τ.T -> Option (W × SU)} : True := trivial
theorem opA (hc : c.ok) (hS : RepS c s e l Y) {T : Tab} (hT : TabOk c.P T) {p : Path} (hp : act p e) (hne : p ≠ []) {t : Option Nat} {a : Ty} {op : Op} (hk : (okG op || okC T op) = true) (hm : op.ms = none) {w : W} {s' : SU} (h : (evOpW T p t a op s).out (some (w, s'))) :
  ∃ d l' Y', RepS c s e l' Y' ∧ Rep4 c w d ∧ ∀ B, Fam c B -> evOp c.P t op ⟨e, l, upd c.rg Y B⟩ = some (d, ⟨e, l', upd c.rg Y' B⟩) := by
 cases hg : gOp op with
 | true =>
  obtain ⟨e1, d, h1, h2⟩ := opG (t := t) hc hS hp hg h
  exact ⟨d, l, Y, hS, h1, h2⟩
 | false =>
  have callq : ∀ {f : Nat} {xs : List Opd} {w : W} {s' : SU}, xs.all Opd.ot = true -> (∃ tf, T f = some tf ∧ xsOf tf.sg.ak = []) -> (callW T f (rdLW p xs s).1 (rdLW p xs s).2).out (some (w, s')) ->
    ∃ d l' Y', RepS c s e l' Y' ∧ Rep4 c w d ∧ ∀ B, Fam c B -> doCall c.P f (rdLE xs e).1 ⟨(rdLE xs e).2, l, upd c.rg Y B⟩ = some (d, ⟨e, l', upd c.rg Y' B⟩) := by
   intro f xs w s' hot htf hq
   rw [rdLW_ot hot] at hq
   rw [rdLE_ot hot]
   obtain ⟨d, l', Y', g1, g2, g3⟩ := call_ok hc hS hT (rdsW_ok hS hp xs) hq
   have hs : s' = s := by
    obtain ⟨tf, h1, h2⟩ := htf
    have back : ∀ {ak : List AK} {ws ys : List W} {s1 : SU}, xsOf ak = [] -> backW ak ws ys s = some s1 -> s1 = s := by
     intro ak
     induction ak with
     | nil => intro ws ys s1 _ h; simp only [backW] at h; exact (Option.some.inj h).symm
     | cons a ak ih =>
      intro ws ys s1 hx h
      cases a with
      | x r => cases hx
      | v τ => cases ws with
       | nil => simp [backW] at h
       | cons w ws => cases ys with
        | nil => simp only [backW] at h; exact ih hx h
        | cons => simp only [backW] at h; exact ih hx h
      | o r => cases ws with
       | nil => simp [backW] at h
       | cons w ws => cases ys with
        | nil => simp only [backW] at h; exact ih hx h
        | cons => simp only [backW] at h; exact ih hx h
    unfold callW at hq
    rw [h1] at hq
    cases tf with
    | par sg g =>
     simp only at hq
     split at hq
     ·obtain ⟨y, _, o2⟩ := out_b hq
      obtain ⟨s1, b1, b2⟩ := Option.map_eq_some_iff.1 o2
      injection b2 with b2 b3
      rw [<- b3]; exact back h2 b1
     ·exact hq.elim
    | tot sg g =>
     simp only at hq
     split at hq
     ·have o2 := out_r hq
      obtain ⟨s1, b1, b2⟩ := Option.map_eq_some_iff.1 o2
      injection b2 with b2 b3
      rw [<- b3]; exact back h2 b1
     ·exact hq.elim
    | gen a r g => exact hq.elim
   subst hs
   exact ⟨d, l', Y', g1, g2, g3⟩
  have pe : p.isEmpty = false := by cases p with | nil => exact absurd rfl hne | cons => rfl
  cases op with
  | call f xs =>
   have htf : ∃ tf, T f = some tf ∧ xsOf tf.sg.ak = [] := by
    simp only [okG, okC, Bool.false_or] at hk
    split at hk
    ·rename_i tf htf; exact ⟨tf, htf, by simpa using hk⟩
    ·cases hk
   simp only [evOpW, pe, Bool.or_false] at h
   split at h
   ·rename_i hot
    obtain ⟨d, l', Y', g1, g2, g3⟩ := callq hot htf h
    exact ⟨d, l', Y', g1, g2, fun B hB => by simp only [evOp, rdL_eq]; exact g3 B hB⟩
   ·exact h.elim
  | calf f xs =>
   have htf : ∃ tf, T f = some tf ∧ xsOf tf.sg.ak = [] := by
    simp only [okG, okC, Bool.false_or] at hk
    split at hk
    ·rename_i tf htf; exact ⟨tf, htf, by simpa using hk⟩
    ·cases hk
   simp only [evOpW, pe, Bool.or_false] at h
   split at h
   ·rename_i hot
    obtain ⟨r, o1, o2⟩ := out_map h
    cases r with
    | none => cases o2
    | some q =>
     obtain ⟨w1, s1⟩ := q
     have o2 := Option.some.inj o2
     injection o2 with o3 o4
     obtain ⟨d, l', Y', g1, g2, g3⟩ := callq hot htf o1
     exact ⟨dwnA d, l', Y', g1, by rw [<- o3]; exact dwnA_ok g2, fun B hB => calf_eq (by rw [rdL_eq]; exact g3 B hB)⟩
   ·exact h.elim
  | ext x i =>
   cases x with
   | m n => cases p with
    | nil => exact absurd rfl hne
    | cons => exact h.elim
   | _ => cases hg
  | mv x => cases x <;> first | (cases hg; done) | (simp [Op.ms, Opd.ms] at hm; done)
  | _ => first | (cases hg; done) | (simp [okG, okC] at hk; done)
theorem out_mapO {m : Cm (Option (W × SU))} {g : W × SU -> SU} {s' : SU} (h : (m.map fun r => r.map g).out (some s')) : ∃ r, m.out (some r) ∧ g r = s' := by
 obtain ⟨r, o1, o2⟩ := out_map h
 cases r with
 | none => cases o2
 | some r => exact ⟨r, o1, Option.some.inj o2⟩
theorem step_cases {T : Tab} {q : TStp} {s' : SU} (h : (stepW T q s).out (some s')) : (q.g = none ∧ ∃ w s1, (evOpW T [] q.t q.a q.op s).out (some (w, s1)) ∧ s' = putWO q.t w s1) ∨
  (∃ g want p b t, q.g = some (g, want) ∧ pathOf g want s = some (p, b) ∧ q.t = some t ∧ (okG q.op || okC T q.op) = true ∧ q.op.ms = none ∧ namesP t p = false ∧ ∃ w, s' = putW t (.gd p b w) s ∧ (b = true -> ∃ s1, (evOpW T p q.t q.a q.op s).out (some (w, s1)))) := by
 unfold stepW at h
 split at h
 ·rename_i hg
  obtain ⟨r, o1, o2⟩ := out_mapO h
  exact .inl ⟨hg, r.1, r.2, o1, o2.symm⟩
 ·rename_i g want hg
  split at h
  ·rename_i p b hp hk
   simp only [Bool.and_eq_true, Option.isNone_iff_eq_none] at hk
   cases hqt : q.t with
   | none => rw [hqt] at h; exact h.elim
   | some t =>
    rw [hqt] at h
    simp only at h
    cases hn : namesP t p with
    | true => rw [hn] at h; exact h.elim
    | false =>
     rw [hn, cond_false] at h
     refine .inr ⟨g, want, p, b, t, hg, hp, rfl, hk.1, hk.2, hn, ?_⟩
     split at h
     ·exact h.elim
     ·rename_i r hr
      have h := out_r h
      obtain ⟨r', k1, k2⟩ := Option.map_eq_some_iff.1 h
      refine ⟨r'.1, k2.symm, fun _ => ⟨r'.2, ?_⟩⟩
      rw [hr, k1]; rfl
     ·rename_i τ o d k hr
      obtain ⟨x, o1, o2⟩ := out_b h
      obtain ⟨r', k1, k2⟩ := Option.map_eq_some_iff.1 o2
      refine ⟨r'.1, k2.symm, fun hb => ⟨r'.2, ?_⟩⟩
      rw [hr]
      rw [if_pos hb] at o1
      exact ⟨x, o1, k1⟩
     ·exact h.elim
  ·exact h.elim
theorem step_ok (hc : c.ok) (hS : RepS c s e l Y) {T : Tab} (hT : TabOk c.P T) {q : TStp} {s' : SU} (h : (stepW T q s).out (some s')) : ∃ e' l' Y', RepS c s' e' l' Y' ∧ ∀ B, Fam c B -> evStp c.P q.er ⟨e, l, upd c.rg Y B⟩ = some ⟨e', l', upd c.rg Y' B⟩ := by
 rcases step_cases h with ⟨hg, w, s1, h1, rfl⟩ | ⟨g, want, p, b, t, hg, hp, hqt, hk, hm, hn, w, rfl, h1⟩
 ·obtain ⟨d, e', l', Y', g1, g2, g3⟩ := op_ok (t := q.t) hc hS hT h1
  have e1 : ∀ o, Ev.putO q.t d ⟨e', l', o⟩ = ⟨(match q.t with | some t => (t, d) :: e' | none => e'), l', o⟩ := fun o => by cases q.t <;> rfl
  refine ⟨(match q.t with | some t => (t, d) :: e' | none => e'), l', Y', ?_, fun B hB => ?_⟩
  ·cases hq : q.t with
   | none => exact g1
   | some t => exact g1.put g2
  ·unfold evStp
   rw [show q.er.g = none from hg]
   simp only
   rw [show evOp c.P q.er.t q.er.op ⟨e, l, upd c.rg Y B⟩ = some (d, ⟨e', l', upd c.rg Y' B⟩) from g3 B hB]
   exact congrArg some (e1 _)
 ·obtain ⟨p1, p2, p3, p4⟩ := path_ok hS hp
  by_cases ha : act p e
  ·obtain ⟨s1, h1⟩ := h1 (p2.2 ha)
   obtain ⟨d, l', Y', g1, g2, g3⟩ := opA hc hS hT ha p1 hk hm h1
   refine ⟨(t, d) :: e, l', Y', put_gd g1 hn p2 (fun _ => g2) (fun k => absurd ha k), fun B hB => ?_⟩
   rw [stp_act (c := c) (q := q.er) hg (p3 ha), show evOp c.P q.er.t q.er.op ⟨e, l, upd c.rg Y B⟩ = some (d, ⟨e, l', upd c.rg Y' B⟩) from g3 B hB]
   rw [show q.er.t = some t from hqt]; rfl
  ·refine ⟨(t, .v undef) :: e, l, Y, put_gd hS hn p2 (fun k => absurd k ha) (fun _ => rfl), fun B hB => ?_⟩
   rw [stp_not (c := c) (q := q.er) hg (p4 ha), show q.er.t = some t from hqt]; rfl
theorem evS_ok (hc : c.ok) {T : Tab} (hT : TabOk c.P T) {ρ : Type} {K : SU -> Option ρ} {ans : ρ} : ∀ {L : List TStp} {s : SU} {e : Env} {l : Bx} {Y : List (List D)}, RepS c s e l Y -> evS T L s K = some ans -> ∃ s' e' l' Y', RepS c s' e' l' Y' ∧ K s' = some ans ∧ ∀ B, Fam c B -> evOps c.P (L.map TStp.er) ⟨e, l, upd c.rg Y B⟩ = some ⟨e', l', upd c.rg Y' B⟩
 | [], s, e, l, Y, hS, h => ⟨s, e, l, Y, hS, h, fun B hB => rfl⟩
 | q :: r, s, e, l, Y, hS, h => by
  have key : ∃ s1, (stepW T q s).out (some s1) ∧ evS T r s1 K = some ans := by
   unfold evS at h
   split at h
   ·cases h
   ·cases h
   ·rename_i s1 hs; exact ⟨s1, by rw [hs]; rfl, h⟩
   ·rename_i τ o d k hs
    obtain ⟨x, h1, h2⟩ := Option.bind_eq_some_iff.1 h
    split at h2
    ·rename_i s1 hk; exact ⟨s1, by rw [hs]; exact ⟨x, h1, hk⟩, h2⟩
    ·cases h2
  obtain ⟨s1, h1, h2⟩ := key
  obtain ⟨e1, l1, Y1, g1, g2⟩ := step_ok hc hS hT h1
  obtain ⟨s', e', l', Y', k1, k2, k3⟩ := evS_ok hc hT g1 h2
  refine ⟨s', e', l', Y', k1, k2, fun B hB => ?_⟩
  simp only [List.map_cons, evOps, g2 B hB, Option.bind_some]
  exact k3 B hB
end
end Go.Proofs.Ytlhjdikklmkihaa.Ev.U
namespace Go.Proofs.Ytlhjdikklmkihaa.Ev.U
open Go
section
variable {c : Cx} {e : Env} {l : Bx} {Y : List (List D)} {s : SU}
def boxP (c : Cx) : PB -> Option (Nat × Nat)
 | .own b => some (c.n, b)
 | .ext i => (c.rg[i]?).map fun r => (r.f, r.b)
def wrC (c : Cx) : PB -> Prop
 | .own _ => True
 | .ext i => ∃ r, c.rg[i]? = some r ∧ r.w = true
def BaR (c : Cx) (i : BaW) (a : Ba) : Prop := ∀ x, a.loc c.n = some x -> ∃ pb, boxP c pb = some x ∧ ((i = .rd pb ∧ a.w = false) ∨ (i = .wr pb ∧ wrC c pb))
theorem BaR_no {i : BaW} : BaR c i .no := fun x h => by cases h
theorem boxP_ne (hc : c.ok) {p q : PB} {x y : Nat × Nat} (hp : boxP c p = some x) (hq : boxP c q = some y) (hne : p ≠ q) (hw : wrC c p ∨ wrC c q) : x ≠ y := by
 cases p with
 | own b =>
  have := Option.some.inj hp
  subst this
  cases q with
  | own b' =>
   have := Option.some.inj hq
   subst this
   intro h
   injection h with h1 h2
   exact hne (by rw [h2])
  | ext i =>
   obtain ⟨r, h1, rfl⟩ := Option.map_eq_some_iff.1 hq
   intro h
   injection h with h3 h4
   have := hc.lt r (List.mem_of_getElem? h1)
   omega
 | ext i =>
  obtain ⟨r, h1, rfl⟩ := Option.map_eq_some_iff.1 hp
  cases q with
  | own b' =>
   have := Option.some.inj hq
   subst this
   intro h
   injection h with h3 h4
   have := hc.lt r (List.mem_of_getElem? h1)
   omega
  | ext j =>
   obtain ⟨r', h3, rfl⟩ := Option.map_eq_some_iff.1 hq
   have hij : i ≠ j := fun h => hne (by rw [h])
   rcases hw with ⟨q, g1, g2⟩ | ⟨q, g1, g2⟩
   ·rw [h1] at g1; have := Option.some.inj g1; subst this
    exact hc.dj i j _ _ h1 h3 hij g2
   ·rw [h3] at g1; have := Option.some.inj g1; subst this
    exact (hc.dj j i _ _ h3 h1 (Ne.symm hij) g2).symm
theorem co_ok (hc : c.ok) {i j : BaW} {a b : Ba} (ha : BaR c i a) (hb : BaR c j b) (h : i.co j = true) : a.co c.n b = true := by
 unfold Ba.co
 cases hx : a.loc c.n with
 | none => rfl
 | some x =>
  cases hy : b.loc c.n with
  | none => rfl
  | some y =>
   simp only
   obtain ⟨p, p1, p2⟩ := ha x hx
   obtain ⟨q, q1, q2⟩ := hb y hy
   have ne : p ≠ q -> (wrC c p ∨ wrC c q) -> (!(a.w || b.w) || !(x.1 == y.1 && x.2 == y.2) || a.dj b) = true := fun h1 h2 => by
    have := boxP_ne hc p1 q1 h1 h2
    have : (x.1 == y.1 && x.2 == y.2) = false := by
     cases hq : (x.1 == y.1 && x.2 == y.2) with
     | false => rfl
     | true =>
      simp only [Bool.and_eq_true, beq_iff_eq] at hq
      exact absurd (Prod.ext hq.1 hq.2) this
    rw [this]; simp
   rcases p2 with ⟨rfl, p3⟩ | ⟨rfl, p3⟩
   ·rcases q2 with ⟨rfl, q3⟩ | ⟨rfl, q3⟩
    ·rw [p3, q3]; rfl
    ·refine ne ?_ (.inr q3)
     simpa [BaW.co] using h
   ·rcases q2 with ⟨rfl, q3⟩ | ⟨rfl, q3⟩
    ·refine ne ?_ (.inl p3)
     simpa [BaW.co] using h
    ·refine ne ?_ (.inl p3)
     simpa [BaW.co] using h
theorem pt_box {pb : PB} {off : Nat} {d : D} (h : Rep0 c (.pt pb off) d) : ∃ f b o, d = .ptr f b o ∧ boxP c pb = some (f, b) := by
 cases pb with
 | own b => exact ⟨_, _, _, h, rfl⟩
 | ext i =>
  obtain ⟨r, h1, h2⟩ := h
  exact ⟨_, _, _, h2, by simp [boxP, h1]⟩
def instSpec (op : Op) (t : Option Nat) (st : S) (a : Ba) : Prop := match op with
 | .ld _ x => (∃ f b off n, (rd x st).1 = .ptr f b off ∧ a = .rd f b off n) ∨ a = .no
 | .ldm _ x => ∃ f b off cs, (rd x st).1 = .ptr f b off ∧ a = .wr f b off cs
 | .st _ x _ => ∃ f b off cs, (rd x st).1 = .ptr f b off ∧ a = .wr f b off cs
 | .al _ => ∃ t' ds, t = some t' ∧ a = .al t' ds
 | .cpy x _ => a = .no ∨ ∃ f b off n z cs, (rd x st).1 = .ref f b off n z ∧ a = .wr f b off cs
 | _ => a = .no
def dOp : Op -> Bool
 | .ld _ _ => true
 | .ldm _ _ => true
 | .st _ _ _ => true
 | .al _ => true
 | .cpy _ _ => true
 | p => p.neut
theorem inst_conv {P : Caller} {t : Option Nat} {op : Op} {st st' : S} {d : D} (hk : dOp op = true) (h : evOp P t op st = some (d, st')) : ∃ i, inst P t op st = some i ∧ putO t d st' = i.ap t st ∧ instSpec op t st i.a := by
 have neut : ∀ {op : Op}, op.neut = true -> (inst P t op st = if op.neut = true then (evOp P t op st).map fun r => ⟨r.1, op.ms, .no⟩ else none) -> evOp P t op st = some (d, st') -> ∃ i, inst P t op st = some i ∧ putO t d st' = i.ap t st ∧ i.a = .no := by
  intro op hn he h
  obtain ⟨r1, _⟩ := neut_loc (s' := st) hn h fun _ _ => rfl
  refine ⟨⟨d, op.ms, .no⟩, by rw [he, if_pos hn, h]; rfl, ?_, rfl⟩
  show _ = putO t d (moved op.ms st)
  rw [<- r1]
 cases op with
 | ld n x =>
  simp only [evOp] at h
  simp only [inst]
  cases hx : (rd x st).1 with
  | ptr f b off =>
   rw [hx] at h
   simp only at h ⊢
   cases hb : bx f b st with
   | none => rw [hb] at h; cases h
   | some ds =>
    rw [hb] at h
    simp only at h ⊢
    obtain ⟨d', h1, h2⟩ := Option.map_eq_some_iff.1 h
    injection h2 with h2 h3
    subst h2 h3
    exact ⟨⟨d'.strip, none, .rd f b off (n.getD 1)⟩, by rw [h1]; rfl, rfl, .inl ⟨f, b, off, _, hx, rfl⟩⟩
  | fptr cs off =>
   rw [hx] at h
   simp only at h ⊢
   obtain ⟨d', h1, h2⟩ := Option.map_eq_some_iff.1 h
   injection h2 with h2 h3
   subst h2 h3
   exact ⟨⟨d', none, .no⟩, by rw [h1]; rfl, rfl, .inr rfl⟩
  | _ => rw [hx] at h; cases h
 | ldm n x =>
  simp only [evOp] at h
  simp only [inst]
  cases hx : (rd x st).1 with
  | ptr f b off =>
   rw [hx] at h
   simp only at h ⊢
   cases hb : bx f b st with
   | none => rw [hb] at h; cases h
   | some ds =>
    rw [hb] at h
    simp only at h ⊢
    obtain ⟨d', h1, h2⟩ := Option.map_eq_some_iff.1 h
    injection h2 with h2 h3
    subst h2 h3
    exact ⟨⟨d', none, .wr f b off d'.strip.cells⟩, by rw [h1]; rfl, by simp only [Ins.ap, moved, Ba.ap, hb, Option.getD_some], f, b, off, _, hx, rfl⟩
  | _ => rw [hx] at h; cases h
 | st n x y =>
  simp only [evOp] at h
  simp only [inst]
  cases hx : (rd x st).1 with
  | ptr f b off =>
   rw [hx] at h
   simp only at h ⊢
   cases hb : bx f b st with
   | none => rw [hb] at h; cases h
   | some ds =>
    rw [hb] at h
    simp only at h ⊢
    split at h
    ·rename_i hq
     rw [if_pos hq]
     have h := Option.some.inj h
     injection h with h2 h3
     subst h2 h3
     refine ⟨_, rfl, ?_, f, b, off, _, hx, rfl⟩
     simp only [Ins.ap, Ba.ap, hb, Option.getD_some]
     rw [rd_moved, sbx_moved]
    ·cases h
  | _ => rw [hx] at h; cases h
 | al z =>
  simp only [evOp] at h
  simp only [inst]
  cases t with
  | none => cases h
  | some t =>
   simp only at h ⊢
   cases hl : lk t st.l with
   | some q => rw [hl] at h; cases h
   | none =>
    rw [hl] at h
    simp only at h ⊢
    have h := Option.some.inj h
    injection h with h2 h3
    subst h2 h3
    exact ⟨_, rfl, rfl, t, _, rfl, rfl⟩
 | mv x => exact neut hk rfl h
 | pk _ _ _ => exact neut hk rfl h
 | ext _ _ => exact neut hk rfl h
 | bin _ _ _ => exact neut hk rfl h
 | no _ => exact neut hk rfl h
 | un _ _ => exact neut hk rfl h
 | fa _ _ => exact neut hk rfl h
 | ia _ _ _ => exact neut hk rfl h
 | len _ => exact neut hk rfl h
 | lns _ => exact neut hk rfl h
 | six _ _ => exact neut hk rfl h
 | ap _ _ _ _ _ => exact neut hk rfl h
 | mk _ _ _ _ _ _ => exact neut hk rfl h
 | bd _ _ => exact neut hk rfl h
 | slc _ _ _ _ => exact neut hk rfl h
 | bs _ _ _ => exact neut hk rfl h
 | eqn _ _ => exact neut hk rfl h
 | eqs _ _ _ => exact neut hk rfl h
 | eqb _ _ _ => exact neut hk rfl h
 | eqa _ _ _ _ => exact neut hk rfl h
 | sh _ _ _ => exact neut hk rfl h
 | ci _ _ => exact neut hk rfl h
 | mm _ _ _ => exact neut hk rfl h
 | mf _ _ => exact neut hk rfl h
 | nck _ => exact neut hk rfl h
 | bst _ => exact neut hk rfl h
 | cpy x y =>
  simp only [evOp] at h
  simp only [inst]
  split at h
  ·rename_i hx hy
   split at h
   ·rename_i hc
    have h := Option.some.inj h
    injection h with h2 h3
    subst h2 h3
    exact ⟨⟨.v (.int .i64 0), none, .no⟩, if_pos hc, rfl, .inl rfl⟩
   ·cases h
  ·rename_i f b off n z m z' ys hx hy
   split at h
   ·rename_i hc
    split at h
    ·rename_i h0
     have h := Option.some.inj h
     injection h with h2 h3
     subst h2 h3
     exact ⟨⟨.v (.int .i64 0), none, .no⟩, by rw [if_pos hc, if_pos h0], rfl, .inl rfl⟩
    ·rename_i h0
     cases hb : bx f b st with
     | none => rw [hb] at h; cases h
     | some ds =>
      rw [hb] at h
      simp only at h
      split at h
      ·rename_i hq
       have h := Option.some.inj h
       injection h with h2 h3
       subst h2 h3
       refine ⟨⟨_, none, .wr f b off _⟩, by rw [if_pos hc, if_neg h0]; simp only; rw [if_pos hq], ?_, .inr ⟨f, b, off, n, z, _, hx, rfl⟩⟩
       simp only [Ins.ap, Ba.ap, hb, Option.getD_some, moved]
      ·cases h
   ·cases h
  ·cases h
 | _ => cases hk
theorem fo_tyOf : ∀ {L : List Ty}, (∀ τ ∈ L, τ.fo = true) -> (tyOf L).fo = true
 | [], _ => rfl
 | [a], h => h a (by simp)
 | a :: b :: r, h => by
  simp only [tyOf, Ty.fo, Bool.and_eq_true]
  exact ⟨h a (by simp), fo_tyOf fun τ hτ => h τ (by simp only [List.mem_cons] at hτ ⊢; exact .inr hτ)⟩
theorem callq_ok (hc : c.ok) (hS : RepS c s e l Y) {T : Tab} (hT : TabOk c.P T) {f : Nat} (hq : okQ T f = true) {ws : List W} {ds : List D} (ha : All2 (Rep4 c) ws ds) {w : W} {s' : SU} (h : (callW T f ws s).out (some (w, s'))) :
  s' = s ∧ ∃ d, Rep4 c w d ∧ ∀ B : List Bx, B.length = c.n + 1 -> c.P f ds B = some (d, B) := by
 unfold okQ at hq
 split at hq
 ·rename_i tf htf
  have hv : ∀ a ∈ tf.sg.ak, ∃ τ, a = .v τ ∧ τ.fo = true := fun a h => by
   have := List.all_eq_true.1 hq a h
   cases a with
   | v τ => exact ⟨τ, rfl, this⟩
   | _ => cases this
  have hxs : xsOf tf.sg.ak = [] := by
   have : ∀ {ak : List AK}, (∀ a ∈ ak, ∃ τ, a = .v τ ∧ τ.fo = true) -> xsOf ak = [] := by
    intro ak
    induction ak with
    | nil => intro _; rfl
    | cons a r ih =>
     intro h
     obtain ⟨τ, rfl, _⟩ := h a (by simp)
     exact ih fun b hb => h b (by simp [hb])
   exact this hv
  have args : ∀ {ak : List AK} {ws ws' : List W} {ds : List D}, (∀ a ∈ ak, ∃ τ, a = .v τ ∧ τ.fo = true) -> argsF T s ak ws = some ws' -> All2 (Rep4 c) ws ds -> ws' = ws ∧ ak.length = ws.length := by
   intro ak
   induction ak with
   | nil => intro ws ws' ds _ h ha; cases ws with
    | nil => exact ⟨(Option.some.inj h).symm, rfl⟩
    | cons => cases h
   | cons a ak ih =>
    intro ws ws' ds hv h ha
    cases ws with
    | nil => cases h
    | cons w ws =>
     obtain ⟨d, q, rfl, a1, a2⟩ := ha.cons_l
     simp only [argsF] at h
     obtain ⟨w', h1, h2⟩ := Option.bind_eq_some_iff.1 h
     obtain ⟨ws2, h3, h4⟩ := Option.map_eq_some_iff.1 h2
     subst h4
     obtain ⟨e1, e2⟩ := ih (fun b hb => hv b (by simp [hb])) h3 a2
     obtain ⟨τ, rfl, hfo⟩ := hv a (by simp)
     have : w' = w := by
      unfold argF at h1
      split at h1
      ·rename_i e3; injection e3 with e3; subst e3; cases hfo
      ·exact (chk1_some h1).1
     rw [this, e1]
     exact ⟨rfl, by simp [e2]⟩
  have back : ∀ {ak : List AK} {ws ys : List W} {s1 : SU}, (∀ a ∈ ak, ∃ τ, a = .v τ ∧ τ.fo = true) -> backW ak ws ys s = some s1 -> s1 = s := by
   intro ak
   induction ak with
   | nil => intro ws ys s1 _ h; simp only [backW] at h; exact (Option.some.inj h).symm
   | cons a ak ih =>
    intro ws ys s1 hv h
    obtain ⟨τ, rfl, _⟩ := hv a (by simp)
    cases ws with
    | nil => simp [backW] at h
    | cons w ws => cases ys with
     | nil => simp only [backW] at h; exact ih (fun b hb => hv b (by simp [hb])) h
     | cons => simp only [backW] at h; exact ih (fun b hb => hv b (by simp [hb])) h
  have argl : ∀ {c' : Cx} {ak : List AK} {ws : List W} {ds : List D}, (∀ a ∈ ak, ∃ τ, a = .v τ ∧ τ.fo = true) -> ak.length = ws.length -> All2 (Rep3 c') ws ds -> ArgL c' ak ws ds [] [] := by
   intro c' ak
   induction ak with
   | nil => intro ws ds _ hl ha; cases ws with
    | nil => obtain rfl := ha.nil_l; trivial
    | cons => simp at hl
   | cons a ak ih =>
    intro ws ds hv hl ha
    cases ws with
    | nil => simp at hl
    | cons w ws =>
     obtain ⟨d, q, rfl, a1, a2⟩ := ha.cons_l
     obtain ⟨τ, rfl, _⟩ := hv a (by simp)
     exact ⟨a1, ih (fun b hb => hv b (by simp [hb])) (by simpa using hl) a2⟩
  have key : ∀ {a : tf.sg.aT.T} {y : tf.sg.oT.T}, (argsF T s tf.sg.ak ws).bind (tupT tf.sg.aT) = some a -> tf.sg.ok = true -> tf.f a = some y ->
    (backW tf.sg.ak ws (outW tf.sg.res (xsOf tf.sg.ak) y).2 s).map (fun s' => ((outW tf.sg.res (xsOf tf.sg.ak) y).1, s')) = some (w, s') ->
    s' = s ∧ ∃ d, Rep4 c w d ∧ ∀ B : List Bx, B.length = c.n + 1 -> c.P f ds B = some (d, B) := by
   intro a y h1 hsg h3 h4
   obtain ⟨ws', k1, k2⟩ := Option.bind_eq_some_iff.1 h1
   obtain ⟨e1, e2⟩ := args hv k1 ha
   subst e1
   obtain ⟨s1, b1, b2⟩ := Option.map_eq_some_iff.1 h4
   injection b2 with b2 b3
   subst b2 b3
   obtain ⟨t1, t2⟩ := tupT_ok k2 ha
   have hfo : tf.sg.aT.fo = true := fo_tyOf fun τ hτ => by
    obtain ⟨a, ha, rfl⟩ := List.mem_map.1 hτ
    obtain ⟨τ', rfl, h⟩ := hv a ha
    exact h
   let c' : Cx := ⟨c.P, [], c.n + 1, [], fun _ => []⟩
   have hin : All2 (Rep3 c') (tupW tf.sg.aT a) ds := tupW_ok (c := c') t1 (RepL.fo hfo t2)
   have harg : ArgL c' tf.sg.ak (argWs tf.sg a) ds [] [] := by
    unfold argWs
    split
    ·rename_i hak
     rw [hak] at e2
     cases ws' with
     | nil => obtain rfl := ha.nil_l; rw [hak]; trivial
     | cons => simp at e2
    ·exact argl hv (by rw [hin.length, <- ha.length]; exact e2) hin
   have hok : c'.ok := ⟨(fun r h => by cases h), (fun i j r q h => by simp [c'] at h), (fun x h => by cases h)⟩
   obtain ⟨d, Y', o1, o2, o3⟩ := (hT f tf htf).1 [] (c.n + 1) [] (fun _ => []) [] hok (fun i r ys h => by simp at h) a ds harg y h3
   refine ⟨back hv b1, d, pf2_up (c := c0 c.P) (c' := c) rfl (fun x hx => by cases hx) o1 (pf_out _ _ _).1, fun B hB => ?_⟩
   have := o3 B ⟨hB, Sat.nil B, (fun r h => by cases h), (fun i r h => by simp at h)⟩ (fun i r ys h => by simp at h)
   rw [this]
   cases Y' <;> rfl
  unfold callW at h
  rw [htf] at h
  cases tf with
  | par sg g =>
   simp only at h
   split at h
   ·rename_i a h1 h2
    obtain ⟨y, o1, o2⟩ := out_b h
    simp only [Bool.and_eq_true] at h2
    exact key h1 h2.2 o1 o2
   ·exact h.elim
  | tot sg g =>
   simp only at h
   split at h
   ·rename_i a h1 h2
    simp only [Bool.and_eq_true] at h2
    exact key (y := g a) h1 h2.2 rfl (out_r h)
   ·exact h.elim
  | gen a r g => exact h.elim
 ·cases hq
theorem inst_cv {P : Caller} {t : Option Nat} {f : Nat} {x : Opd} {xs : List Opd} {caps : List D} {st : S} {d : D} (hot : xs.all Opd.ot = true) (hx : (rd x st).1 = .clo f caps) (h : ∀ B : List Bx, B.length = st.o.length + 1 -> P f (rds st xs ++ caps) B = some (d, B)) : inst P t (.cv x xs) st = some ⟨d, none, .no⟩ := by
 have := qv_of h
 simp only [inst, if_pos hot, hx, this, Option.map_some]
theorem inst_call {P : Caller} {t : Option Nat} {f : Nat} {xs : List Opd} {st : S} {d : D} (hot : xs.all Opd.ot = true) (h : ∀ B : List Bx, B.length = st.o.length + 1 -> P f (rds st xs) B = some (d, B)) : inst P t (.call f xs) st = some ⟨d, none, .no⟩ ∧ inst P t (.calf f xs) st = some ⟨dwnA d, none, .no⟩ := by
 have := qv_of h
 exact ⟨by simp only [inst, if_pos hot, this, Option.map_some], by simp only [inst, if_pos hot, this, Option.map_some]⟩
theorem setBx_wr (hS : RepS c s e l Y) {pb : PB} {ws : List W} {s' : SU} (h : setBx pb ws s = some s') : wrC c pb := by
 cases pb with
 | own b => trivial
 | ext i =>
  simp only [setBx] at h
  split at h
  ·rename_i hw
   rw [hS.wr, List.getElem?_map] at hw
   obtain ⟨r, h1, h2⟩ := Option.map_eq_some_iff.1 hw
   exact ⟨r, h1, h2⟩
  ·cases h
theorem act_spec (hc : c.ok) (hS : RepS c s e l Y) {T : Tab} {q : TStp} {i : BaW} (h : actW T s q = some i) {p : Path} (hp : act p e) {w : W} {s' : SU} (ho : (evOpW T p q.t q.a q.op s).out (some (w, s'))) {o : List Bx} {a : Ba} (ha : instSpec q.op q.t ⟨e, l, o⟩ a) (hn : c.n = o.length) : BaR c i a := by
 have ptr : ∀ {x : Opd} {pb : PB} {off : Nat} {f b k : Nat}, (rdW p x s).1 = .pt pb off -> (rd x ⟨e, l, o⟩).1 = .ptr f b k -> boxP c pb = some (f, b) := by
  intro x pb off f b k h1 h2
  have hx := rdW_ok hS hp x
  rw [h1] at hx
  obtain ⟨f', b', o', h3, h4⟩ := pt_box (c := c) hx
  rw [rd_fst] at h2
  rw [h2] at h3
  injection h3 with h5 h6 h7
  rw [h5, h6]; exact h4
 have ptrE : ∀ {x : Opd} {b' : Nat} {τ : Ty} {i' : Int} {off : Nat} {f b k : Nat}, (rdW p x s).1 = .ep b' τ i' off -> (rd x ⟨e, l, o⟩).1 = .ptr f b k -> boxP c (.own b') = some (f, b) := by
  intro x b' τ i' off f b k h1 h2
  have hx := rdW_ok hS hp x
  rw [h1] at hx
  rw [rd_fst, hx.2] at h2
  injection h2 with h5 h6 h7
  rw [<- h5, <- h6]; rfl
 unfold actW at h
 split at h
 ·rename_i n x hop
  rw [hop] at ha ho
  split at h
  ·rename_i m
   have key : ∀ {pb : PB} {v : W}, ((∃ off, v = .pt pb off) ∨ ∃ b τ i' off, pb = .own b ∧ v = .ep b τ i' off) -> i = .rd pb -> (getW m s.e = v ∨ ∃ q b, getW m s.e = .gd q b v) -> BaR c i a := by
    intro pb v hv hi hg
    have hvs : v.strip = v := by rcases hv with ⟨off, rfl⟩ | ⟨b, τ, i', off, _, rfl⟩ <;> rfl
    rcases ha with ⟨f, b, k, nn, h1, h2⟩ | h2
    ·subst h2
     intro y hy
     have hy : (f, b) = y := Option.some.inj hy
     subst hy
     have hw : (rdW p (.t m) s).1 = v ∨ (rdW p (.t m) s).1 = .un := by
      rcases hg with hg | ⟨q, b, hg⟩
      ·left
       have : opn p v = v := by rcases hv with ⟨off, rfl⟩ | ⟨b, τ, i', off, _, rfl⟩ <;> rfl
       simp only [rdW, hg, this, hvs]
      ·simp only [rdW, hg, opn]
       cases subP q p
       ·right; rfl
       ·left; exact hvs
     rcases hw with hw | hw
     ·rcases hv with ⟨off, rfl⟩ | ⟨b', τ, i', off, rfl, rfl⟩
      ·exact ⟨pb, ptr hw h1, .inl ⟨hi, rfl⟩⟩
      ·exact ⟨.own b', ptrE hw h1, .inl ⟨hi, rfl⟩⟩
     ·simp only [evOpW, hw] at ho; exact ho.elim
    ·subst h2; exact BaR_no
   have no : i = .no -> (∀ pb off, (rdW p (.t m) s).1 ≠ .pt pb off) -> (∀ b τ i' off, (rdW p (.t m) s).1 ≠ .ep b τ i' off) -> BaR c i a := by
    intro hi hg hge
    rcases ha with ⟨f, b, k, nn, h1, h2⟩ | h2
    ·exfalso
     simp only [evOpW] at ho
     split at ho
     ·rename_i h3; exact hg _ _ h3
     ·rename_i ws off h3
      have hx := rdW_ok hS hp (.t m)
      rw [h3] at hx
      obtain ⟨cs, h4, _⟩ := hx
      rw [rd_fst, h4] at h1
      cases h1
     ·rename_i h3; exact hge _ _ _ _ h3
     ·exact ho
    ·subst h2; exact BaR_no
   split at h
   ·rename_i pb off hg
    exact key (.inl ⟨off, rfl⟩) (Option.some.inj h).symm (.inl hg)
   ·rename_i q b pb off hg
    exact key (.inl ⟨off, rfl⟩) (Option.some.inj h).symm (.inr ⟨q, b, hg⟩)
   ·rename_i ws off hg
    refine no (Option.some.inj h).symm (fun pb o' k => ?_) fun b' τ i' o' k => ?_
    ·simp only [rdW, hg, opn] at k
     cases k
    ·simp only [rdW, hg, opn] at k
     cases k
   ·rename_i q b ws off hg
    refine no (Option.some.inj h).symm (fun pb o' k => ?_) fun b' τ i' o' k => ?_
    ·simp only [rdW, hg, opn] at k
     cases hq : subP q p <;> rw [hq] at k <;> cases k
    ·simp only [rdW, hg, opn] at k
     cases hq : subP q p <;> rw [hq] at k <;> cases k
   ·rename_i b' τ i' off hg
    exact key (.inr ⟨b', τ, i', off, rfl, rfl⟩) (Option.some.inj h).symm (.inl hg)
   ·rename_i q b b' τ i' off hg
    exact key (.inr ⟨b', τ, i', off, rfl, rfl⟩) (Option.some.inj h).symm (.inr ⟨q, b, hg⟩)
   ·cases h
  ·cases h
 ·rename_i n x hop
  rw [hop] at ha ho
  obtain ⟨f, b, off, cs, h1, h2⟩ := ha
  subst h2
  split at h
  ·rename_i pb off' hg
   have hi := (Option.some.inj h).symm
   cases p with
   | nil =>
    intro y hy
    have hy : (f, b) = y := Option.some.inj hy
    subst hy
    refine ⟨pb, ptr hg h1, .inr ⟨hi, ?_⟩⟩
    simp only [evOpW, hg] at ho
    split at ho
    ·split at ho
     ·obtain ⟨s1, k1, k2⟩ := Option.map_eq_some_iff.1 (out_r ho)
      exact setBx_wr hS k1
     ·exact ho.elim
    ·exact ho.elim
   | cons => simp only [evOpW] at ho; split at ho <;> first | exact ho.elim | contradiction
  ·cases h
 ·rename_i n x y hop
  rw [hop] at ha ho
  obtain ⟨f, b, off, cs, h1, h2⟩ := ha
  subst h2
  split at h
  ·rename_i pb off' hg
   have hi := (Option.some.inj h).symm
   cases p with
   | nil =>
    intro y hy
    have hy : (f, b) = y := Option.some.inj hy
    subst hy
    refine ⟨pb, ptr hg h1, .inr ⟨hi, ?_⟩⟩
    simp only [evOpW, hg] at ho
    split at ho
    ·split at ho
     ·obtain ⟨s1, k1, k2⟩ := Option.map_eq_some_iff.1 (out_r ho)
      exact setBx_wr (rdW_st hS _) k1
     ·exact ho.elim
    ·exact ho.elim
   | cons => simp only [evOpW] at ho; split at ho <;> first | exact ho.elim | contradiction
  ·rename_i b' τ i' off' hg
   have hi := (Option.some.inj h).symm
   cases p with
   | nil =>
    intro y hy
    have hy : (f, b) = y := Option.some.inj hy
    subst hy
    exact ⟨.own b', ptrE hg h1, .inr ⟨hi, trivial⟩⟩
   | cons => simp only [evOpW] at ho; split at ho <;> first | exact ho.elim | contradiction
  ·cases h
 ·rename_i z hop
  rw [hop] at ha
  obtain ⟨t', ds, h1, h2⟩ := ha
  subst h2
  rw [h1] at h
  have hi := (Option.some.inj h).symm
  intro y hy
  have hy : (c.n, t') = y := Option.some.inj hy
  subst hy
  exact ⟨.own t', rfl, .inr ⟨hi, trivial⟩⟩
 ·cases h
 ·rename_i x xs hop
  rw [hop] at ha
  have ha : a = .no := ha
  subst ha; exact BaR_no
 ·cases h
 ·rename_i x y hop
  rw [hop] at ha ho
  split at h
  ·rename_i b' τ lo m hg
   have hi := (Option.some.inj h).symm
   rcases ha with ha | ⟨f, b, off, k, z, cs, h1, h2⟩
   ·subst ha; exact BaR_no
   ·subst h2
    intro y hy
    have hy : (f, b) = y := Option.some.inj hy
    subst hy
    have hx := rdW_ok hS (act_nil e) x
    rw [hg] at hx
    rw [rd_fst] at h1
    obtain ⟨_, h3 | ⟨_, z, h3⟩⟩ := (show Rep4 c (.rs b' τ lo m) _ from hx)
    ·rw [h1] at h3
     injection h3 with h5 h6
     exact ⟨.own b', by rw [h5, h6]; rfl, .inr ⟨hi, trivial⟩⟩
    ·rw [h1] at h3; cases h3
  ·cases h
 ·rename_i f xs hop
  rw [hop] at ha
  have ha : a = .no := ha
  subst ha; exact BaR_no
 ·rename_i f xs hop
  rw [hop] at ha
  have ha : a = .no := ha
  subst ha; exact BaR_no
 ·rename_i x j hop
  rw [hop] at ha
  have ha : a = .no := ha
  subst ha; exact BaR_no
 ·cases h
 ·cases h
 ·rename_i h1 h2 h3 h4 h5 h6 h7 h8 h9 h10 h11 h12 h13
  have ha : a = .no := by
   cases hq : q.op with
   | cpy x y => exact absurd hq (h8 x y)
   | ld n x => exact absurd hq (h1 n x)
   | ldm n x => exact absurd hq (h2 n x)
   | st n x y => exact absurd hq (h3 n x y)
   | al z => exact absurd hq (h4 z)
   | _ => rw [hq] at ha; exact ha
  subst ha; exact BaR_no
end
end Go.Proofs.Ytlhjdikklmkihaa.Ev.U
