/- Code, over typed values. Conditions: none. -/
import Derived.Test.YtlhjdikklmkihaaUl
set_option linter.all false
namespace Go.Proofs.Ytlhjdikklmkihaa.Ev.U
open Go
def Post (c : Cx) (rs : RS) {ρ : Type} (x : Ex) (s' : SU) (K : SU -> Option ρ) (E : Nat -> SU -> Option ρ) (R : rs.sg.oT.T -> Option ρ) (ans : ρ) : Prop := match x with
 | .nm => K s' = some ans
 | .ex i => i ≠ 999999 ∧ E i s' = some ans
 | .rt => (rs.pack s').bind R = some ans ∨ E 999999 s' = some ans
def CR (c : Cx) (rs : RS) (t : Cd) {ρ : Type} (e : Env) (l : Bx) (Y : List (List D)) (K : SU -> Option ρ) (E : Nat -> SU -> Option ρ) (R : rs.sg.oT.T -> Option ρ) (ans : ρ) : Prop :=
 ∃ x s' e' l' Y', RepS c s' e' l' Y' ∧ (∀ B, Fam c B -> evC c.P t ⟨e, l, upd c.rg Y B⟩ = some (x, ⟨e', l', upd c.rg Y' B⟩)) ∧ Post c rs x s' K E R ans
def RndOk (P : Caller) : Tc -> Prop
 | .rf _ _ _ _ rid _ ps asg body => (∀ f b args B, P rid (.yld f b :: args) B = runR P ⟨0, false, [], some (ps, asg.er), body.er⟩ ps asg.er rid f b args B) ∧ RndOk P asg ∧ RndOk P body
 | .sq a b => RndOk P a ∧ RndOk P b
 | .ff _ a b => RndOk P a ∧ RndOk P b
 | .bl _ a => RndOk P a
 | .lp _ _ _ a => RndOk P a
 | .jn _ _ _ a => RndOk P a
 | .gs _ a => RndOk P a
 | _ => True
def noRf : Tc -> Bool
 | .rf _ _ _ _ _ _ _ _ _ => false
 | .sq a b => noRf a && noRf b
 | .ff _ a b => noRf a && noRf b
 | .bl _ a => noRf a
 | .lp _ _ _ a => noRf a
 | .jn _ _ _ a => noRf a
 | .gs _ a => noRf a
 | _ => true
theorem rndOk_of {P : Caller} : ∀ {t : Tc}, noRf t = true -> RndOk P t := by
 intro t
 induction t with
 | sq a b iha ihb => intro h; simp only [noRf, Bool.and_eq_true] at h; exact ⟨iha h.1, ihb h.2⟩
 | ff x a b iha ihb => intro h; simp only [noRf, Bool.and_eq_true] at h; exact ⟨iha h.1, ihb h.2⟩
 | bl i a ih => intro h; exact ih h
 | lp _ _ _ a ih => intro h; exact ih h
 | jn _ _ _ a ih => intro h; exact ih h
 | gs _ a ih => intro h; exact ih h
 | rf => intro h; cases h
 | _ => intro h; trivial
theorem sb_comm {b b' : Nat} {x y : List D} (h : b ≠ b') : ∀ {l : Bx}, sb b x (sb b' y l) = sb b' y (sb b x l)
 | [] => rfl
 | (k, q) :: r => by
  by_cases e1 : b' = k
  ·by_cases e2 : b = k
   ·exact absurd (e2.trans e1.symm) h
   ·simp only [sb, if_pos e1, if_neg e2]
  ·by_cases e2 : b = k
   ·simp only [sb, if_neg e1, if_pos e2]
   ·simp only [sb, if_neg e1, if_neg e2, sb_comm h]
def wrA : List (Nat × List D) -> Bx -> Bx
 | [], l => l
 | (b, ds) :: r, l => wrA r (sb b ds l)
theorem wrA_sb {b : Nat} {x : List D} : ∀ {L : List (Nat × List D)} {l : Bx}, b ∉ L.map (·.1) -> wrA L (sb b x l) = sb b x (wrA L l)
 | [], l, _ => rfl
 | (b', ds) :: r, l, h => by
  simp only [List.map_cons, List.mem_cons, not_or] at h
  simp only [wrA]
  rw [sb_comm (Ne.symm h.1), wrA_sb h.2]
theorem lk_wrA_ne {b : Nat} : ∀ {L : List (Nat × List D)} {l : Bx}, b ∉ L.map (·.1) -> lk b (wrA L l) = lk b l
 | [], l, _ => rfl
 | (b', ds) :: r, l, h => by
  simp only [List.map_cons, List.mem_cons, not_or] at h
  simp only [wrA]
  rw [lk_wrA_ne h.2, lk_sb', if_neg h.1]
theorem wrA_none {b : Nat} : ∀ {L : List (Nat × List D)} {l : Bx}, (lk b (wrA L l) = none ↔ lk b l = none)
 | [], l => Iff.rfl
 | (b', ds) :: r, l => by
  simp only [wrA]
  rw [wrA_none, lk_sb']
  split
  ·rename_i e; subst e; cases lk b l <;> simp
  ·exact Iff.rfl
theorem lk_wrA {b : Nat} {ds : List D} : ∀ {L : List (Nat × List D)} {l : Bx}, (L.map (·.1)).Nodup -> (b, ds) ∈ L -> lk b l ≠ none -> lk b (wrA L l) = some ds
 | [], l, _, h, _ => by cases h
 | (b', ds') :: r, l, hn, h, hl => by
  simp only [List.map_cons, List.nodup_cons] at hn
  simp only [wrA]
  rcases List.mem_cons.1 h with h | h
  ·injection h with h1 h2
   subst h1 h2
   rw [lk_wrA_ne hn.1, lk_sb', if_pos rfl]
   cases hq : lk b l with
   | none => exact absurd hq hl
   | some _ => rfl
  ·refine lk_wrA hn.2 h ?_
   rw [lk_sb']
   split
   ·rename_i e; subst e
    cases hq : lk b l with
    | none => exact absurd hq hl
    | some _ => simp
   ·exact hl
def rgB (n : Nat) (L : List (Nat × List D)) : List Rg := L.map fun p => ⟨true, n, p.1, 0, p.2.length⟩
theorem modify_mid (A : List Bx) (l lg : Bx) (g : Bx -> Bx) : (A ++ [l] ++ [lg]).modify A.length g = A ++ [g l] ++ [lg] := by
 apply List.ext_getElem?
 intro i
 rw [List.getElem?_modify]
 by_cases e : A.length = i
 ·subst e
  simp
 ·simp only [if_neg e]
  rw [show (fun a : Bx => a) = id from rfl, id_map]
  rw [List.append_assoc, List.append_assoc]
  rcases Nat.lt_or_ge i A.length with hi | hi
  ·rw [List.getElem?_append_left hi, List.getElem?_append_left hi]
  ·rw [List.getElem?_append_right hi, List.getElem?_append_right hi]
   obtain ⟨j, hj⟩ : ∃ j, i - A.length = j + 1 := ⟨i - A.length - 1, by omega⟩
   rw [hj]; rfl
theorem upd_rgB {A : List Bx} {lg : Bx} {L0 : List (Nat × List D)} : ∀ {L : List (Nat × List D)} {DS : List (List D)} {l : Bx}, (∀ p ∈ L, ∃ cs, lk p.1 l = some cs ∧ cs.length = p.2.length) -> All2 (fun (p : Nat × List D) ys => ys.length = p.2.length) L DS ->
  upd (rgB A.length L) DS (A ++ [l] ++ [lg]) = A ++ [wrA ((L.map (·.1)).zip DS) l] ++ [lg]
 | [], DS, l, _, h => by obtain rfl := h.nil_l; rfl
 | (b, cs0) :: L, DS, l, hl, h => by
  obtain ⟨ys, q, rfl, h1, h2⟩ := h.cons_l
  obtain ⟨cs, c1, c2⟩ := hl (b, cs0) (by simp)
  have h1 : ys.length = cs0.length := h1
  have hw : wrR ⟨true, A.length, b, 0, cs0.length⟩ ys (A ++ [l] ++ [lg]) = A ++ [sb b ys l] ++ [lg] := by
   unfold wrR
   simp only
   rw [modify_mid]
   simp only at c1 c2
   rw [c1]
   have : over ((some cs).getD []) 0 ys = ys := by
    unfold over
    simp only [Option.getD_some, List.take_zero, List.nil_append, Nat.zero_add]
    rw [List.drop_of_length_le (by omega), List.append_nil]
   rw [this]
  show upd (rgB A.length L) q (wrR ⟨true, A.length, b, 0, cs0.length⟩ ys (A ++ [l] ++ [lg])) = _
  rw [hw, upd_rgB (L0 := L0) (fun p hp => ?_) h2]
  ·rfl
  ·obtain ⟨cs', d1, d2⟩ := hl p (by simp [hp])
   rw [lk_sb']
   split
   ·rename_i e
    rw [e] at d1
    simp only at c1 c2
    rw [c1] at d1
    have := Option.some.inj d1
    subst this
    exact ⟨ys, by rw [c1]; rfl, by omega⟩
   ·exact ⟨cs', d1, d2⟩
section
variable {c : Cx} {e : Env} {l : Bx} {s : SU}
theorem nodup_of : ∀ {L : List Nat}, nodupN L = true -> L.Nodup
 | [], _ => List.nodup_nil
 | b :: r, h => by
  simp only [nodupN, Bool.and_eq_true, Bool.not_eq_true'] at h
  refine List.nodup_cons.2 ⟨fun hm => ?_, nodup_of h.2⟩
  rw [hasN_mem hm] at h
  cases h.1
where
 hasN_mem : ∀ {b : Nat} {r : List Nat}, b ∈ r -> hasN b r = true
 | b, [], h => by cases h
 | b, c :: r, h => by
  rw [hasN_c]
  by_cases e : b = c
  ·subst e; rw [Nat.beq_refl]; rfl
  ·rw [nbeq_f e]
   exact hasN_mem ((List.mem_cons.1 h).resolve_left e)
theorem brep_pf {ws : List W} {o : Option (List D)} (h : BRep c ws o) (hp : ws.all W.pf0 = true) : ∃ ds, o = some ds ∧ All2 (Rep2 c) ws ds := by
 unfold BRep at h
 split at h
 ·simp [W.pf0] at hp
 ·exact h
theorem brep_mk {ws : List W} {ds : List D} (h : All2 (Rep2 c) ws ds) (hp : ws.all W.pf0 = true) : BRep c ws (some ds) := by
 unfold BRep
 split
 ·simp [W.pf0] at hp
 ·exact ⟨ds, rfl, h⟩
theorem lkW_nd {b : Nat} {ws : List W} : ∀ {L : List (Nat × List W)}, (L.map (·.1)).Nodup -> (b, ws) ∈ L -> lkW b L = some ws
 | [], _, h => by cases h
 | (b', ws') :: r, hn, h => by
  simp only [List.map_cons, List.nodup_cons] at hn
  simp only [lkW]
  rcases List.mem_cons.1 h with h | h
  ·injection h with h1 h2
   subst h1 h2
   rw [Nat.beq_refl]; rfl
  ·have hne : b ≠ b' := fun e => hn.1 (by rw [<- e]; exact List.mem_map.2 ⟨_, h, rfl⟩)
   rw [nbeq_f hne]
   exact lkW_nd hn.2 h
theorem lkW_in {b : Nat} {ws : List W} : ∀ {L : List (Nat × List W)}, lkW b L = some ws -> (b, ws) ∈ L
 | [], h => by cases h
 | (b', ws') :: r, h => by
  simp only [lkW] at h
  by_cases e : b = b'
  ·subst e
   rw [Nat.beq_refl, cond_true] at h
   have := Option.some.inj h
   subst this
   simp
  ·rw [nbeq_f e, cond_false] at h
   exact List.mem_cons_of_mem _ (lkW_in h)
theorem rows_ds {M : List (Nat × List W)} : ∀ (L : List (Nat × List W)), (∀ p ∈ L, ∃ ds, lk p.1 l = some ds ∧ All2 (Rep2 c) p.2 ds) -> ∃ DS, All2 (fun (p : Nat × List W) ds => lk p.1 l = some ds ∧ All2 (Rep2 c) p.2 ds) L DS
 | [], _ => ⟨[], trivial⟩
 | p :: L, h => by
  obtain ⟨ds, h1⟩ := h p (by simp)
  obtain ⟨DS, h2⟩ := rows_ds (M := M) L fun q hq => h q (by simp [hq])
  exact ⟨ds :: DS, h1, h2⟩
theorem posN_ok {b : Nat} : ∀ {L : List Nat} {k j : Nat}, posN b L k = some j -> k <= j ∧ L[j - k]? = some b
 | [], k, j, h => by cases h
 | b' :: r, k, j, h => by
  simp only [posN] at h
  by_cases e : b = b'
  ·subst e
   rw [Nat.beq_refl, cond_true] at h
   have := Option.some.inj h
   subst this
   exact ⟨Nat.le_refl _, by rw [Nat.sub_self]; rfl⟩
  ·rw [nbeq_f e, cond_false] at h
   obtain ⟨h1, h2⟩ := posN_ok h
   refine ⟨by omega, ?_⟩
   obtain ⟨i, hi⟩ : ∃ i, j - k = i + 1 := ⟨j - k - 1, by omega⟩
   rw [hi, List.getElem?_cons_succ, <- h2]
   congr 1
   omega
def cR (c : Cx) (L : List (Nat × List D)) : Cx := ⟨c.P, c.F, c.n + 2, rgB c.n L, fun _ => []⟩
theorem rgB_get {n : Nat} {L : List (Nat × List D)} {i : Nat} {r : Rg} (h : (rgB n L)[i]? = some r) : ∃ p, L[i]? = some p ∧ r = ⟨true, n, p.1, 0, p.2.length⟩ := by
 unfold rgB at h
 rw [List.getElem?_map] at h
 obtain ⟨p, h1, h2⟩ := Option.map_eq_some_iff.1 h
 exact ⟨p, h1, h2.symm⟩
theorem cR_ok (hc : c.ok) {L : List (Nat × List D)} (hn : (L.map (·.1)).Nodup) : (cR c L).ok := by
 refine ⟨fun r hr => ?_, fun i j r q hi hj hij _ => ?_, fun x hx => ⟨Nat.lt_succ_of_lt (Nat.lt_succ_of_lt (hc.fd x hx).1), fun r hr _ => ?_⟩⟩
 ·obtain ⟨i, hi⟩ := List.mem_iff_getElem?.1 hr
  obtain ⟨p, _, rfl⟩ := rgB_get hi
  show c.n < c.n + 2
  omega
 ·obtain ⟨p, h1, rfl⟩ := rgB_get hi
  obtain ⟨p', h2, rfl⟩ := rgB_get hj
  intro h
  injection h with _ h
  have h : p.1 = p'.1 := h
  have a1 : (L.map (·.1))[i]? = some p.1 := by rw [List.getElem?_map, h1]; rfl
  have a2 : (L.map (·.1))[j]? = some p.1 := by rw [List.getElem?_map, h2, h]; rfl
  have hl1 := getq_lt a1
  have hl2 := getq_lt a2
  rw [List.getElem?_eq_getElem hl1] at a1
  rw [List.getElem?_eq_getElem hl2] at a2
  have heq := Option.some.inj (a1.trans a2.symm)
  rcases Nat.lt_or_gt_of_ne hij with hlt | hlt
  ·exact List.pairwise_iff_getElem.1 hn i j hl1 hl2 hlt heq
  ·exact List.pairwise_iff_getElem.1 hn j i hl2 hl1 hlt heq.symm
 ·obtain ⟨i, hi⟩ := List.mem_iff_getElem?.1 hr
  obtain ⟨p, _, rfl⟩ := rgB_get hi
  intro h
  injection h with h _
  have := (hc.fd x hx).1
  have h : x.f = c.n := h
  omega
theorem cR_fam {L : List (Nat × List D)} {A : List Bx} {lg : Bx} (hA : Fam c A) (hl : ∀ p ∈ L, ∃ cs, lk p.1 l = some cs ∧ cs.length = p.2.length) : Fam (cR c L) (A ++ [l] ++ [lg]) := by
 have hn := hA.len
 refine ⟨by simp [cR, hn], fun x hx => ?_, fun r hr => ?_, fun i r hi hw => ?_⟩
 ·obtain ⟨l', cs, a1, a2, a3, a4⟩ := hA.sat x hx
  exact ⟨l', cs, by rw [List.append_assoc, List.getElem?_append_left (getq_lt a1)]; exact a1, a2, a3, a4⟩
 ·obtain ⟨i, hi⟩ := List.mem_iff_getElem?.1 hr
  obtain ⟨p, h1, rfl⟩ := rgB_get hi
  obtain ⟨cs, c1, c2⟩ := hl p (List.mem_of_getElem? h1)
  refine ⟨l, cs, ?_, c1, by simp only; omega⟩
  show (A ++ [l] ++ [lg])[c.n]? = some l
  rw [<- hn]; simp
 ·obtain ⟨p, h1, rfl⟩ := rgB_get hi
  cases hw
theorem strip_one {d : D} (h : Flat d) : True := trivial
theorem tr_ok {L : List (Nat × List D)} {w0 w : W} {d : D} (h : trW (L.map (·.1)) w0 = some w) (hr : Rep5 c e w0 d) : Rep4 (cR c L) w d.strip.strip ∧ D.cap (c.n + 1) d.strip = true := by
 cases w0 with
 | u τ x =>
  simp only [trW] at h
  cases hk : trTy τ with
  | false => rw [hk] at h; cases h
  | true =>
   rw [hk, cond_true] at h
   have := Option.some.inj h
   subst this
   have hr1 : RepL c.P τ c.F x [d] := hr.2
   cases τ with
   | i k => obtain ⟨rfl, h2⟩ := i_d hr1; exact ⟨⟨rfl, rfl, h2⟩, rfl⟩
   | b => obtain rfl := b_d hr1; exact ⟨⟨rfl, rfl⟩, rfl⟩
   | s => obtain ⟨rfl, h2⟩ := s_d hr1; exact ⟨⟨rfl, rfl, h2⟩, rfl⟩
   | l m t =>
    cases m with
    | ro =>
     obtain ⟨hl, es, h3, h2⟩ := l_d hr1
     rcases h2 with rfl | ⟨rfl, z, rfl⟩
     ·exact ⟨⟨rfl, hl, es, h3, .inl rfl⟩, rfl⟩
     ·exact ⟨⟨rfl, hl, [], h3, .inr ⟨rfl, z, rfl⟩⟩, rfl⟩
    | _ => cases hk
   | _ => cases hk
 | pt pb off =>
  cases pb with
  | own b =>
   simp only [trW] at h
   obtain ⟨j, h1, h2⟩ := Option.map_eq_some_iff.1 h
   subst h2
   have hd : d = .ptr c.n b off := hr
   subst hd
   obtain ⟨_, hp⟩ := posN_ok h1
   rw [Nat.sub_zero, List.getElem?_map] at hp
   obtain ⟨p, p1, p2⟩ := Option.map_eq_some_iff.1 hp
   refine ⟨⟨⟨true, c.n, p.1, 0, p.2.length⟩, ?_, ?_⟩, ?_⟩
   ·show (rgB c.n L)[j]? = _
    unfold rgB
    rw [List.getElem?_map, p1]; rfl
   ·show D.ptr c.n b off = .ptr c.n p.1 (0 + off)
    rw [p2, Nat.zero_add]
   ·show (!false && !false && decide (c.n < c.n + 1)) = true
    simp
  | ext i => cases h
 | nil =>
  simp only [trW] at h
  have := Option.some.inj h
  subst this
  obtain ⟨z, rfl⟩ := hr
  exact ⟨⟨z, rfl⟩, rfl⟩
 | np =>
  simp only [trW] at h
  have := Option.some.inj h
  subst this
  have hd : d = .v (.pointer none) := hr
  subst hd
  exact ⟨rfl, rfl⟩
 | _ => cases h
theorem caps_ok {L : List (Nat × List D)} (hS : ∀ t, Rep5 c e (getW t s.e) (get t e)) : ∀ {ks : List Nat} {ec : List (Nat × W)}, capsR (L.map (·.1)) s ks = some ec -> (∀ t, Rep4 (cR c L) (getW t ec) (get t (envC ks (ks.map fun t => (get t e).strip)))) ∧ (ks.map fun t => (get t e).strip).all (D.cap (c.n + 1)) = true
 | [], ec, h => by
  have := Option.some.inj h
  subst this
  exact ⟨fun t => trivial, rfl⟩
 | k :: ks, ec, h => by
  simp only [capsR] at h
  obtain ⟨w, h1, h2⟩ := Option.bind_eq_some_iff.1 h
  obtain ⟨q, h3, rfl⟩ := Option.map_eq_some_iff.1 h2
  obtain ⟨i1, i2⟩ := caps_ok hS h3
  obtain ⟨t1, t2⟩ := tr_ok h1 (hS k)
  refine ⟨fun t => ?_, by simp only [List.map_cons, List.all_cons, t2, i2, Bool.and_self]⟩
  simp only [List.map_cons, envC, get_put]
  by_cases e : t = k
  ·subst e
   simp only [getW, Nat.beq_refl, cond_true, if_true]
   exact t1
  ·simp only [getW, nbeq_f e, cond_false, if_neg e]
   exact i1 t
theorem zipR_ok : ∀ {L : List (Nat × List W)} {xs : List (List W)} {l4 : List (Nat × List W)}, zipR L xs = some l4 -> l4.map (·.1) = L.map (·.1) ∧ l4.map (·.2) = xs ∧ xs.all (fun ws => ws.all W.pf0) = true
 | [], [], l4, h => by
  have := Option.some.inj h
  subst this
  exact ⟨rfl, rfl, rfl⟩
 | [], _ :: _, l4, h => by simp [zipR] at h
 | _ :: _, [], l4, h => by simp [zipR] at h
 | (b, ws0) :: r, ws :: q, l4, h => by
  simp only [zipR] at h
  cases hp : ws.all W.pf0 with
  | false => rw [hp] at h; cases h
  | true =>
   rw [hp, cond_true] at h
   obtain ⟨z, h1, rfl⟩ := Option.map_eq_some_iff.1 h
   obtain ⟨i1, i2, i3⟩ := zipR_ok h1
   exact ⟨by simp only [List.map_cons, i1], by simp only [List.map_cons, i2], by simp only [List.all_cons, hp, i3, Bool.and_self]⟩
theorem tup_strip {d : D} (h : d.strip.tupB = false) : d.tupB = false := by cases d <;> first | rfl | cases h
theorem rR_val {call : Caller} {F : Fn} {ps : List Nat} {asg : Cd} {rid f b : Nat} {args : List D} {B : List Bx} {caps : List D} {ks : List Nat} (h1 : bx f b ⟨[], [], B⟩ = some (.rcd 0 0 rid ks :: caps)) (hf : f < B.length) (ha : args.length = ps.length) (ht : args.all (fun d => !d.tupB) = true)
  {s1 : S} (h2 : evC call asg ⟨envR ps args (envC ks caps), [], B⟩ = some (.nm, s1)) (h3 : bx f b s1 = some (.rcd 0 0 rid ks :: caps)) {x : Ex} {s2 : S} (h4 : evC call F.body (sbx f b (.rcd 1 0 rid ks :: caps) s1) = some (x, s2)) {st2 : Nat} (h5 : bx f b s2 = some (.rcd st2 0 rid ks :: caps)) :
  runR call F ps asg rid f b args B = some (.v (.bool (x.code == 0)), (sbx f b (.rcd (if x.code = 0 then 0 else 2) x.code rid ks :: caps) s2).o) := by
 unfold runR
 simp only [h1]
 rw [if_pos ⟨trivial, hf, ha, ht⟩]
 simp only [h2, h3, h4, h5]
def exP : Ex -> Prop -> (Nat -> Prop) -> Prop
 | .nm, k, _ => k
 | .ex i, _, e => i ≠ 999999 ∧ e i
 | .rt, _, e => e 999999
theorem round_ok {T : Tab} {rs : RS} {asg body : Tc}
  (iha : ∀ {c : Cx}, c.ok -> TabOk c.P T -> RndOk c.P asg -> ∀ {ρ : Type} {s : SU} {e : Env} {l : Bx} {Y : List (List D)} {K : SU -> Option ρ} {E : Nat -> SU -> Option ρ} {R : rs.sg.oT.T -> Option ρ} {ans : ρ}, RepS c s e l Y -> evT T rs asg s K E R = some ans -> CR c rs asg.er e l Y K E R ans)
  (ihb : ∀ {c : Cx}, c.ok -> TabOk c.P T -> RndOk c.P body -> ∀ {ρ : Type} {s : SU} {e : Env} {l : Bx} {Y : List (List D)} {K : SU -> Option ρ} {E : Nat -> SU -> Option ρ} {R : rs.sg.oT.T -> Option ρ} {ans : ρ}, RepS c s e l Y -> evT T rs body s K E R = some ans -> CR c rs body.er e l Y K E R ans)
  (hc : c.ok) (hT : TabOk c.P T) {rid b : Nat} {ks ps : List Nat}
  (hR : (∀ f b args B, c.P rid (.yld f b :: args) B = runR c.P ⟨0, false, [], some (ps, asg.er), body.er⟩ ps asg.er rid f b args B) ∧ RndOk c.P asg ∧ RndOk c.P body)
  (hS : RepS c s e l []) {a : Ty} {y : a.T} (hav : a.val = true) (haf : a.fo = true)
  (hrec : lk b l = some (.rcd 0 0 rid ks :: ks.map fun t => (get t e).strip))
  {sr : SU} (hsr : toR ps ks b (valW a y) s = some sr) {ζ : Type} {K' : SU -> Option ζ} {E' : Nat -> SU -> Option ζ} {z : ζ}
  (hev : evT T rs asg sr (fun s2 => evT T rs body s2 (fun s3 => (fromR s s3).bind K') (fun i s3 => (fromR s s3).bind (E' i)) (fun _ => none)) (fun _ _ => none) (fun _ => none) = some z)
  {d : D} (hd : RepL c.P a [] y [d.strip]) :
  ∃ (x : Ex) (s4 : SU) (l2 : Bx), RepS c s4 e l2 [] ∧ lk b l2 = some (.rcd (if x.code = 0 then 0 else 2) x.code rid ks :: ks.map fun t => (get t e).strip) ∧ (s4.l.map (·.1) = s.l.map (·.1) ∧ b ∉ s.l.map (·.1)) ∧
   exP x (K' s4 = some z) (fun i => E' i s4 = some z) ∧
   ∀ (B : List Bx) lg, Fam c B -> c.P rid [.yld c.n b, d] (B ++ [l] ++ [lg]) = some (.v (.bool (x.code == 0)), B ++ [l2] ++ [lg]) := by
 unfold toR at hsr
 split at hsr
 ·rename_i p
  cases hk : (rowsPf s.l && nodupN (s.l.map (·.1)) && !(hasN b (s.l.map (·.1))) && s.x.isEmpty) with
  | false => rw [hk] at hsr; cases hsr
  | true =>
   rw [hk, cond_true] at hsr
   obtain ⟨ec, hec, hsr⟩ := Option.map_eq_some_iff.1 hsr
   subst hsr
   simp only [Bool.and_eq_true, Bool.not_eq_true', List.isEmpty_iff] at hk
   obtain ⟨⟨⟨hpf, hnd⟩, hb⟩, hx0⟩ := hk
   have hnd := nodup_of hnd
   have hbn : b ∉ s.l.map (·.1) := fun hm => by rw [nodup_of.hasN_mem hm] at hb; cases hb
   have hpfr : ∀ q ∈ s.l, q.2.all W.pf0 = true := fun q hq => List.all_eq_true.1 hpf q hq
   obtain ⟨DL, hDL⟩ := rows_ds (c := c) (l := l) (M := []) s.l fun q hq => by
    have h1 := lkW_nd hnd (show (q.1, q.2) ∈ s.l from hq)
    exact brep_pf (hS.box q.1 q.2 h1) (hpfr q hq)
   have hlen : DL.length = s.l.length := hDL.length.symm
   let L : List (Nat × List D) := (s.l.map (·.1)).zip DL
   have hLn : L.map (·.1) = s.l.map (·.1) := by
    show ((s.l.map (·.1)).zip DL).map (·.1) = _
    rw [List.map_fst_zip]
    rw [List.length_map, hlen]; exact Nat.le_refl _
   have hLlen : L.length = s.l.length := by have := congrArg List.length hLn; rwa [List.length_map, List.length_map] at this
   have hLi : ∀ (i : Nat) q, L[i]? = some q -> ∃ p0 ds, s.l[i]? = some p0 ∧ DL[i]? = some ds ∧ q = (p0.1, ds) := fun i q hq => by
    have hq : ((s.l.map (·.1)).zip DL)[i]? = some q := hq
    rw [List.getElem?_zip_eq_some] at hq
    obtain ⟨h1, h2⟩ := hq
    rw [List.getElem?_map] at h1
    obtain ⟨p0, h3, h4⟩ := Option.map_eq_some_iff.1 h1
    exact ⟨p0, q.2, h3, h2, by rw [h4]⟩
   have hLl : ∀ q ∈ L, ∃ cs, lk q.1 l = some cs ∧ cs.length = q.2.length := fun q hq => by
    obtain ⟨i, hi⟩ := List.mem_iff_getElem?.1 hq
    obtain ⟨p0, ds, h1, h2, rfl⟩ := hLi i q hi
    obtain ⟨ds', h3, h4⟩ := hDL.get h1
    rw [h2] at h3
    have := Option.some.inj h3
    subst this
    exact ⟨_, h4.1, rfl⟩
   have hok := cR_ok hc (L := L) (by rw [hLn]; exact hnd)
   obtain ⟨henv, hcap⟩ := caps_ok (c := c) (L := L) (s := s) hS.env (ks := ks) (ec := ec) (by rw [hLn]; exact hec)
   have hrgl : (rgB c.n L).length = s.l.length := by
    unfold rgB
    rw [List.length_map, hLlen]
   have hval : Rep3 (cR c L) (valW a y) d.strip := valW_ok (c := cR c L) hav (RepL.fo haf hd)
   have hS0 : RepS (cR c L) ⟨(p, valW a y) :: ec, [], [], s.l.map (·.2), s.l.map fun _ => true⟩ (envR [p] [d] (envC ks (ks.map fun t => (get t e).strip))) [] DL := by
    refine ⟨fun t => ?_, (fun b ws h => by cases h), (fun b h => absurd rfl h), ?_, ?_, ?_, fun i r ys hi hy => ?_⟩
    ·refine Rep5_of ?_
     simp only [envR, get_put]
     by_cases e1 : t = p
     ·subst e1
      simp only [getW, Nat.beq_refl, cond_true, if_true]
      exact to4 hval
     ·simp only [getW, nbeq_f e1, cond_false, if_neg e1]
      exact henv t
    ·have : ∀ {M : List (Nat × List W)} {DS : List (List D)}, (∀ q ∈ M, q.2.all W.pf0 = true) -> All2 (fun (p : Nat × List W) ds => lk p.1 l = some ds ∧ All2 (Rep2 c) p.2 ds) M DS -> All2 (All2 (Rep2 (cR c L))) (M.map (·.2)) DS := by
      intro M
      induction M with
      | nil => intro DS _ h; obtain rfl := h.nil_l; trivial
      | cons q M ih =>
       intro DS hq h
       obtain ⟨ds, DS', rfl, h1, h2⟩ := h.cons_l
       exact ⟨h1.2.mono fun w d' hm hr => pf0_up (c := c) (c' := cR c L) rfl (fun x hx => hx) hr (List.all_eq_true.1 (hq q (by simp)) w hm), ih (fun q' hq' => hq q' (by simp [hq'])) h2⟩
     exact this hpfr hDL
    ·show (s.l.map fun _ => true) = (rgB c.n L).map Rg.w
     unfold rgB
     rw [List.map_map]
     apply List.ext_getElem
     ·rw [List.length_map, List.length_map, hLlen]
     ·intro i h1 h2
      simp
    ·rw [hlen]; exact hrgl.symm
    ·obtain ⟨q, h1, rfl⟩ := rgB_get hi
     obtain ⟨p0, ds, h2, h3, rfl⟩ := hLi i q h1
     rw [hy] at h3
     have := Option.some.inj h3
     subst this
     exact ⟨rfl, fun h => by cases h⟩
   obtain ⟨x0, s2, e2, l2r, Y2, hS2, hrun2, hpost⟩ := iha hok hT hR.2.1 hS0 hev
   have hx0' : x0 = .nm ∧ evT T rs body s2 (fun s3 => (fromR s s3).bind K') (fun i s3 => (fromR s s3).bind (E' i)) (fun _ => none) = some z := by
    cases x0 with
    | nm => exact ⟨rfl, hpost⟩
    | ex i => cases hpost.2
    | rt =>
     rcases hpost with h | h
     ·obtain ⟨_, _, h⟩ := Option.bind_eq_some_iff.1 h; cases h
     ·cases h
   obtain ⟨rfl, hev2⟩ := hx0'
   obtain ⟨x, s3, e3, l3r, Y3, hS3, hrun3, hpost3⟩ := ihb hok hT hR.2.2 hS2 hev2
   have hfin : ∃ s4, fromR s s3 = some s4 ∧ exP x (K' s4 = some z) (fun i => E' i s4 = some z) := by
    cases x with
    | nm => obtain ⟨s4, h1, h2⟩ := Option.bind_eq_some_iff.1 hpost3; exact ⟨s4, h1, h2⟩
    | ex i => obtain ⟨s4, h1, h2⟩ := Option.bind_eq_some_iff.1 hpost3.2; exact ⟨s4, h1, hpost3.1, h2⟩
    | rt =>
     rcases hpost3 with h | h
     ·obtain ⟨_, _, h⟩ := Option.bind_eq_some_iff.1 h; cases h
     ·obtain ⟨s4, h1, h2⟩ := Option.bind_eq_some_iff.1 h; exact ⟨s4, h1, h2⟩
   obtain ⟨s4, hf4, hz⟩ := hfin
   unfold fromR at hf4
   obtain ⟨l4, hz4, rfl⟩ := Option.map_eq_some_iff.1 hf4
   obtain ⟨n1, n2, n3⟩ := zipR_ok hz4
   -- rows as they lie
   have rows : ∀ {s' : SU} {e' : Env} {l' : Bx} {Y' : List (List D)}, RepS (cR c L) s' e' l' Y' -> All2 (fun (p : Nat × List D) ys => ys.length = p.2.length) L Y' := fun {s' e' l' Y'} h => by
    have hl' : Y'.length = L.length := by rw [h.len]; show (rgB c.n L).length = L.length; unfold rgB; rw [List.length_map]
    have : ∀ {L0 : List (Nat × List D)} {Y0 : List (List D)}, Y0.length = L0.length -> (∀ (i : Nat) q ys, L0[i]? = some q -> Y0[i]? = some ys -> ys.length = q.2.length) -> All2 (fun (p : Nat × List D) ys => ys.length = p.2.length) L0 Y0 := by
     intro L0
     induction L0 with
     | nil => intro Y0 hl _; obtain rfl := List.eq_nil_of_length_eq_zero hl; trivial
     | cons q L0 ih =>
      intro Y0 hl hq
      cases Y0 with
      | nil => simp at hl
      | cons ys Y0 => exact ⟨hq 0 q ys rfl rfl, ih (by simpa using hl) fun i q' ys' h1 h2 => hq (i + 1) q' ys' (by simpa using h1) (by simpa using h2)⟩
    refine this hl' fun i q ys h1 h2 => ?_
    have hr : (rgB c.n L)[i]? = some ⟨true, c.n, q.1, 0, q.2.length⟩ := by unfold rgB; rw [List.getElem?_map, h1]; rfl
    exact (h.ro i _ ys hr h2).1
   have hY3 := rows hS3
   have hY3l : Y3.length = s.l.length := by rw [<- hY3.length, hLlen]
   have hY2l : Y2.length = s.l.length := by rw [<- (rows hS2).length, hLlen]
   have hz3 : (((L.map (·.1)).zip Y3)).map (·.1) = s.l.map (·.1) := by
    rw [hLn, List.map_fst_zip]
    rw [List.length_map, hY3l]; exact Nat.le_refl _
   have hz2 : (((L.map (·.1)).zip Y2)).map (·.1) = s.l.map (·.1) := by
    rw [hLn, List.map_fst_zip]
    rw [List.length_map, hY2l]; exact Nat.le_refl _
   have hl4l : l4.length = s.l.length := by have := congrArg List.length n1; rwa [List.length_map, List.length_map] at this
   let l3 : Bx := wrA ((L.map (·.1)).zip Y3) l
   let caps := ks.map fun t => (get t e).strip
   have hrec3 : lk b l3 = some (.rcd 0 0 rid ks :: caps) := by
    show lk b (wrA _ l) = _
    rw [lk_wrA_ne (by rw [hz3]; exact hbn), hrec]
   refine ⟨x, { s with l := l4 }, sb b (.rcd (if x.code = 0 then 0 else 2) x.code rid ks :: caps) l3, ?_, ?_, ⟨n1, hbn⟩, hz, fun B lg hB => ?_⟩
   ·refine ⟨hS.env, fun b' ws hw => ?_, fun b' hb' => ?_, hS.ext, hS.wr, hS.len, hS.ro⟩
    ·have hm := lkW_in hw
     obtain ⟨i, hi⟩ := List.mem_iff_getElem?.1 hm
     have hb1 : (s.l.map (·.1))[i]? = some b' := by rw [<- n1, List.getElem?_map, hi]; rfl
     have hws : s3.x[i]? = some ws := by rw [<- n2, List.getElem?_map, hi]; rfl
     have hbm : b' ∈ s.l.map (·.1) := List.mem_of_getElem? hb1
     have hne : b' ≠ b := fun h => hbn (by rw [<- h]; exact hbm)
     obtain ⟨ds3, hd1, hd2⟩ := hS3.ext.get hws
     have hpw : ws.all W.pf0 = true := List.all_eq_true.1 n3 ws (List.mem_of_getElem? hws)
     have hlkn : lk b' l ≠ none := by
      obtain ⟨j, hj⟩ := List.mem_iff_getElem?.1 hbm
      rw [List.getElem?_map] at hj
      obtain ⟨q, q1, q2⟩ := Option.map_eq_some_iff.1 hj
      obtain ⟨ds, _, q4, _⟩ := hDL.get q1
      rw [<- q2, q4]; simp
     have : lk b' (sb b (.rcd (if x.code = 0 then 0 else 2) x.code rid ks :: caps) l3) = some ds3 := by
      rw [lk_sb', if_neg hne]
      refine lk_wrA (by rw [hz3]; exact hnd) ?_ hlkn
      refine List.mem_iff_getElem?.2 ⟨i, ?_⟩
      rw [List.getElem?_zip_eq_some]
      exact ⟨by rw [hLn]; exact hb1, hd1⟩
     rw [this]
     exact brep_mk (hd2.mono fun w d' hm' hr => pf0_up (c := cR c L) (c' := c) rfl (fun x hx => hx) hr (List.all_eq_true.1 hpw w hm')) hpw
    ·refine hS.nm b' fun h0 => hb' ?_
     rw [lk_sb']
     split
     ·rename_i e1; subst e1
      rw [show lk b' l3 = none from wrA_none.2 h0]; rfl
     ·exact wrA_none.2 h0
   ·rw [lk_sb', if_pos rfl, hrec3]; rfl
   ·have hn := hB.len
    have hid : upd (cR c L).rg DL (B ++ [l] ++ [lg]) = B ++ [l] ++ [lg] := by
     refine upd_id fun i r ys h1 h2 _ => ?_
     obtain ⟨q, h3, rfl⟩ := rgB_get h1
     obtain ⟨p0, ds, h4, h5, rfl⟩ := hLi i q h3
     rw [h2] at h5
     have := Option.some.inj h5
     subst this
     obtain ⟨ds', g1, g2⟩ := hDL.get h4
     rw [h2] at g1
     have := Option.some.inj g1
     subst this
     refine ⟨l, ys, ?_, g2.1, by simp, by simp⟩
     show (B ++ [l] ++ [lg])[c.n]? = some l
     rw [<- hn]; simp
    have hbx : ∀ {e' : Env} {l' : Bx} {l'' : Bx}, bx c.n b ⟨e', l', B ++ [l''] ++ [lg]⟩ = lk b l'' := fun {e' l' l''} => by
     unfold bx
     rw [if_neg (by first | (simp [<- hn]; done) | (simp [<- hn]; omega))]
     show ((B ++ [l''] ++ [lg])[c.n]?).bind (lk b) = lk b l''
     rw [<- hn]; simp
    have hsbx : ∀ {e' : Env} {l' : Bx} {l'' : Bx} {ds : List D}, sbx c.n b ds ⟨e', l', B ++ [l''] ++ [lg]⟩ = ⟨e', l', B ++ [sb b ds l''] ++ [lg]⟩ := fun {e' l' l'' ds} => by
     unfold sbx
     rw [if_neg (by first | (simp [<- hn]; done) | (simp [<- hn]; omega))]
     show (⟨e', l', (B ++ [l''] ++ [lg]).modify c.n (sb b ds)⟩ : S) = _
     rw [<- hn, modify_mid]
    have u2 := upd_rgB (A := B) (lg := lg) (L0 := []) (L := L) (DS := Y2) (l := l) hLl (rows hS2)
    rw [hn] at u2
    have r2 := hrun2 _ (cR_fam (c := c) (l := l) (lg := lg) hB hLl)
    rw [hid, show upd (cR c L).rg Y2 (B ++ [l] ++ [lg]) = _ from u2] at r2
    have hLl1 : ∀ q ∈ L, ∃ cs, lk q.1 (sb b (.rcd 1 0 rid ks :: caps) l) = some cs ∧ cs.length = q.2.length := fun q hq => by
     obtain ⟨cs, c1, c2⟩ := hLl q hq
     refine ⟨cs, ?_, c2⟩
     rw [lk_sb', if_neg, c1]
     intro h
     exact hbn (by rw [<- hLn, <- h]; exact List.mem_map.2 ⟨q, hq, rfl⟩)
    have u3 := upd_rgB (A := B) (lg := lg) (L0 := []) (L := L) (DS := Y3) (l := sb b (.rcd 1 0 rid ks :: caps) l) hLl1 hY3
    have u23 := upd_rgB (A := B) (lg := lg) (L0 := []) (L := L) (DS := Y2) (l := sb b (.rcd 1 0 rid ks :: caps) l) hLl1 (rows hS2)
    rw [hn, wrA_sb (by rw [hz3]; exact hbn)] at u3
    rw [hn, wrA_sb (by rw [hz2]; exact hbn)] at u23
    have r3 := hrun3 _ (cR_fam (c := c) (lg := lg) hB hLl1)
    rw [show upd (cR c L).rg Y2 (B ++ [sb b (.rcd 1 0 rid ks :: caps) l] ++ [lg]) = _ from u23, show upd (cR c L).rg Y3 (B ++ [sb b (.rcd 1 0 rid ks :: caps) l] ++ [lg]) = _ from u3] at r3
    have hrec2 : lk b (wrA ((L.map (·.1)).zip Y2) l) = some (.rcd 0 0 rid ks :: caps) := by
     rw [lk_wrA_ne (by rw [hz2]; exact hbn), hrec]
    have htup : d.tupB = false := tup_strip (by
     rcases tup_d hval with h | h
     ·have := pf_val a y
      rw [h] at this
      cases this
     ·exact h)
    rw [hR.1 c.n b [d] (B ++ [l] ++ [lg])]
    have hrb : lk b (sb b (.rcd 1 0 rid ks :: caps) l3) = some (.rcd 1 0 rid ks :: caps) := by rw [lk_sb', if_pos rfl, hrec3]; rfl
    have hps : ∃ p', True := ⟨p, trivial⟩
    rw [rR_val (call := c.P) (s1 := ⟨e2, l2r, B ++ [wrA ((L.map (·.1)).zip Y2) l] ++ [lg]⟩) (x := x) (s2 := ⟨e3, l3r, B ++ [sb b (.rcd 1 0 rid ks :: caps) l3] ++ [lg]⟩) (st2 := 1) (caps := caps) (ks := ks)
     (by rw [hbx]; exact hrec) (by first | (simp [<- hn]; done) | (simp [<- hn]; omega)) rfl (by simp [htup]) r2 (by rw [hbx]; exact hrec2) (by rw [hsbx]; exact r3) (by rw [hbx]; exact hrb)]
    rw [hsbx, sb_sb]
 ·cases hsr
end
end Go.Proofs.Ytlhjdikklmkihaa.Ev.U
namespace Go.Proofs.Ytlhjdikklmkihaa.Ev.U
open Go
theorem castT_id (a : Ty) (x : a.T) : castT a a x = some x := by simp [castT]
theorem dsp_inj {ρ : Type} : ∀ {L : List Ty} {j : Nat} {τ : Ty} {x : τ.T} {y : (XTy L).T} (h : Nat -> (τ : Ty) -> τ.T -> Option ρ), injX L j τ x = some y -> dspX L y h = h j τ x
 | [], j, τ, x, y, h, hi => by cases hi
 | [a], 0, τ, x, y, h, hi => by
  obtain ⟨e, hi⟩ := castT_eq (show castT τ a x = some y from hi)
  subst e; subst hi; rfl
 | [a], j + 1, τ, x, y, h, hi => by cases hi
 | a :: b :: L, 0, τ, x, y, h, hi => by
  obtain ⟨z, h1, h2⟩ := Option.map_eq_some_iff.1 (show (castT τ a x).map Sum.inl = some y from hi)
  obtain ⟨e, h1⟩ := castT_eq h1
  subst e; subst h1; subst h2; rfl
 | a :: b :: L, j + 1, τ, x, y, h, hi => by
  obtain ⟨z, h1, h2⟩ := Option.map_eq_some_iff.1 (show (injX (b :: L) j τ x).map Sum.inr = some y from hi)
  subst h2
  exact dsp_inj (L := b :: L) (fun i => h (i + 1)) h1
theorem fEx_get {i : Nat} : ∀ {ex : List (Nat × Sh)} {k j : Nat} {h : Sh}, fEx i ex k = some (j, h) -> k <= j ∧ ex[j - k]? = some (i, h)
 | [], k, j, h, hf => by cases hf
 | (n, h') :: r, k, j, h, hf => by
  unfold fEx at hf
  by_cases e : i = n
  ·subst e
   rw [Nat.beq_refl, cond_true] at hf
   have := Option.some.inj hf
   injection this with h1 h2
   subst h1 h2
   exact ⟨Nat.le_refl _, by simp⟩
  ·rw [nbeq_f e, cond_false] at hf
   obtain ⟨h1, h2⟩ := fEx_get hf
   exact ⟨by omega, by rw [show j - k = (j - (k + 1)) + 1 by omega]; simpa using h2⟩
section
variable {c : Cx}
theorem in0_ok {bs : List Nat} {w : W} {d : D} (hc : c.ok) (h : Rep1 c w d) (hw : inW0 bs w = true) : d.in1 c.n bs = true := by
 have hasC : ∀ {L : List Nat} {b : Nat}, hasN b L = true -> L.contains b = true := by
  intro L b
  induction L with
  | nil => intro h; cases h
  | cons m L ih =>
   intro h
   rw [hasN_c] at h
   by_cases e : b = m
   ·subst e; simp
   ·rw [nbeq_f e, cond_false] at h
    simp only [List.contains_cons, ih h, Bool.or_true]
 cases w with
 | u τ x =>
  have h1 := h.1
  have h2 := h.2
  cases τ with
  | i k => exact (flat_u (τ := .i k) h2 rfl).inn _ _
  | b => exact (flat_u (τ := .b) h2 rfl).inn _ _
  | s => exact (flat_u (τ := .s) h2 rfl).inn _ _
  | l m t => exact (flat_u (τ := .l m t) h2 rfl).inn _ _
  | fn a r =>
   obtain ⟨f, caps, rfl, h3, _⟩ := fn_d h2
   refine List.all_eq_true.2 fun d hd => ?_
   have := h3 d hd
   cases d with
   | ptr f b o =>
    obtain ⟨x, x1, x2⟩ := this
    have := (hc.fd x x1).1
    rw [x2] at this
    simp [this]
   | v => rfl
   | fptr => rfl
   | _ => exact this.elim
  | cl f r =>
   obtain ⟨_, cs, rfl, h3⟩ := cl_d h2
   rfl
  | _ => cases h1
 | nil => obtain ⟨z, rfl⟩ := h; rfl
 | np => rw [show d = .v (.pointer none) from h]; rfl
 | pt b off => cases b with
  | own b =>
   rw [show d = .ptr c.n b off from h]
   have := hasC (show hasN b bs = true from hw)
   simp only [D.in1, beq_self_eq_true, this, Bool.and_self, Bool.or_true]
  | ext i =>
   obtain ⟨r, h1, rfl⟩ := h
   have := hc.lt r (List.mem_of_getElem? h1)
   simp [D.in1, this]
 | fp ws off => obtain ⟨_, rfl, _⟩ := h; rfl
 | _ => cases hw
theorem in1_ok {bs : List Nat} {w : W} {d : D} (hc : c.ok) (h : Rep2 c w d) (hw : inW1 bs w = true) : d.in1 c.n bs = true := by
 cases w with
 | clo f ws =>
  obtain ⟨cs, rfl, h2, h3⟩ := h
  have key : ∀ {ws : List W} {cs : List D}, All2 (Rep1 c) ws cs -> ws.all (inW0 bs) = true -> ws.all capW = true -> (cs.all fun | .ptr f s _ => decide (f < c.n) || (f == c.n && bs.contains s) | .v _ => true | .fptr _ _ => true | _ => false) = true := fun ha h1 h2 => All2.all_r (fun w d hm q => by
   have k := in0_ok hc q (List.all_eq_true.1 h1 w hm)
   have k2 := List.all_eq_true.1 h2 w hm
   cases w with
   | pt b off => cases b with
    | own b => rw [show d = .ptr c.n b off from q] at k ⊢; exact k
    | ext i => obtain ⟨r, _, rfl⟩ := q; exact k
   | fp => obtain ⟨_, rfl, _⟩ := q; rfl
   | u τ x => cases τ with
    | i k => rw [(i_d q.2).1]
    | b => rw [b_d q.2]
    | s => rw [(s_d q.2).1]
    | _ => cases k2
   | _ => cases k2) ha
  exact key h2 hw h3
 | u τ x => exact in0_ok hc (w := .u τ x) h hw
 | nil => exact in0_ok hc (w := .nil) h hw
 | np => exact in0_ok hc (w := .np) h hw
 | pt b o => exact in0_ok hc (w := .pt b o) h hw
 | fp ws o => exact in0_ok hc (w := .fp ws o) h hw
 | _ => cases hw
theorem in_ok {bs : List Nat} {w : W} {d : D} (hc : c.ok) (h : Rep4 c w d) (hw : inW bs w = true) : d.inn c.n bs = true := by
 cases w with
 | ag ws =>
  obtain ⟨cs, rfl, h2⟩ := h
  exact All2.all_r (fun w d hm q => in1_ok hc q (List.all_eq_true.1 hw w hm)) h2
 | tp => cases hw
 | un => cases hw
 | gd => cases hw
 | _ =>
  have h2 := of3 (of4 h (fun _ q => by cases q)) (fun _ q => by cases q)
  have k : d.in1 c.n bs = true := in1_ok hc h2 (by exact hw)
  rcases ag_d h2 (fun _ q => by cases q) with q | q | q
  ·cases q
  ·cases q
  rcases tup_d (to3 h2) with q' | q'
  ·cases q'
  have : ∀ {d : D}, d.aggB = false -> d.tupB = false -> d.inn c.n bs = d.in1 c.n bs := fun {d} h h' => by cases d <;> first | rfl | (cases h; done) | (cases h'; done)
  rw [this q q']; exact k
variable {e : Env} {l : Bx} {Y : List (List D)} {s : SU}
theorem fillE_names : ∀ {ks : List (Nat × Kd)} {ws : List W}, (fillE ks ws).1.map (·.1) = ks.map (·.1)
 | [], ws => rfl
 | (n, k) :: r, ws => by simp only [fillE, List.map_cons, fillE_names]
theorem fillB_names : ∀ {ks : List (Nat × List Kd)} {ws : List W}, (fillB ks ws).1.map (·.1) = ks.map (·.1)
 | [], ws => rfl
 | (n, k) :: r, ws => by simp only [fillB, List.map_cons, fillB_names]
theorem getW_mem {t : Nat} : ∀ {E : List (Nat × W)}, t ∈ E.map (·.1) -> (t, getW t E) ∈ E
 | [], h => by simp at h
 | (n, w) :: r, h => by
  by_cases e : t = n
  ·subst e; simp [getW, Nat.beq_refl]
  ·simp only [getW, nbeq_f e, cond_false]
   simp only [List.map_cons, List.mem_cons] at h
   exact List.mem_cons_of_mem _ (getW_mem (h.resolve_left e))
theorem getW_none {t : Nat} : ∀ {E : List (Nat × W)}, t ∉ E.map (·.1) -> getW t E = .un
 | [], h => rfl
 | (n, w) :: r, h => by
  simp only [List.map_cons, List.mem_cons, not_or] at h
  simp only [getW, nbeq_f h.1, cond_false]
  exact getW_none h.2
theorem lkW_mem {t : Nat} : ∀ {E : List (Nat × List W)}, t ∈ E.map (·.1) -> ∃ ws, lkW t E = some ws ∧ (t, ws) ∈ E
 | [], h => by simp at h
 | (n, w) :: r, h => by
  by_cases e : t = n
  ·subst e; exact ⟨w, by simp [lkW, Nat.beq_refl], by simp⟩
  ·simp only [List.map_cons, List.mem_cons] at h
   obtain ⟨ws, h1, h2⟩ := lkW_mem (h.resolve_left e)
   exact ⟨ws, by simp only [lkW, nbeq_f e, cond_false]; exact h1, List.mem_cons_of_mem _ h2⟩
theorem lkW_none {t : Nat} : ∀ {E : List (Nat × List W)}, t ∉ E.map (·.1) -> lkW t E = none
 | [], h => rfl
 | (n, w) :: r, h => by
  simp only [List.map_cons, List.mem_cons, not_or] at h
  simp only [lkW, nbeq_f h.1, cond_false]
  exact lkW_none h.2
theorem carE_ok {k : Nat} {bs : List Nat} {e : Env} : ∀ {ks : List Nat}, (∀ t ∈ ks, (get t e).inn k bs = true) -> ∃ e1, carE k bs e ks = some e1 ∧ ∀ t, get t e1 = if t ∈ ks then get t e else .u
 | [], _ => ⟨[], rfl, fun t => by simp [get]⟩
 | n :: r, h => by
  obtain ⟨e1, h1, h2⟩ := carE_ok fun t ht => h t (List.mem_cons_of_mem _ ht)
  refine ⟨(n, get n e) :: e1, by simp only [carE, if_pos (h n (by simp)), h1, Option.map_some], fun t => ?_⟩
  rw [get_put, h2]
  by_cases e' : t = n
  ·subst e'; simp
  ·simp [e']
theorem carL_ok {k : Nat} {bs : List Nat} {l : Bx} : ∀ {ks : List Nat}, (∀ t ∈ ks, ∃ ds, lk t l = some ds ∧ ds.all (D.in1 k bs) = true) -> ∃ l1, carL k bs l ks = some l1 ∧ ∀ t, lk t l1 = if t ∈ ks then lk t l else none
 | [], _ => ⟨[], rfl, fun t => by simp [lk]⟩
 | n :: r, h => by
  obtain ⟨l1, h1, h2⟩ := carL_ok fun t ht => h t (List.mem_cons_of_mem _ ht)
  obtain ⟨ds, q1, q2⟩ := h n (by simp)
  refine ⟨(n, ds) :: l1, by simp only [carL, q1, if_pos q2, h1, Option.map_some], fun t => ?_⟩
  simp only [lk]
  by_cases e' : t = n
  ·subst e'; simp [q1]
  ·rw [if_neg e', h2]
   simp [e']
theorem carry_ok (hc : c.ok) {h : Sh} {x : h.ty.T} (hS : RepS c s e l Y) (hp : h.pack0 s = some x) (hl : lokS h (h.fill x) = true) : ∃ e1 l1, RepS c (h.fill x) e1 l1 Y ∧ ∀ o : List Bx, o.length = c.n -> carry (h.ks.map (·.1)) (h.bs.map (·.1)) ⟨e, l, o⟩ = some ⟨e1, l1, o⟩ := by
 obtain ⟨p1, p2, p3, p4, p5⟩ := shp0_ok hS hp
 simp only [lokS, Bool.and_eq_true] at hl
 obtain ⟨⟨l1, l2⟩, l3⟩ := hl
 have ne : (h.fill x).e.map (·.1) = h.ks.map (·.1) := fillE_names
 have nb : (h.fill x).l.map (·.1) = h.bs.map (·.1) := fillB_names
 have env4 : ∀ t ∈ h.ks.map (·.1), Rep4 c (getW t (h.fill x).e) (get t e) ∧ inW (h.bs.map (·.1)) (getW t (h.fill x).e) = true := by
  intro t ht
  rw [<- ne] at ht
  have hm := getW_mem ht
  have hi := List.all_eq_true.1 l1 _ hm
  exact ⟨p1 t, hi⟩
 obtain ⟨e1, c1, c2⟩ := carE_ok (k := c.n) (bs := h.bs.map (·.1)) (e := e) (ks := h.ks.map (·.1)) fun t ht => in_ok hc (env4 t ht).1 (env4 t ht).2
 have box4 : ∀ b ∈ h.bs.map (·.1), ∃ ws ds, lkW b (h.fill x).l = some ws ∧ lk b l = some ds ∧ All2 (Rep2 c) ws ds ∧ ds.all (D.in1 c.n (h.bs.map (·.1))) = true := by
  intro b hb
  rw [<- nb] at hb
  obtain ⟨ws, h1, h2⟩ := lkW_mem hb
  obtain ⟨ds, h3, h4⟩ := p2 b ws h1
  have hi := List.all_eq_true.1 l2 _ h2
  exact ⟨ws, ds, h1, h3, h4, All2.all_r (fun w d hm q => in1_ok hc q (List.all_eq_true.1 hi w hm)) h4⟩
 obtain ⟨L1, d1, d2⟩ := carL_ok (k := c.n) (bs := h.bs.map (·.1)) (l := l) (ks := h.bs.map (·.1)) fun b hb => by
  obtain ⟨ws, ds, _, q1, _, q2⟩ := box4 b hb
  exact ⟨ds, q1, q2⟩
 refine ⟨e1, L1, ⟨fun t => ?_, fun b ws hb => ?_, fun b hb => ?_, p3, p4, hS.len, hS.ro⟩, fun o ho => ?_⟩
 ·rw [c2]
  by_cases ht : t ∈ h.ks.map (·.1)
  ·rw [if_pos ht]; exact Rep5_of (env4 t ht).1
  ·rw [if_neg ht, getW_none (by rw [ne]; exact ht)]; trivial
 ·rw [d2]
  by_cases ht : b ∈ h.bs.map (·.1)
  ·rw [if_pos ht]; obtain ⟨ds, q1, q2⟩ := p2 b ws hb; rw [q1]; exact BRep.of q2
  ·rw [lkW_none (by rw [nb]; exact ht)] at hb; cases hb
 ·rw [d2] at hb
  by_cases ht : b ∈ h.bs.map (·.1)
  ·obtain ⟨y, hy, rfl⟩ := List.mem_map.1 ht
   rw [p5]; exact List.all_eq_true.1 l3 y hy
  ·rw [if_neg ht] at hb; exact absurd rfl hb
 ·simp only [carry, ho, c1, d1]
theorem exE_ok {X : Type} {L : List Ty} {ex : List (Nat × Sh)} {k : Nat} {w : (XTy L).T -> X} {i : Nat} {a : X} (h : exE L ex k w i s = some a) : ∃ j h' γ y, ex[j]? = some (i, h') ∧ h'.pack s = some γ ∧ injX L (j + k) h'.ty γ = some y ∧ w y = a := by
 unfold exE at h
 split at h
 ·rename_i j h' hf
  obtain ⟨q1, q2⟩ := fEx_get hf
  obtain ⟨γ, g1, g2⟩ := Option.bind_eq_some_iff.1 h
  obtain ⟨y, g3, g4⟩ := Option.map_eq_some_iff.1 g2
  exact ⟨j, h', γ, y, by simpa using q2, g1, g3, g4⟩
 ·cases h
theorem exR_ok {X : Type} {rs : RS} {L : List Ty} {ex : List (Nat × Sh)} {rt : Bool} {k : Nat} {w : (XTy L).T -> X} {r : rs.sg.oT.T} {a : X} (h : exR rs L ex rt k w r = some a) : ∃ y, injX L (ex.length + k) rs.sg.oT r = some y ∧ w y = a := by
 unfold exR at h
 cases rt with
 | false => cases h
 | true =>
  obtain ⟨y, g3, g4⟩ := Option.map_eq_some_iff.1 h
  exact ⟨y, g3, g4⟩
theorem exD_ex {ρ : Type} {rs : RS} {ex : List (Nat × Sh)} {E : Nat -> SU -> Option ρ} {R : rs.sg.oT.T -> Option ρ} {j i : Nat} {h : Sh} {γ : h.ty.T} (hj : ex[j]? = some (i, h)) : exD rs ex E R j h.ty γ = E i (h.fill γ) := by
 unfold exD
 rw [hj]
 simp only [castT_id, Option.bind_some]
theorem exD_rt {ρ : Type} {rs : RS} {ex : List (Nat × Sh)} {E : Nat -> SU -> Option ρ} {R : rs.sg.oT.T -> Option ρ} {r : rs.sg.oT.T} : exD rs ex E R ex.length rs.sg.oT r = R r := by
 unfold exD
 rw [List.getElem?_eq_none (Nat.le_refl _)]
 simp only [castT_id, Option.bind_some]
theorem evOps_app {P : Caller} : ∀ {a b : List Stp} {st : S}, evOps P (a ++ b) st = (evOps P a st).bind (evOps P b)
 | [], b, st => rfl
 | p :: a, b, st => by
  simp only [List.cons_append, evOps]
  cases evStp P p st with
  | none => rfl
  | some st => exact evOps_app
theorem foldU_app {α σ ξ : Type} {body : α -> σ -> Option (σ ⊕ ξ)} : ∀ {A B : List α} {s : σ}, foldU body (A ++ B) s = match foldU body A s with
  | none => none
  | some (.inl s') => foldU body B s'
  | some (.inr z) => some (.inr z)
 | [], B, s => rfl
 | a :: A, B, s => by
  simp only [List.cons_append, foldU]
  cases hb : body a s with
  | none => rfl
  | some q => cases q with
   | inl s' => exact foldU_app
   | inr z => rfl
theorem exOf_code (x : Ex) : exOf x.code = x := by cases x <;> rfl
theorem fold_ok {T : Tab} {rs : RS} {asg body : Tc}
  (iha : ∀ {c : Cx}, c.ok -> TabOk c.P T -> RndOk c.P asg -> ∀ {ρ : Type} {s : SU} {e : Env} {l : Bx} {Y : List (List D)} {K : SU -> Option ρ} {E : Nat -> SU -> Option ρ} {R : rs.sg.oT.T -> Option ρ} {ans : ρ}, RepS c s e l Y -> evT T rs asg s K E R = some ans -> CR c rs asg.er e l Y K E R ans)
  (ihb : ∀ {c : Cx}, c.ok -> TabOk c.P T -> RndOk c.P body -> ∀ {ρ : Type} {s : SU} {e : Env} {l : Bx} {Y : List (List D)} {K : SU -> Option ρ} {E : Nat -> SU -> Option ρ} {R : rs.sg.oT.T -> Option ρ} {ans : ρ}, RepS c s e l Y -> evT T rs body s K E R = some ans -> CR c rs body.er e l Y K E R ans)
  (hc : c.ok) (hT : TabOk c.P T) {h : Sh} {ex : List (Nat × Sh)} {rid b : Nat} {ks ps : List Nat}
  (hR : (∀ f b args B, c.P rid (.yld f b :: args) B = runR c.P ⟨0, false, [], some (ps, asg.er), body.er⟩ ps asg.er rid f b args B) ∧ RndOk c.P asg ∧ RndOk c.P body)
  {a : Ty} (hav : a.val = true) (haf : a.fo = true) :
  ∀ {L : List a.T} {ds : List D} {σ : h.ty.T} {l : Bx} {z : h.ty.T ⊕ (XTy (exTys rs ex false)).T}, All2 (fun y d => RepL c.P a [] y [d.strip]) L ds -> RepS c (h.fill σ) e l [] -> lk b l = some (.rcd 0 0 rid ks :: ks.map fun t => (get t e).strip) -> b ∉ (h.fill σ).l.map (·.1) ->
   foldU (fun y σ => (toR ps ks b (valW a y) (h.fill σ)).bind fun sr => evT T rs asg sr (fun s2 => evT T rs body s2
      (fun s3 => (fromR (h.fill σ) s3).bind fun s4 => (h.pack s4).map Sum.inl)
      (fun i s3 => (fromR (h.fill σ) s3).bind fun s4 => exE (exTys rs ex false) ex 0 Sum.inr i s4) (fun _ => none)) (fun _ _ => none) (fun _ => none)) L σ = some z ->
   ∃ (m : Nat) (fin : Bool) (ls : Nat -> Bx), m <= L.length ∧ (fin = true -> m = L.length) ∧ (fin = false -> 0 < m) ∧ ls 0 = l ∧
    (∀ i, i < m -> lk b (ls i) = some (.rcd 0 0 rid ks :: ks.map fun t => (get t e).strip)) ∧
    (∀ i, i < m -> ∀ d, ds[i]? = some d -> ∀ (B : List Bx) lg, Fam c B -> c.P rid [.yld c.n b, d] (B ++ [ls i] ++ [lg]) = some (.v (.bool (decide (i + 1 < m) || fin)), B ++ [ls (i + 1)] ++ [lg])) ∧
    (match z with
     | .inl σf => fin = true ∧ RepS c (h.fill σf) e (ls m) [] ∧ lk b (ls m) = some (.rcd 0 0 rid ks :: ks.map fun t => (get t e).strip) ∧ b ∉ (h.fill σf).l.map (·.1)
     | .inr ζ => fin = false ∧ ∃ (x : Ex) (s4 : SU), x ≠ .nm ∧ RepS c s4 e (ls m) [] ∧ lk b (ls m) = some (.rcd 2 x.code rid ks :: ks.map fun t => (get t e).strip) ∧ b ∉ s4.l.map (·.1) ∧
       exP x False (fun i => exE (exTys rs ex false) ex 0 Sum.inr i s4 = some (Sum.inr ζ : h.ty.T ⊕ (XTy (exTys rs ex false)).T)))
 | [], ds, σ, l, z, ha, hS, hrec, hb, hf => by
  have := Option.some.inj hf
  subst this
  exact ⟨0, true, fun _ => l, Nat.le_refl _, (fun _ => rfl), (fun h => by cases h), rfl, (fun i h => by omega), (fun i h => by omega), rfl, hS, hrec, hb⟩
 | y :: L, ds, σ, l, z, ha, hS, hrec, hb, hf => by
  obtain ⟨d, ds', rfl, hd, hds⟩ := ha.cons_l
  simp only [foldU] at hf
  split at hf
  ·cases hf
  ·rename_i σ' hz1
   obtain ⟨sr, hsr, hev⟩ := Option.bind_eq_some_iff.1 hz1
   obtain ⟨x, s4, l2, g1, g2, ⟨g3, g3'⟩, g4, g5⟩ := round_ok iha ihb hc hT hR hS hav haf hrec hsr (K' := fun s4 => (h.pack s4).map Sum.inl) (E' := fun i s4 => exE (exTys rs ex false) ex 0 Sum.inr i s4) hev hd
   have noE : ∀ i, exE (exTys rs ex false) ex 0 Sum.inr i s4 = some (Sum.inl σ' : h.ty.T ⊕ (XTy (exTys rs ex false)).T) -> False := fun i q => by
    obtain ⟨j, h', γ, y', _, _, _, q4⟩ := exE_ok q
    cases q4
   cases x with
   | ex i => exact (noE i g4.2).elim
   | rt => exact (noE _ g4).elim
   | nm =>
    obtain ⟨σ2, p1, p2⟩ := Option.map_eq_some_iff.1 (show (h.pack s4).map Sum.inl = some (Sum.inl σ') from g4)
    injection p2 with p2
    subst p2
    have hS2 := shp_ok g1 p1
    have hb2 : b ∉ (h.fill σ2).l.map (·.1) := by
     have e1 : (h.fill σ2).l.map (·.1) = h.bs.map (·.1) := fillB_names
     have e2 : (h.fill σ).l.map (·.1) = h.bs.map (·.1) := fillB_names
     rw [e1, <- e2]; exact hb
    obtain ⟨m, fin, ls, i1, i2, i3, i4, i5, i6, i7⟩ := fold_ok iha ihb hc hT hR hav haf hds hS2 g2 hb2 hf
    refine ⟨m + 1, fin, fun i => match i with | 0 => l | i + 1 => ls i, by simp only [List.length_cons]; omega, fun q => by rw [i2 q]; rfl, fun _ => Nat.succ_pos _, rfl, fun i hi => ?_, fun i hi d' hd' B lg hB => ?_, i7⟩
    ·cases i with
     | zero => exact hrec
     | succ i => exact i5 i (by omega)
    ·cases i with
     | zero =>
      have := Option.some.inj hd'
      subst this
      show c.P rid [.yld c.n b, d] (B ++ [l] ++ [lg]) = some (.v (.bool (decide (0 + 1 < m + 1) || fin)), B ++ [ls 0] ++ [lg])
      rw [g5 B lg hB, i4]
      have : (decide (0 + 1 < m + 1) || fin) = true := by
       cases fin with
       | true => rw [Bool.or_true]
       | false => have := i3 rfl; rw [decide_eq_true (by omega), Bool.true_or]
      rw [this]; rfl
     | succ i =>
      have := i6 i (by omega) d' (by simpa using hd') B lg hB
      show c.P rid [.yld c.n b, d'] (B ++ [ls i] ++ [lg]) = some (.v (.bool (decide (i + 1 + 1 < m + 1) || fin)), B ++ [ls (i + 1)] ++ [lg])
      rw [this, show decide (i + 1 + 1 < m + 1) = decide (i + 1 < m) from decide_eq_decide.2 (by omega)]
  ·rename_i ζ hz1
   have := Option.some.inj hf
   subst this
   obtain ⟨sr, hsr, hev⟩ := Option.bind_eq_some_iff.1 hz1
   obtain ⟨x, s4, l2, g1, g2, ⟨g3, g3'⟩, g4, g5⟩ := round_ok iha ihb hc hT hR hS hav haf hrec hsr (K' := fun s4 => (h.pack s4).map Sum.inl) (E' := fun i s4 => exE (exTys rs ex false) ex 0 Sum.inr i s4) hev hd
   have hxn : x ≠ .nm := fun q => by
    subst q
    obtain ⟨σ2, p1, p2⟩ := Option.map_eq_some_iff.1 (show (h.pack s4).map Sum.inl = some (Sum.inr ζ) from g4)
    cases p2
   have hcode : x.code ≠ 0 := by cases x <;> first | exact absurd rfl hxn | (simp [Ex.code])
   refine ⟨1, false, fun i => match i with | 0 => l | _ + 1 => l2, by simp, (fun q => by cases q), (fun _ => Nat.one_pos), rfl, fun i hi => ?_, fun i hi d' hd' B lg hB => ?_, rfl, x, s4, hxn, g1, ?_, ?_, ?_⟩
   ·obtain rfl : i = 0 := by omega
    exact hrec
   ·obtain rfl : i = 0 := by omega
    have := Option.some.inj hd'
    subst this
    show c.P rid [.yld c.n b, d] (B ++ [l] ++ [lg]) = some (.v (.bool (decide (0 + 1 < 1) || false)), B ++ [l2] ++ [lg])
    rw [g5 B lg hB]
    have : (x.code == 0) = false := by simpa using hcode
    rw [this]; rfl
   ·rw [if_neg hcode] at g2; exact g2
   ·rw [g3]; exact g3'
   ·cases x with
    | nm => exact absurd rfl hxn
    | ex i => exact g4
    | rt => exact g4
theorem rf_ok {T : Tab} {rs : RS} {asg body : Tc} {e : Env} {l : Bx} {Y : List (List D)} {s : SU}
  (iha : ∀ {c : Cx}, c.ok -> TabOk c.P T -> RndOk c.P asg -> ∀ {ρ : Type} {s : SU} {e : Env} {l : Bx} {Y : List (List D)} {K : SU -> Option ρ} {E : Nat -> SU -> Option ρ} {R : rs.sg.oT.T -> Option ρ} {ans : ρ}, RepS c s e l Y -> evT T rs asg s K E R = some ans -> CR c rs asg.er e l Y K E R ans)
  (ihb : ∀ {c : Cx}, c.ok -> TabOk c.P T -> RndOk c.P body -> ∀ {ρ : Type} {s : SU} {e : Env} {l : Bx} {Y : List (List D)} {K : SU -> Option ρ} {E : Nat -> SU -> Option ρ} {R : rs.sg.oT.T -> Option ρ} {ans : ρ}, RepS c s e l Y -> evT T rs body s K E R = some ans -> CR c rs body.er e l Y K E R ans)
  (hc : c.ok) (hT : TabOk c.P T) {h : Sh} {ex : List (Nat × Sh)} {x : Opd} {rid b : Nat} {ks ps : List Nat}
  (hR : RndOk c.P (.rf h ex x b rid ks ps asg body)) {ρ : Type} {K : SU -> Option ρ} {E : Nat -> SU -> Option ρ} {R : rs.sg.oT.T -> Option ρ} {ans : ρ}
  (hS : RepS c s e l Y) (hev : evT T rs (.rf h ex x b rid ks ps asg body) s K E R = some ans) : CR c rs (.rf x b rid ks) e l Y K E R ans := by
 simp only [evT] at hev
 have hx := rdW_ok hS (act_nil e) x
 split at hev
 ·rename_i f r v hq
  rw [hq] at hx
  split at hev
  ·rename_i a r' g hf
   obtain ⟨v', hcast, hev⟩ := Option.bind_eq_some_iff.1 hev
   obtain ⟨e1, e2⟩ := castT_eq hcast
   subst e1
   subst e2
   cases hk : (hasN b s.m || !(a.val && a.fo && r.fo && s.x.isEmpty && (lkW b s.l).isNone)) with
   | true => rw [hk] at hev; cases hev
   | false =>
    rw [hk, cond_false] at hev
    simp only [Bool.or_eq_false_iff, Bool.not_eq_false', Bool.and_eq_true, List.isEmpty_iff, Option.isNone_iff_eq_none] at hk
    obtain ⟨hbm, ⟨⟨⟨hav, haf⟩, hrf⟩, hx0⟩, hlb⟩ := hk
    obtain ⟨L, hL, hev⟩ := Option.bind_eq_some_iff.1 hev
    obtain ⟨σ0, hσ0, hev⟩ := Option.bind_eq_some_iff.1 hev
    obtain ⟨sr0, hsr0, hev⟩ := Option.bind_eq_some_iff.1 hev
    obtain ⟨z, hz, hev⟩ := Option.bind_eq_some_iff.1 hev
    obtain ⟨hrk, cs, hdx, hrep⟩ := cl_d hx.2
    have hY : Y = [] := by have := hS.ext; rw [hx0] at this; exact this.nil_l
    subst hY
    have hrg : c.rg = [] := List.eq_nil_of_length_eq_zero (by rw [<- hS.len]; rfl)
    have hlb0 : lk b l = none := by
     cases hq : lk b l with
     | none => rfl
     | some _ => have := hS.nm b (by rw [hq]; simp); rw [hbm] at this; cases this
    let caps := ks.map fun t => (get t e).strip
    let l0 := ins b (.rcd 0 0 rid ks :: caps) l
    have hrec : lk b l0 = some (.rcd 0 0 rid ks :: caps) := by rw [lk_ins hlb0, if_pos rfl]
    have hS1 : RepS c { s with m := b :: s.m } e l0 [] := by
     refine ⟨hS.env, fun b' ws hw => ?_, fun b' hb' => ?_, hS.ext, hS.wr, hS.len, hS.ro⟩
     ·have hne : b' ≠ b := fun q => by subst q; rw [hlb] at hw; cases hw
      rw [lk_ins hlb0, if_neg hne]
      exact hS.box b' ws hw
     ·rw [lk_ins hlb0] at hb'
      rw [hasN_c]
      by_cases q : b' = b
      ·subst q; rw [Nat.beq_refl]; rfl
      ·rw [if_neg q] at hb'
       rw [nbeq_f q]
       exact hS.nm b' hb'
    have hS0 := shp_ok hS1 hσ0
    have htoR : b ∉ (h.fill σ0).l.map (·.1) ∧ ∃ ec, capsR ((h.fill σ0).l.map (·.1)) (h.fill σ0) ks = some ec := by
     unfold toR at hsr0
     split at hsr0
     ·cases hk : (rowsPf (h.fill σ0).l && nodupN ((h.fill σ0).l.map (·.1)) && !(hasN b ((h.fill σ0).l.map (·.1))) && (h.fill σ0).x.isEmpty) with
      | false => rw [hk] at hsr0; cases hsr0
      | true =>
       rw [hk, cond_true] at hsr0
       obtain ⟨ec, hec, _⟩ := Option.map_eq_some_iff.1 hsr0
       simp only [Bool.and_eq_true, Bool.not_eq_true'] at hk
       exact ⟨fun hm => (by have := nodup_of.hasN_mem hm; rw [hk.1.2] at this; cases this), ec, hec⟩
     ·cases hsr0
    obtain ⟨hb0, ec, hec⟩ := htoR
    have hcap : caps.all (D.cap (c.n + 1)) = true := by
     have hLn : (((h.fill σ0).l.map (·.1)).map fun b => (b, ([] : List D))).map (·.1) = (h.fill σ0).l.map (·.1) := by
      rw [List.map_map]
      exact List.map_id _
     exact (caps_ok (c := c) (L := ((h.fill σ0).l.map (·.1)).map fun b => (b, ([] : List D))) (s := h.fill σ0) hS0.env (ks := ks) (ec := ec) (by rw [hLn]; exact hec)).2
    have hG := (hT f _ hf).2
    obtain ⟨ds, hds, hG⟩ := hG v cs (RepL.fo hrf hrep) L hL (c.n + 1)
    obtain ⟨m, fin, ls, i1, i2, i3, i4, i5, i6, i7⟩ := fold_ok iha ihb hc hT hR hav haf hds hS0 hrec hb0 hz
    have hrun : ∀ B, Fam c B -> ∃ dr, c.P f [.yld c.n b, .fptr cs 0] (B ++ [l0]) = some (dr, B ++ [ls m]) := fun B hB => by
     have hn := hB.len
     have := hG c.n b rid m fin (fun i => B ++ [ls i]) (Nat.lt_succ_self _) i1 i2 i3 (fun i _ => by simp [hn]) (fun i hi => ⟨0, 0, ks, caps, by
      show ((B ++ [ls i])[c.n]?).bind (lk b) = _
      rw [<- hn]
      simp only [List.getElem?_concat_length, Option.bind_some]
      exact i5 i hi⟩) (fun i hi d hd lg => i6 i hi d hd B lg hB)
     rw [i4] at this
     exact this
    have evr : ∀ {st : Nat} {x' : Ex}, st ≠ 1 -> lk b (ls m) = some (.rcd st x'.code rid ks :: caps) -> ∀ B, Fam c B -> evC c.P (.rf x b rid ks) ⟨e, l, upd c.rg [] B⟩ = some (x', ⟨e, sb b (.rcd 3 x'.code rid ks :: caps) (ls m), upd c.rg [] B⟩) := fun {st x'} hst hl B hB => by
     have hn := hB.len
     obtain ⟨dr, hr⟩ := hrun B hB
     have hu : upd c.rg [] B = B := by rw [hrg]; rfl
     rw [hu]
     show evR c.P x b rid ks ⟨e, l, B⟩ = _
     unfold evR
     rw [rd_fst, hdx]
     simp only
     rw [if_pos ⟨by rw [hlb0]; rfl, by rw [hn]; exact hcap⟩]
     unfold doCall
     rw [hn]
     show (match (match c.P f [.yld c.n b, .fptr cs 0] (B ++ [l0]) with | none => none | some (d, o') => match unsnoc o' with | some (o, l) => some (d, ((⟨e, l0, B⟩ : S).wo o).wl l) | none => none) with | some (_, s2) => _ | none => none) = _
     rw [hr]
     simp only [unsnoc_app]
     have : lk b (((⟨e, l0, B⟩ : S).wo B).wl (ls m)).l = some (.rcd st x'.code rid ks :: caps) := hl
     rw [this]
     simp only
     rw [if_neg hst, exOf_code]
     rfl
    have setR : ∀ {s' : SU} {ds0 ds1 : List D}, RepS c s' e (ls m) [] -> lk b (ls m) = some ds0 -> b ∉ s'.l.map (·.1) -> RepS c s' e (sb b ds1 (ls m)) [] := fun {s' ds0 ds1} hS' hl hnb => by
     refine ⟨hS'.env, fun b' ws hw => ?_, fun b' hb' => ?_, hS'.ext, hS'.wr, hS'.len, hS'.ro⟩
     ·have hne : b' ≠ b := fun q => by
       subst q
       exact hnb (List.mem_map.2 ⟨_, lkW_in hw, rfl⟩)
      rw [lk_sb', if_neg hne]
      exact hS'.box b' ws hw
     ·refine hS'.nm b' fun h0 => hb' ?_
      rw [lk_sb']
      split
      ·rename_i q; subst q; rw [h0]; rfl
      ·exact h0
    cases z with
    | inl σf =>
     obtain ⟨_, j1, j2, j3⟩ := i7
     exact ⟨.nm, h.fill σf, e, _, [], setR j1 j2 j3, evr (st := 0) (x' := .nm) (by omega) j2, hev⟩
    | inr ζ =>
     obtain ⟨_, x', s4, hxn, j1, j2, j3, j4⟩ := i7
     have hS4 := setR (ds1 := .rcd 3 x'.code rid ks :: caps) j1 j2 j3
     have key : ∀ i, exE (exTys rs ex false) ex 0 Sum.inr i s4 = some (Sum.inr ζ : h.ty.T ⊕ (XTy (exTys rs ex false)).T) -> ∃ s5, RepS c s5 e (sb b (.rcd 3 x'.code rid ks :: caps) (ls m)) [] ∧ (bif Nat.beq i 999999 then (rs.pack s5).bind R else E i s5) = some ans := fun i hi => by
      obtain ⟨j, h', γ, y', q1, q2, q3, q4⟩ := exE_ok hi
      injection q4 with q4
      subst q4
      have hev : dspX (exTys rs ex false) y' (exD rs ex (fun i s => bif Nat.beq i 999999 then (rs.pack s).bind R else E i s) (fun _ => none)) = some ans := hev
      rw [dsp_inj _ q3] at hev
      have hev : exD rs ex (fun i s => bif Nat.beq i 999999 then (rs.pack s).bind R else E i s) (fun _ => none) j h'.ty γ = some ans := hev
      rw [exD_ex q1] at hev
      exact ⟨_, shp_ok hS4 q2, hev⟩
     cases x' with
     | nm => exact absurd rfl hxn
     | ex i =>
      obtain ⟨hi, j4⟩ := j4
      obtain ⟨s5, k1, k2⟩ := key i j4
      rw [nbeq_f hi, cond_false] at k2
      exact ⟨.ex i, s5, e, _, [], k1, evr (st := 2) (x' := .ex i) (by omega) j2, hi, k2⟩
     | rt =>
      obtain ⟨s5, k1, k2⟩ := key 999999 j4
      rw [Nat.beq_refl, cond_true] at k2
      exact ⟨.rt, s5, e, _, [], k1, evr (st := 2) (x' := .rt) (by omega) j2, .inl k2⟩
  ·cases hev
 ·cases hev
theorem evT_ok {T : Tab} (rs : RS) : ∀ (t : Tc) {c : Cx}, c.ok -> TabOk c.P T -> RndOk c.P t -> ∀ {ρ : Type} {s : SU} {e : Env} {l : Bx} {Y : List (List D)} {K : SU -> Option ρ} {E : Nat -> SU -> Option ρ} {R : rs.sg.oT.T -> Option ρ} {ans : ρ}, RepS c s e l Y -> evT T rs t s K E R = some ans -> CR c rs t.er e l Y K E R ans := by
 intro t
 induction t with
 | sk => intro c hc hT hR ρ s e l Y K E R ans hS h; exact ⟨.nm, s, e, l, Y, hS, fun B hB => rfl, h⟩
 | rg L =>
  intro c hc hT hR ρ s e l Y K E R ans hS h
  obtain ⟨s', e', l', Y', h1, h2, h3⟩ := evS_ok hc hT hS h
  exact ⟨.nm, s', e', l', Y', h1, fun B hB => by simp only [Tc.er, evC, h3 B hB, Option.map_some], h2⟩
 | nq L t x ne tl =>
  intro c hc hT hR ρ s e l Y K E R ans hS h
  simp only [evT] at h
  obtain ⟨s1, e1, l1, Y1, h1, h2, h3⟩ := evS_ok hc hT hS h
  have hx := rdW_ok h1 (act_nil e1) x
  split at h2
  ·rename_i τ xs hq
   rw [hq] at hx
   obtain ⟨hl, es, ha, hd⟩ := flat_cells_l hx
   have key : ∃ q : Bool, evS T tl (putW t (.u .b q) s1) K = some ans ∧ ∀ o, evOp c.P (some t) (.eqn ne x) ⟨e1, l1, o⟩ = some (.v (.bool q), ⟨e1, l1, o⟩) := by
    rcases hd with hd | ⟨he, z, hd⟩
    ·refine ⟨ne, ?_, fun o => by simp only [evOp, rd_fst, hd]⟩
     unfold amb at h2
     split at h2
     ·split at h2
      ·rename_i hf
       cases ne with
       | true => exact h2
       | false => rw [hf] at h2; exact h2
      ·cases h2
     ·exact h2
    ·refine ⟨!ne, ?_, fun o => by simp only [evOp, rd_fst, hd]⟩
     subst he
     obtain rfl := ha.nil_r
     unfold amb at h2
     simp only [List.isEmpty_nil, if_true] at h2
     split at h2
     ·rename_i hf
      cases ne with
      | true => rw [hf] at h2; exact h2
      | false => exact h2
     ·cases h2
   obtain ⟨q, k1, k2⟩ := key
   have hput : RepS c (putW t (.u .b q) s1) ((t, .v (.bool q)) :: e1) l1 Y1 := h1.put (show Rep4 c (.u .b q) (.v (.bool q)) from ⟨rfl, rfl⟩)
   obtain ⟨s', e', l', Y', g1, g2, g3⟩ := evS_ok hc hT hput k1
   refine ⟨.nm, s', e', l', Y', g1, fun B hB => ?_, g2⟩
   simp only [Tc.er, evC, evOps_app, h3 B hB, Option.bind_some, evOps, evStp, k2, Option.map_some]
   rw [show Ev.putO (some t) (D.v (Value.bool q)) ⟨e1, l1, upd c.rg Y1 B⟩ = ⟨(t, .v (.bool q)) :: e1, l1, upd c.rg Y1 B⟩ from rfl, g3 B hB]
   rfl
  ·cases h2
 | dr L =>
  intro c hc hT hR ρ s e l Y K E R ans hS h
  obtain ⟨s', e', l', Y', h1, h2, h3⟩ := evD_ok hc hT hS h
  exact ⟨.nm, s', e', l', Y', h1, fun B hB => by simp only [Tc.er, evC, h3 B hB [] trivial, Option.map_some], h2⟩
 | drt L tl =>
  intro c hc hT hR ρ s e l Y K E R ans hS h
  obtain ⟨s1, e1, l1, Y1, h1, h2, h3⟩ := evD_ok hc hT hS h
  obtain ⟨s', e', l', Y', k1, k2, k3⟩ := evS_ok hc hT h1 h2
  exact ⟨.nm, s', e', l', Y', k1, fun B hB => by simp only [Tc.er, evC, h3 B hB [] trivial, Option.bind_some, k3 B hB, Option.map_some], k2⟩
 | ex i =>
  intro c hc hT hR ρ s e l Y K E R ans hS h
  simp only [evT] at h
  by_cases q : i = 999999
  ·subst q; rw [Nat.beq_refl, cond_true] at h; cases h
  ·rw [nbeq_f q, cond_false] at h
   exact ⟨.ex i, s, e, l, Y, hS, fun B hB => rfl, q, h⟩
 | rt => intro c hc hT hR ρ s e l Y K E R ans hS h; exact ⟨.rt, s, e, l, Y, hS, fun B hB => rfl, .inl h⟩
 | rtx => intro c hc hT hR ρ s e l Y K E R ans hS h; exact ⟨.rt, s, e, l, Y, hS, fun B hB => rfl, .inr h⟩
 | rf h0 ex x b rid ks ps asg body iha ihb => intro c hc hT hR ρ s e l Y K E R ans hS h; exact rf_ok (fun hc hT hR => iha hc hT hR) (fun hc hT hR => ihb hc hT hR) hc hT hR hS h
 | sq a b iha ihb =>
  intro c hc hT hR ρ s e l Y K E R ans hS h
  obtain ⟨x, s1, e1, l1, Y1, h1, h2, h3⟩ := iha hc hT hR.1 hS h
  cases x with
  | nm =>
   obtain ⟨x, s2, e2, l2, Y2, k1, k2, k3⟩ := ihb hc hT hR.2 h1 h3
   exact ⟨x, s2, e2, l2, Y2, k1, fun B hB => by simp only [Tc.er, evC, h2 B hB, k2 B hB], k3⟩
  | ex i => exact ⟨.ex i, s1, e1, l1, Y1, h1, fun B hB => by simp only [Tc.er, evC, h2 B hB], h3⟩
  | rt => exact ⟨.rt, s1, e1, l1, Y1, h1, fun B hB => by simp only [Tc.er, evC, h2 B hB], h3⟩
 | ff x a b iha ihb =>
  intro c hc hT hR ρ s e l Y K E R ans hS h
  have hx := rdW_ok hS (act_nil e) x
  simp only [evT] at h
  split at h
  ·rename_i q hq
   rw [hq] at hx
   have hd : rdE e x = .v (.bool q) := b_d hx.2
   cases q with
   | true =>
    rw [if_pos rfl] at h
    obtain ⟨x', s1, e1, l1, Y1, h1, h2, h3⟩ := iha hc hT hR.1 hS h
    exact ⟨x', s1, e1, l1, Y1, h1, fun B hB => by simp only [Tc.er, evC, rd_fst, hd, if_true, h2 B hB], h3⟩
   | false =>
    rw [if_neg (by simp)] at h
    obtain ⟨x', s1, e1, l1, Y1, h1, h2, h3⟩ := ihb hc hT hR.2 hS h
    exact ⟨x', s1, e1, l1, Y1, h1, fun B hB => by simp only [Tc.er, evC, rd_fst, hd, Bool.false_eq_true, if_false, h2 B hB], h3⟩
  ·cases h
 | bl id a iha =>
  intro c hc hT hR ρ s e l Y K E R ans hS h
  obtain ⟨x, s1, e1, l1, Y1, h1, h2, h3⟩ := iha hc hT hR hS h
  cases x with
  | nm => exact ⟨.nm, s1, e1, l1, Y1, h1, fun B hB => by simp only [Tc.er, evC, h2 B hB], h3⟩
  | rt => exact ⟨.rt, s1, e1, l1, Y1, h1, fun B hB => by simp only [Tc.er, evC, h2 B hB], h3⟩
  | ex i =>
   obtain ⟨hi9, h3⟩ := h3
   have h3 : (bif Nat.beq i 999999 then E i s1 else bif Nat.beq i id then K s1 else E i s1) = some ans := h3
   rw [nbeq_f hi9, cond_false] at h3
   by_cases e : i = id
   ·subst e
    rw [Nat.beq_refl, cond_true] at h3
    exact ⟨.nm, s1, e1, l1, Y1, h1, fun B hB => by simp only [Tc.er, evC, h2 B hB, if_true], h3⟩
   ·rw [nbeq_f e, cond_false] at h3
    exact ⟨.ex i, s1, e1, l1, Y1, h1, fun B hB => by simp only [Tc.er, evC, h2 B hB, if_neg e], hi9, h3⟩
 | gs L a iha =>
  intro c hc hT hR ρ s e l Y K E R ans hS h
  simp only [evT] at h
  obtain ⟨s1, e1, l1, g1, g3, g2⟩ := evGs_ok hc hS h
  obtain ⟨x, s2, e2, l2, Y2, k1, k2, k3⟩ := iha hc hT hR g1 g3
  exact ⟨x, s2, e2, l2, Y2, k1, fun B hB => by simp only [Tc.er, evC, g2 _ (fam_len hB Y), k2 B hB], k3⟩
 | jn h0 ex rt a iha =>
  intro c hc hT hR ρ s e l Y K E R ans hS h
  simp only [evT] at h
  obtain ⟨y, g1, g2⟩ := Option.bind_eq_some_iff.1 h
  obtain ⟨x, s1, e1, l1, Y1, h1, h2, h3⟩ := iha hc hT hR hS g1
  cases x with
  | nm =>
   obtain ⟨γ, p1, p2⟩ := Option.bind_eq_some_iff.1 h3
   rw [dsp_inj _ p2] at g2
   simp only [castT_id, Option.bind_some] at g2
   exact ⟨.nm, _, e1, l1, Y1, shp_ok h1 p1, h2, g2⟩
  | ex i =>
   obtain ⟨hi9, h3⟩ := h3
   obtain ⟨j, h', γ, z, j1, j2, j3, j4⟩ := exE_ok h3
   have j4 : z = y := j4
   subst j4
   rw [dsp_inj _ j3] at g2
   have g2 : exD rs ex E R j h'.ty γ = some ans := g2
   rw [exD_ex j1] at g2
   exact ⟨.ex i, _, e1, l1, Y1, shp_ok h1 j2, h2, hi9, g2⟩
  | rt =>
   rcases h3 with h3 | h3
   rotate_left
   ·obtain ⟨j, h', γ, z, j1, j2, j3, j4⟩ := exE_ok h3
    have j4 : z = y := j4
    subst j4
    rw [dsp_inj _ j3] at g2
    have g2 : exD rs ex E R j h'.ty γ = some ans := g2
    rw [exD_ex j1] at g2
    exact ⟨.rt, _, e1, l1, Y1, shp_ok h1 j2, h2, .inr g2⟩
   ·obtain ⟨r, r1, r2⟩ := Option.bind_eq_some_iff.1 h3
    obtain ⟨z, j3, j4⟩ := exR_ok r2
    have j4 : z = y := j4
    subst j4
    rw [dsp_inj _ j3] at g2
    have g2 : exD rs ex E R ex.length rs.sg.oT r = some ans := g2
    rw [exD_rt] at g2
    exact ⟨.rt, s1, e1, l1, Y1, h1, h2, .inl (by show (rs.pack s1).bind R = some ans; rw [r1]; exact g2)⟩
 | lp h0 ex rt a iha =>
  intro c hc hT hR ρ s e l Y K E R ans hS h
  simp only [evT] at h
  split at h
  ·cases h
  ·rename_i x0 hx0
   obtain ⟨y, g1, g2⟩ := Option.bind_eq_some_iff.1 h
   obtain ⟨n, hn⟩ := lim_ex g1
   clear h g1
   have key : ∀ (n : Nat) {s : SU} {e : Env} {l : Bx} {Y : List (List D)} {x0 : h0.ty.T}, RepS c s e l Y -> h0.pack0 s = some x0 ->
     itU (fun x => bif !(lokS h0 (h0.fill x)) then none else evT T rs a (h0.fill x) (fun s' => (h0.pack0 s').map Sum.inl) (exE (exTys rs ex rt) ex 0 Sum.inr) (exR rs (exTys rs ex rt) ex rt 0 Sum.inr)) n x0 = some y ->
     ∃ x s' e' l' Y', RepS c s' e' l' Y' ∧ (∀ B, Fam c B -> evC c.P (Tc.lp h0 ex rt a).er ⟨e, l, upd c.rg Y B⟩ = some (x, ⟨e', l', upd c.rg Y' B⟩)) ∧
      (match x with
       | .nm => False
       | .ex i => i ≠ 999999 ∧ ∃ j h' γ, ex[j]? = some (i, h') ∧ h'.pack s' = some γ ∧ injX (exTys rs ex rt) j h'.ty γ = some y
       | .rt => (∃ r, rs.pack s' = some r ∧ injX (exTys rs ex rt) ex.length rs.sg.oT r = some y) ∨ ∃ j h' γ, ex[j]? = some (999999, h') ∧ h'.pack s' = some γ ∧ injX (exTys rs ex rt) j h'.ty γ = some y) := by
    intro n
    induction n with
    | zero => intro s e l Y x0 _ _ h; cases h
    | succ n ih =>
     intro s e l Y x0 hS hp h
     simp only [itU] at h
     cases hl : lokS h0 (h0.fill x0) with
     | false => rw [hl] at h; cases h
     | true =>
      obtain ⟨e1, l1, c1, c2⟩ := carry_ok hc hS hp hl
      simp only [hl, Bool.not_true, cond_false] at h
      split at h
      ·cases h
      ·rename_i x1 hb
       obtain ⟨x, s2, e2, l2, Y2, h1, h2, h3⟩ := iha hc hT hR c1 hb
       have step : ∀ B, Fam c B -> evC c.P (Tc.lp h0 ex rt a).er ⟨e, l, upd c.rg Y B⟩ = match x with
         | .nm => evC c.P (Tc.lp h0 ex rt a).er ⟨e2, l2, upd c.rg Y2 B⟩
         | x => some (x, ⟨e2, l2, upd c.rg Y2 B⟩) := fun B hB => by
        simp only [Tc.er]
        rw [evC_lp, c2 _ (fam_len hB Y)]
        simp only [h2 B hB]
        cases x <;> rfl
       cases x with
       | nm =>
        obtain ⟨γ, p1, p2⟩ := Option.map_eq_some_iff.1 h3
        injection p2 with p2
        subst p2
        obtain ⟨x, s3, e3, l3, Y3, k1, k2, k3⟩ := ih h1 p1 h
        exact ⟨x, s3, e3, l3, Y3, k1, fun B hB => (step B hB).trans (k2 B hB), k3⟩
       | ex i => obtain ⟨j, h', γ, z, j1, j2, j3, j4⟩ := exE_ok h3.2; exact absurd j4 (by simp)
       | rt =>
        rcases h3 with h3 | h3
        ·obtain ⟨r, r1, r2⟩ := Option.bind_eq_some_iff.1 h3
         obtain ⟨z, j3, j4⟩ := exR_ok r2
         exact absurd j4 (by simp)
        ·obtain ⟨j, h', γ, z, j1, j2, j3, j4⟩ := exE_ok h3; exact absurd j4 (by simp)
      ·rename_i x1 hb
       have := Option.some.inj h
       subst this
       obtain ⟨x, s2, e2, l2, Y2, h1, h2, h3⟩ := iha hc hT hR c1 hb
       have step : ∀ B, Fam c B -> x ≠ .nm -> evC c.P (Tc.lp h0 ex rt a).er ⟨e, l, upd c.rg Y B⟩ = some (x, ⟨e2, l2, upd c.rg Y2 B⟩) := fun B hB hx => by
        simp only [Tc.er]
        rw [evC_lp, c2 _ (fam_len hB Y)]
        simp only [h2 B hB]
        all_goals (cases x <;> first | rfl | exact absurd rfl hx)
       cases x with
       | nm => obtain ⟨γ, p1, p2⟩ := Option.map_eq_some_iff.1 h3; first | (cases p2; done) | skip
       | ex i =>
        obtain ⟨hi9, h3⟩ := h3
        obtain ⟨j, h', γ, z, j1, j2, j3, j4⟩ := exE_ok h3
        injection j4 with j4
        subst j4
        exact ⟨.ex i, s2, e2, l2, Y2, h1, fun B hB => step B hB (by simp), hi9, j, h', γ, j1, j2, j3⟩
       | rt =>
        rcases h3 with h3 | h3
        ·obtain ⟨r, r1, r2⟩ := Option.bind_eq_some_iff.1 h3
         obtain ⟨z, j3, j4⟩ := exR_ok r2
         injection j4 with j4
         subst j4
         exact ⟨.rt, s2, e2, l2, Y2, h1, fun B hB => step B hB (by simp), .inl ⟨r, r1, j3⟩⟩
        ·obtain ⟨j, h', γ, z, j1, j2, j3, j4⟩ := exE_ok h3
         injection j4 with j4
         subst j4
         exact ⟨.rt, s2, e2, l2, Y2, h1, fun B hB => step B hB (by simp), .inr ⟨j, h', γ, j1, j2, j3⟩⟩
   obtain ⟨x, s2, e2, l2, Y2, k1, k2, k3⟩ := key n hS hx0 hn
   cases x with
   | nm => exact k3.elim
   | ex i =>
    obtain ⟨hi9, j, h', γ, j1, j2, j3⟩ := k3
    rw [dsp_inj _ j3, exD_ex j1] at g2
    exact ⟨.ex i, _, e2, l2, Y2, shp_ok k1 j2, k2, hi9, g2⟩
   | rt =>
    rcases k3 with ⟨r, r1, j3⟩ | ⟨j, h', γ, j1, j2, j3⟩
    ·rw [dsp_inj _ j3, exD_rt] at g2
     exact ⟨.rt, s2, e2, l2, Y2, k1, k2, .inl (by show (rs.pack s2).bind R = some ans; rw [r1]; exact g2)⟩
    ·rw [dsp_inj _ j3, exD_ex j1] at g2
     exact ⟨.rt, _, e2, l2, Y2, shp_ok k1 j2, k2, .inr g2⟩
end
end Go.Proofs.Ytlhjdikklmkihaa.Ev.U
