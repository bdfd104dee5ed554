/- Functions, and the limit: what the evaluator answers the machine answers. Conditions: none. -/
import Derived.Test.YtlhjdikklmkihaaEvY
import Derived.Test.YtlhjdikklmkihaaEv2
import Derived.Test.YtlhjdikklmkihaaEvo
import Derived.ControlIn
import Derived.Attr
import Derived.IntWalk
import Derived.Test.YtlhjdikklmkihaaEv6
set_option linter.all false
namespace Go.Proofs.Ytlhjdikklmkihaa.Ev
open Go
variable {P : Program}
def Ex.to : Ex -> Exit
 | .nm => .normal
 | .ex id => .exit id
 | .rt => .ret
inductive Mo where
 | pl
 | J (l : Nat) (r : Code)
 | G (l : Nat)
inductive MCx (P : Program) (n : Nat) : Mo -> Code -> Cd -> Prop
 | sk : MCx P n .pl .skip .sk
 | rg {id ops ps} (h : MOps P n ops (List.range ops.size) ps) : MCx P n .pl (.region id ops false) (.rg ps)
 | sq {a b a' b'} (ha : MCx P n .pl a a') (hb : MCx P n .pl b b') : MCx P n .pl (.seq a b) (.sq a' b')
 | ff {c a b c' a' b'} (hc : MOpd c c') (ha : MCx P n .pl a a') (hb : MCx P n .pl b b') : MCx P n .pl (.cond c a b) (.ff c' a' b')
 | bl {id a a'} (ha : MCx P n .pl a a') : MCx P n .pl (.block id a) (.bl id a')
 | lp {a a' ks bs} (ha : MCx P n .pl a a') : MCx P n .pl (.loop a) (.lp ks bs a')
 | rf {x x' ps asg body b rid ks} (hx : MOpd x x') (hb : RL <= b) (hr : RL <= rid) (hro : roundOf PP rid = some (n, ps, asg, body)) : MCx P n .pl (.rangeFunc x ps asg body) (.rf x' b rid ks)
 | dr {id ops l cl} (hmx : P.follows .mixedOrders = true) (h : MOps P n ops (List.range ops.size) (l.map (·.1))) (hD : Deps ops l cl) : MCx P n .pl (.region id ops true) (.dr l)
 | drt {id ops l tl cl} (hmx : P.follows .mixedOrders = true) (h : MOps P n ops (List.range ops.size) (l.map (·.1) ++ tl)) (hD : Deps ops l cl) (hT : ∀ i j, l.length <= j -> j < ops.size -> i < j -> cl j i) : MCx P n .pl (.region id ops true) (.drt l tl)
 | dra {id ops l} (hmx : P.follows .mixedOrders = true) (h : MOps P n ops (List.range ops.size) (l.map (·.1))) (hlt : ∀ (j : Nat) o e, ops[j]? = some o -> e ∈ o.after -> Region.binds .any e = true -> e.on < j) (hdp : ∀ (i : Nat) p ds d, l[i]? = some (p, ds) -> d ∈ ds -> ∃ o e, ops[i]? = some o ∧ e ∈ o.after ∧ Region.binds .any e = true ∧ e.on = d) : MCx P n .pl (.region id ops true) (.dra l)
 | gs {c c' l} (hl : l.all Gc.ok = true) (hc : MCx P n .pl c c') : MCx P n .pl c (.gs l c')
 | sc {c c'} (hc : MCx P n .pl c c') : MCx P n .pl (.scope c) (.gs [] c')
 | ls {c c' t off id} (hid : id < RL) (hc : MCx P n .pl c c') : MCx P n .pl c (.ls t off id c')
 | lb {l} : MCx P n .pl (.label l) .sk
 | tg {c c' l} (hl : l.all Gc.ok = true) (hc : MCx P n .pl c c') : MCx P n .pl c (.sq c' (.gs l .sk))
 | ex {id} : MCx P n .pl (.exit id) (.ex id)
 | rt : MCx P n .pl .ret .rt
 | dd {c} : MCx P n .pl c .dead
 | sj {c c' l r} (hc : MCx P n (.J l r) c c') : MCx P n .pl (.scope c) c'
 | jh {l r b' ks bs} (hr : MCx P n (.G l) r b') : MCx P n (.J l r) (.seq (.label l) r) (.lp ks bs b')
 | js {a b a' b' l r} (hno : findLabel a l = none) (ha : MCx P n .pl a a') (hb : MCx P n (.J l r) b b') : MCx P n (.J l r) (.seq a b) (.sq a' b')
 | gh {l} : MCx P n (.G l) (.goto l) .sk
 | gq {a b a' b' l} (ha : MCx P n .pl a a') (hb : MCx P n (.G l) b b') : MCx P n (.G l) (.seq a b) (.sq a' b')
abbrev MCd (P : Program) (n : Nat) (c : Code) (c' : Cd) : Prop := MCx P n .pl c c'
section
variable {b : Frame} {a : Act} {k : List Item} {cs : List Frame} {w : World} {F : Fence} {n : Nat} {Q : Exit -> Act -> World -> Prop}
theorem stepR_scope {c : Code} : step P (lone (b.atR a (.code (.scope c) :: k)) cs w) = .next (lone (b.atR a (.code c :: .inScope c :: k)) cs w) :=
 step_lone_go (by simp [stepG, stepG.exec, Frame.atR])
theorem stepR_inScope {c : Code} : step P (lone (b.atR a (.inScope c :: k)) cs w) = .next (lone (b.atR a k) cs w) :=
 step_lone_go (by simp [stepG, stepG.exec, Frame.atR])
def noGo (Q : Exit -> Act -> World -> Prop) : Exit -> Act -> World -> Prop
 | .goto _, _, _ => False
 | e, a, w => Q e a w
theorem wpIn_scope {c : Code} (h : c.wpIn F n P (noGo Q) a w) : (Code.scope c).wpIn F n P Q a w := by
 intro b k cs hro hb hr
 have h0 : (lone (b.atR a (.code (.scope c) :: k)) cs w).fenced P F := fenced_calm hb hr rfl
 obtain ⟨e, a₁, w₁, hq, harr⟩ := h b (.inScope c :: k) cs hro hb hr
 cases e with
 | normal => exact ⟨.normal, a₁, w₁, hq, .head h0 stepR_scope (StepsIn.trans harr (.one (fenced_calm hb hr rfl) stepR_inScope))⟩
 | exit id' =>
  have hx : exitTo id' (.inScope c :: k) = exitTo id' k := by simp [exitTo]
  exact ⟨.exit id', a₁, w₁, hq, fun k' hk => .head h0 stepR_scope (harr.1 k' (by rw [hx]; exact hk)),
   fun hr' hk => let ⟨k₁, h1, h2⟩ := harr.2 hr' (by rw [hx]; exact hk); ⟨k₁, h1, .head h0 stepR_scope h2⟩⟩
 | goto l => exact hq.elim
 | ret => exact ⟨_, a₁, w₁, hq, .of_steps (.one h0 stepR_scope) harr⟩
 | panic ch => exact ⟨_, a₁, w₁, hq, .of_steps (.one h0 stepR_scope) harr⟩
 | outgrown => exact ⟨_, a₁, w₁, hq, .of_steps (.one h0 stepR_scope) harr⟩
end
def jumpTo (l : Nat) (J : Act -> World -> Prop) (Q : Exit -> Act -> World -> Prop) : Exit -> Act -> World -> Prop
 | .goto l', a, w => l' = l ∧ J a w
 | e, a, w => Q e a w
section
variable {F : Fence} {n : Nat} {Q : Exit -> Act -> World -> Prop} {a : Act} {w : World}
theorem wpIn_jumps {c rest : Code} (l : Nat) (J : Act -> World -> Prop) (μ : Act -> World -> Nat) (hf : findLabel c l = some rest)
  (first : c.wpIn F n P (jumpTo l J Q) a w)
  (pass : ∀ a w, J a w -> rest.wpIn F n P (jumpTo l (fun a' w' => J a' w' ∧ μ a' w' < μ a w) Q) a w) : (Code.scope c).wpIn F n P Q a w := by
 intro b k cs hro hb hr
 have hg : gotoIn l (.inScope c :: k) = some (.code rest :: .inScope c :: k) := by simp [gotoIn, hf]
 have h0 : (lone (b.atR a (.code (.scope c) :: k)) cs w).fenced P F := fenced_calm hb hr rfl
 have out : ∀ {m : Machine} {e : Exit} {a₁ : Act} {w₁ : World}, ArrivesIn (Machine.fenced P F) P m b (.inScope c :: k) cs e a₁ w₁ -> Q e a₁ w₁ -> (∀ l, e ≠ .goto l) -> ∃ e a' w', Q e a' w' ∧ ArrivesIn (Machine.fenced P F) P m b k cs e a' w' := by
  intro m e a₁ w₁ harr hq hne
  cases e with
  | normal => exact ⟨.normal, a₁, w₁, hq, StepsIn.trans harr (.one (fenced_calm hb hr rfl) stepR_inScope)⟩
  | exit id' =>
   have hx : exitTo id' (.inScope c :: k) = exitTo id' k := by simp [exitTo]
   exact ⟨.exit id', a₁, w₁, hq, fun k' hk => harr.1 k' (by rw [hx]; exact hk), fun hr' hk => harr.2 hr' (by rw [hx]; exact hk)⟩
  | goto l' => exact absurd rfl (hne l')
  | ret => exact ⟨_, a₁, w₁, hq, harr⟩
  | panic ch => exact ⟨_, a₁, w₁, hq, harr⟩
  | outgrown => exact ⟨_, a₁, w₁, hq, harr⟩
 have key : ∀ j a w, μ a w = j -> J a w -> ∃ e a' w', Q e a' w' ∧ ArrivesIn (Machine.fenced P F) P (lone (b.atR a (.code rest :: .inScope c :: k)) cs w) b k cs e a' w' := by
  intro j
  induction j using Nat.strongRecOn with
  | _ j ih =>
   intro a w hn hJ
   obtain ⟨e, a₁, w₁, hq, harr⟩ := pass a w hJ b (.inScope c :: k) cs hro hb hr
   by_cases hgo : ∃ l', e = .goto l'
   ·obtain ⟨l', rfl⟩ := hgo
    obtain ⟨rfl, hJ', hlt⟩ := hq
    obtain ⟨e₂, a₂, w₂, hq₂, harr₂⟩ := ih _ (by omega) a₁ w₁ rfl hJ'
    exact ⟨e₂, a₂, w₂, hq₂, .of_steps (harr.1 _ hg) harr₂⟩
   ·refine out harr ?_ fun l' h => hgo ⟨l', h⟩
    cases e <;> first | exact hq | exact absurd ⟨_, rfl⟩ hgo
 obtain ⟨e, a₁, w₁, hq, harr⟩ := first b (.inScope c :: k) cs hro hb hr
 by_cases hgo : ∃ l', e = .goto l'
 ·obtain ⟨l', rfl⟩ := hgo
  obtain ⟨rfl, hJ'⟩ := hq
  obtain ⟨e₂, a₂, w₂, hq₂, harr₂⟩ := key _ a₁ w₁ rfl hJ'
  exact ⟨e₂, a₂, w₂, hq₂, .of_steps (.head h0 stepR_scope (harr.1 _ hg)) harr₂⟩
 ·obtain ⟨e₂, a₂, w₂, hq₂, harr₂⟩ := out harr (by cases e <;> first | exact hq | exact absurd ⟨_, rfl⟩ hgo) fun l' h => hgo ⟨l', h⟩
  exact ⟨e₂, a₂, w₂, hq₂, .of_steps (.one h0 stepR_scope) harr₂⟩
end
theorem least {p : Nat -> Prop} (h : ∃ m, p m) : ∃ m, p m ∧ ∀ k, p k -> m <= k := by
 obtain ⟨m, hm⟩ := h
 induction m using Nat.strongRecOn with
 | _ m ih =>
  by_cases hx : ∃ k, k < m ∧ p k
  ·obtain ⟨k, h1, h2⟩ := hx; exact ih k h1 h2
  ·exact ⟨m, hm, fun k hk => Nat.le_of_not_lt fun hlt => hx ⟨k, hlt, hk⟩⟩
theorem lim_some {α : Type} {f : Nat -> Option α} {r : α} (h : lim f = some r) : ∃ n, f n = some r := by
 unfold lim at h
 split at h
 ·rename_i hx
  injection h with h
  exact ⟨hx.choose, by rw [hx.choose_spec.choose_spec, h]⟩
 ·cases h
section
variable {g : G} {w : World} {n : Nat} {s s' : S}
def G.cut (g : G) (k : Nat) (bs : List Nat) : G := { g with bx := fun f b => if f = k ∧ ¬ b ∈ bs then none else g.bx f b }
theorem RP.cut {k : Nat} {bs : List Nat} {x : Value} {d : D} (h : RP g w x d) (hi : d.in1 k bs = true) : RP (g.cut k bs) w x d := by
 cases d with
 | v y => exact h
 | ptr f s off =>
  obtain ⟨h0, b, h1, h2⟩ := h
  refine ⟨h0, b, ?_, h2⟩
  show (if _ then _ else _) = _
  rw [if_neg fun e => ?_]
  ·exact h1
  ·simp [D.in1] at hi
   rcases hi with hi | hi
   ·omega
   ·exact e.2 hi.2
 | fptr cs off => exact h
 | _ => exact h.elim
theorem RC.cut {k : Nat} {bs : List Nat} {ℓ : Loc} {x : Value} {d : D} (h : RC g w ℓ x d) (hi : d.in1 k bs = true) : RC (g.cut k bs) w ℓ x d := by
 cases d with
 | u => trivial
 | v y => exact h
 | sl m z xs => cases m <;> exact h
 | ptr f s off => exact RP.cut (show RP g w x (.ptr f s off) from h) hi
 | fptr cs off => exact h
 | clo fn caps =>
  obtain ⟨h0, vs, h1, h2, h3⟩ := h
  refine ⟨h0, vs, h1, h2, fun j d hj => ?_⟩
  obtain ⟨y, h4, h5⟩ := h3 j d hj
  refine ⟨y, h4, h5.cut ?_⟩
  have := List.all_eq_true.1 (show caps.all _ = true from hi) d (List.mem_of_getElem? hj)
  cases d with
  | ptr f s off => exact this
  | v y => rfl
  | fptr cs off => rfl
  | _ => cases this
 | yld f s =>
  obtain ⟨h0, l, h1, h2⟩ := h
  refine ⟨h0, l, ?_, h2⟩
  have hf : f < k := by simpa [D.in1] using hi
  show (if _ then _ else _) = _
  rw [if_neg fun e => by omega]
  exact h1
 | ref f s off n z =>
  obtain ⟨h0, b, cap, off', h1, h2⟩ := h
  refine ⟨h0, b, cap, off', ?_, h2⟩
  show (if _ then _ else _) = _
  rw [if_neg fun e => ?_]
  ·exact h1
  ·simp [D.in1] at hi
   rcases hi with hi | hi
   ·omega
   ·exact e.2 hi.2
 | _ => exact h.elim
theorem RV.cut {k : Nat} {bs : List Nat} {L : Nat -> Loc} {x : Value} {d : D} (h : RV g w L x d) (hi : d.in2 k bs = true) : RV (g.cut k bs) w L x d := by
 rcases agg_or d with ⟨ds, rfl⟩ | hd
 ·obtain ⟨cs, h1, h2, h3⟩ := h
  refine ⟨cs, h1, h2, fun c d hc => ?_⟩
  obtain ⟨y, h4, h5⟩ := h3 c d hc
  exact ⟨y, h4, h5.cut (List.all_eq_true.1 (show ds.all _ = true from hi) d (List.mem_of_getElem? hc))⟩
 ·rw [RV_ne hd] at h ⊢
  exact h.cut (by cases d <;> first | exact hi | cases hd)
theorem RT.cut {k : Nat} {bs : List Nat} {L : Nat -> Nat -> Loc} {x : Value} {d : D} (h : RT g w L x d) (hi : d.inn k bs = true) : RT (g.cut k bs) w L x d := by
 rcases tup_or d with ⟨ds, rfl⟩ | hd
 ·obtain ⟨cs, h1, h2, h3⟩ := h
  refine ⟨cs, h1, h2, fun c d hc => ?_⟩
  obtain ⟨y, h4, h5⟩ := h3 c d hc
  exact ⟨y, h4, h5.cut (List.all_eq_true.1 (show ds.all _ = true from hi) d (List.mem_of_getElem? hc))⟩
 ·rw [RT_ne hd] at h ⊢
  exact h.cut (by cases d <;> first | exact hi | cases hd)
theorem carE_get {k : Nat} {bs : List Nat} {e e' : Env} {ks : List Nat} (h : carE k bs e ks = some e') (t : Nat) : get t e' = .u ∨ (get t e' = get t e ∧ (get t e).inn k bs = true) := by
 induction ks generalizing e' with
 | nil => simp only [carE] at h; injection h with h; subst h; exact .inl rfl
 | cons q r ih =>
  simp only [carE] at h
  split at h
  ·rename_i hq
   obtain ⟨e1, h1, rfl⟩ := Option.map_eq_some_iff.1 h
   by_cases ht : t = q
   ·subst ht; right; simp only [get, if_true]; exact ⟨trivial, hq⟩
   ·simp only [get, if_neg ht]; exact ih h1
  ·cases h
theorem carL_lk {k : Nat} {bs : List Nat} {l l' : Bx} {rs : List Nat} (h : carL k bs l rs = some l') (b : Nat) : (b ∈ rs -> (lk b l').isSome) ∧ ∀ ds, lk b l' = some ds -> b ∈ rs ∧ lk b l = some ds ∧ ds.all (D.in1 k bs) = true := by
 induction rs generalizing l' with
 | nil => simp only [carL] at h; injection h with h; subst h; exact ⟨fun h => by simp at h, fun ds hd => by simp [lk] at hd⟩
 | cons q r ih =>
  simp only [carL] at h
  split at h
  ·rename_i ds0 hq
   split at h
   ·rename_i hall
    obtain ⟨l1, h1, rfl⟩ := Option.map_eq_some_iff.1 h
    by_cases hb : b = q
    ·subst hb
     simp only [lk, if_true]
     exact ⟨fun _ => rfl, fun ds hd => by injection hd with hd; subst hd; exact ⟨by simp, hq, hall⟩⟩
    ·simp only [lk, List.mem_cons, hb, false_or, if_false]
     exact ih h1
   ·cases h
  ·cases h
theorem bnd_in {k f : Nat} {bs : List Nat} {d : D} (h : d.bnd1 (f + 1) = true) (hf : f < k) (hu : d.sto1 = true ∨ d = .u ∨ ∃ x, d = .v x) : d.in1 k bs = true := by
 cases d with
 | v x => rfl
 | sl m z xs => rfl
 | u => rfl
 | ptr f' s off => simp [D.bnd1] at h; simp [D.in1]; omega
 | fptr cs off => rfl
 | yld f' s => simp [D.bnd1] at h; simp [D.in1]; omega
 | ref f' s off n z => simp [D.bnd1] at h; simp [D.in1]; omega
 | clo fn caps =>
  refine List.all_eq_true.2 fun c hc => ?_
  have := List.all_eq_true.1 (show caps.all _ = true from h) c hc
  cases c with
  | ptr f' s off => simp at this ⊢; left; omega
  | v y => rfl
  | fptr cs off => rfl
  | _ => cases this
 | _ => rcases hu with hu | hu | ⟨x, hu⟩ <;> cases hu
theorem RC.kinds {ℓ : Loc} {x : Value} {d : D} (h : RC g w ℓ x d) : d.sto1 = true ∨ d = .u ∨ ∃ x, d = .v x := by
 cases d with
 | v y => exact .inr (.inr ⟨y, rfl⟩)
 | u => exact .inr (.inl rfl)
 | sl m z xs => exact .inl rfl
 | ptr f s off => exact .inl rfl
 | fptr cs off => exact .inl rfl
 | clo fn caps => exact .inl rfl
 | yld f s => exact .inl rfl
 | ref f s off n z => exact .inl rfl
 | _ => exact h.elim
theorem SB.cut {k : Nat} {bs : List Nat} {B : List Bx} (h : SB g w B) (B' : List Bx) (hlow : ∀ f b, f ≠ k -> bxl B' f b = bxl B f b) (hup : ∀ f b, (g.bx f b).isSome -> f <= k)
  (hk : ∀ b, (b ∈ bs -> (bxl B' k b).isSome) ∧ ∀ ds, bxl B' k b = some ds -> b ∈ bs ∧ bxl B k b = some ds ∧ ds.all (D.in1 k bs) = true) : SB (g.cut k bs) w B' := by
 have rb : ∀ f b ds, bxl B f b = some ds -> (∀ d ∈ ds, d.in1 k bs = true ∨ ∃ st j rid ks, d = .rcd st j rid ks) -> (f = k -> b ∈ bs) -> RB (g.cut k bs) w f b ds := by
  intro f b ds hds hin hb
  have hbx : ∀ blk, g.bx f b = some blk -> (g.cut k bs).bx f b = some blk := fun blk h1 => by
   show (if _ then _ else _) = _
   rw [if_neg fun e => e.2 (hb e.1)]; exact h1
  have hc1 : ∀ {ℓ : Loc} {y : Value} {d : D}, d ∈ ds -> RC g w ℓ y d -> RC (g.cut k bs) w ℓ y d := fun {ℓ y d} hd h6 => by
   rcases hin d hd with hi | ⟨st, j, rid, ks, rfl⟩
   ·exact h6.cut hi
   ·exact h6.elim
  rcases h.rel f b ds hds with ⟨h0, blk, cs, et, h1, h2, h3, h4⟩ | ⟨h0, l, r, st, j, rid, ks, caps, h1, h2, h3, h4, h4', h5, h6, h7, h8⟩
  ·refine .inl ⟨h0, blk, cs, et, hbx _ h1, h2, h3, fun c d hc => ?_⟩
   obtain ⟨y, h5, h6⟩ := h4 c d hc
   exact ⟨y, h5, hc1 (List.mem_of_getElem? hc) h6⟩
  ·exact .inr ⟨h0, l, r, st, j, rid, ks, caps, hbx _ h1, h2, h3, h4, h4', h5, h6, h7, fun c d t hc ht => hc1 (by rw [h3]; exact List.mem_cons_of_mem _ (List.mem_of_getElem? hc)) (h8 c d t hc ht)⟩
 refine ⟨fun f b ds hds => ?_, fun f b hd => ?_, fun f b ds d hds hd => ?_⟩
 ·by_cases e : f = k
  ·subst e
   obtain ⟨h1, h2, h3⟩ := (hk b).2 ds hds
   exact rb _ _ _ h2 (fun d hd => .inl (List.all_eq_true.1 h3 d hd)) fun _ => h1
  ·rw [hlow f b e] at hds
   refine rb _ _ _ hds (fun d hd => ?_) fun e' => absurd e' e
   have := hup f b (h.rel f b ds hds).bx
   rcases h.rel f b ds hds with ⟨h0, blk, cs, et, h1, h2, h3, h4⟩ | ⟨h0, l, r, st, j, rid, ks, caps, h1, h2, h3, h4, h4', h5, h6, h7, h8⟩
   ·obtain ⟨c, hc⟩ := List.mem_iff_getElem?.1 hd
    obtain ⟨y, h5, h6⟩ := h4 c d hc
    exact .inl (bnd_in (h.bnd _ _ _ _ hds hd) (by omega) h6.kinds)
   ·have hd0 := hd
    rw [h3] at hd
    rcases List.mem_cons.1 hd with rfl | hd
    ·exact .inr ⟨_, _, _, _, rfl⟩
    ·obtain ⟨c, hc⟩ := List.mem_iff_getElem?.1 hd
     have hlt : c < ks.length := by rw [h7]; exact getq_lt hc
     exact .inl (bnd_in (h.bnd _ _ _ _ hds hd0) (by omega) (h8 c d _ hc (List.getElem?_eq_getElem hlt)).kinds)
 ·have hd' : (if f = k ∧ ¬ b ∈ bs then none else g.bx f b).isSome := hd
  by_cases e : f = k
  ·subst e
   by_cases hb : b ∈ bs
   ·exact (hk b).1 hb
   ·simp [hb] at hd'
  ·rw [if_neg fun e' => e e'.1] at hd'
   rw [hlow f b e]
   exact h.dom f b hd'
 ·by_cases e : f = k
  ·subst e
   obtain ⟨h1, h2, h3⟩ := (hk b).2 ds hds
   exact h.bnd _ _ _ _ h2 hd
  ·rw [hlow f b e] at hds
   exact h.bnd _ _ _ _ hds hd
theorem Inv.cut {k : Nat} {bs : List Nat} (h : Inv g w) : Inv (g.cut k bs) w where
 base := h.base
 fresh := h.fresh
 box := fun f s b hb => by
  have hb' : (if f = k ∧ ¬ s ∈ bs then none else g.bx f s) = some b := hb
  split at hb'
  ·cases hb'
  ·exact h.box f s b hb'
 inj := fun f s f' s' b h1 h2 => by
  have h1' : (if f = k ∧ ¬ s ∈ bs then none else g.bx f s) = some b := h1
  have h2' : (if f' = k ∧ ¬ s' ∈ bs then none else g.bx f' s') = some b := h2
  split at h1' <;> split at h2' <;> first | cases h1' | cases h2' | exact h.inj _ _ _ _ _ h1' h2'
 tk := h.tk
 cells := h.cells
 dm := h.dm
 dt := h.dt
theorem G.cut_ext {k : Nat} {bs : List Nat} : Ext k g w (g.cut k bs) w :=
 ⟨rfl, rfl, rfl, rfl, Nat.le_refl _, fun _ _ => rfl, fun _ => Nat.le_refl _, fun _ _ _ => rfl, eqb (fun f s hf => by show (if _ then _ else _) = _; rw [if_neg fun e => by omega]), fun b ℓ hb _ _ => ⟨hb, rfl, rfl⟩, fun _ h => h, Gr.refl _⟩
theorem carry_ok {tmps : Array Value} {ks bs : List Nat} (h : SN g w n tmps s) (hc : carry ks bs s = some s') : ∃ g', SN g' w n tmps s' ∧ Ext s.k g w g' w ∧ s'.k = s.k := by
 unfold carry at hc
 split at hc
 ·rename_i e l he hl
  injection hc with hc
  subst hc
  refine ⟨g.cut s.k bs, ⟨⟨h.st.inv.cut, h.st.sb.cut _ (fun f b hf => ?_) (fun f b hb => ?_) (fun b => ?_), fun t => ?_⟩, h.size⟩, G.cut_ext, rfl⟩
  ·simp only [bxl, S.B]
   have hf' : f ≠ s.o.length := hf
   rcases Nat.lt_or_ge f s.o.length with hlt | hge
   ·rw [List.getElem?_append_left hlt, List.getElem?_append_left hlt]
   ·rw [List.getElem?_append_right hge, List.getElem?_append_right hge]
    have : f - s.o.length = (f - s.o.length - 1) + 1 := by omega
    rw [this]; simp
  ·obtain ⟨blk, hblk⟩ := Option.isSome_iff_exists.1 hb
   have := h.boxlt (a := ⟨tmps, []⟩) hblk
   omega
  ·have hk := carL_lk hl b
   have e1 : bxl (⟨e, l, s.o⟩ : S).B s.k b = lk b l := by simp [bxl, S.B, S.k]
   have e2 : bxl s.B s.k b = lk b s.l := by simp [bxl, S.B, S.k]
   rw [e1, e2]
   exact hk
  ·show RT _ _ (slotL s.k t) _ (get t e)
   rcases carE_get he t with h1 | ⟨h1, h2⟩
   ·rw [h1]; trivial
   ·rw [h1]; exact (h.st.e t).cut h2
 ·cases hc
end
section
variable {g : G} {w : World} {n : Nat} {a : Act} {s s' : S} {call : Caller}
def Rnd (g : G) (ro : Option Nat) (k : Nat) : Prop := ∀ l, ro = some l -> ∃ f b, f < k ∧ RL <= b ∧ g.bx f b = some l
theorem Rnd.ext {g g' : G} {w w' : World} {ro : Option Nat} {k : Nat} (h : Rnd g ro k) (e : Ext k g w g' w') : Rnd g' ro k := fun l hl => by
 obtain ⟨f, b, h1, h2, h3⟩ := h l hl
 exact ⟨f, b, h1, h2, e.bx f b _ h1 h3⟩
theorem ex_code (x : Ex) : exOf x.code = x := by cases x <;> rfl
theorem enter_ok {ro : Option Nat} (h : SN g w n a.tmps s) (hro : Rnd g ro s.k) (fn : FuncId) (ps : Array Tmp) (asg body : Code) : ∃ g1 w1 mark dv, SN g1 w1 n a.tmps s ∧ Ext s.k g w g1 w1 ∧ Marks g g1 a.defers (mark ++ a.defers) ∧
  (Instr.enterLoop fn a.tmps ps asg body ro).run P w = .ok (w1.heap.size, mark) (w1.alloc (.loop { state := .ready, pending := none, fn, tmps := a.tmps, params := ps, assign := asg, body, defers := dv })) := by
 cases ro with
 | none =>
  obtain ⟨h1, h2, h3⟩ := newmark_ok h
  refine ⟨_, _, [mkD w.heap.size], w.heap.size, h1, h2, ⟨[w.heap.size], rfl, by simp, fun b hb => ?_⟩, ?_⟩
  ·simp at hb
   subst hb
   exact ⟨h3, by show (if _ then _ else _) = _; rw [if_pos rfl]⟩
  ·rw [run_enterLoop_outer, alloc_size]; rfl
 | some l =>
  obtain ⟨f, b, q1, q2, q3⟩ := hro l rfl
  have hd := h.st.sb.dom f b (by rw [q3]; rfl)
  obtain ⟨ds, hds⟩ := Option.isSome_iff_exists.1 hd
  obtain ⟨l', r', st', j', rid', ks', caps', e1, e2, _⟩ := (h.st.sb.rel f b ds hds).r q2
  rw [q3] at e1
  injection e1 with e1
  subst e1
  refine ⟨g, w, [], r'.defers, h, Ext.refl _ _ _, Marks.same rfl, ?_⟩
  unfold Instr.enterLoop
  simp only [Sem.run_bind, run_getLoop e2, run_newObj_alloc, Result.andThen, Sem.run_pure]
theorem rf_ok {ro : Option Nat} (hg : Good P call) {x : Operand} {x' : Opd} {ps : Array Tmp} {asg body : Code} {b rid : Nat} {ks : List Nat} (hx : MOpd x x') (hb : RL <= b) (hr : RL <= rid) (hrnd : roundOf PP rid = some (n, ps, asg, body)) {e : Ex}
  {Q : Exit -> Act -> World -> Prop} (h : SN g w n a.tmps s) (hro : Rnd g ro s.k) (he : evR call x' b rid ks s = some (e, s'))
  (hq : ∀ a' w' g', SN g' w' n a'.tmps s' -> Ext s.k g w g' w' -> s'.k = s.k -> Marks g g' a.defers a'.defers -> Q e.to a' w') : (Code.rangeFunc x ps asg body).wpIn (W ro) 0 P Q a w := by
 unfold evR at he
 split at he
 ·rename_i fn caps0 hfn
  split at he
  ·rename_i hc
   split at he
   ·rename_i r1 s2 hcall
    split at he
    ·rename_i st jm rid2 ks2 caps2 hrec
     split at he
     ·cases he
     ·rename_i hst
      injection he with he
      injection he with e1 e2
      subst e1
      refine wpIn_rangeFunc fun fid _ => ?_
      obtain ⟨g1, w1, mark, dv, k1, k2, k3, k4⟩ := enter_ok (P := P) h hro fid ps asg body
      generalize hrc : ({ state := .ready, pending := none, fn := fid, tmps := a.tmps, params := ps, assign := asg, body, defers := dv } : Loop) = rc at k4
      obtain ⟨g2, q1, q2, q3, hkeep⟩ := newrec_ok (r := rc) k1 hb (Option.isNone_iff_eq_none.1 hc.1) hr (by rw [<- hrc]; show roundOf PP rid = some (a.tmps.size, ps, asg, body); rw [h.size]; exact hrnd) (by rw [<- hrc]) (by rw [<- hrc]) (by rw [<- hrc]) hc.2
      generalize hs1 : s.wl (ins b (D.rcd 0 0 rid ks :: ks.map fun t => (get t s.e).strip) s.l) = s1 at q1 hcall
      have hk1 : s1.k = s.k := by rw [<- hs1]; rfl
      obtain ⟨L, hL⟩ := rd_at k1 hx
      rw [hfn] at hL
      obtain ⟨z0, vs, z1, z2, z3⟩ := (show RC g1 w1 (L 0 0) (a.eval x) (.clo fn caps0) from hL)
      have hyl : RC g2 (w1.alloc (.loop rc)) (flyL 0 0 0) (.func (.yield w1.heap.size) #[] #[]) (.yld s.k b) := ⟨hb, _, q2, rfl⟩
      obtain ⟨c1, c2⟩ := call_ok (a := a) (vs := #[.func (.yield w1.heap.size) #[] #[]] ++ vs) hg z0 q1 hcall (by simp [z2]; omega) (fun i d hi => by
       cases i with
       | zero => simp at hi; subst hi; exact ⟨.func (.yield w1.heap.size) #[] #[], by rw [Array.getElem?_append_left (by simp)]; rfl, hyl⟩
       | succ i =>
        obtain ⟨y, r1, r2⟩ := z3 i d (by simpa using hi)
        refine ⟨y, by rw [Array.getElem?_append_right (by simp)]; simpa using r1, RP.toRV (r2.keep q3.cell q3.fr hkeep)⟩)
      obtain ⟨fnn, v1, v2, v3⟩ := c1
      refine ⟨w1.heap.size, mark, w1.alloc (.loop rc), { target := .fn (.func fn) vs, args := #[.func (.yield w1.heap.size) #[] #[]] }, w1.alloc (.loop rc), fn, #[.func (.yield w1.heap.size) #[] #[]] ++ vs, w1.alloc (.loop rc), k4, ?_, fun _ _ => trivial, ?_, fun hs => by simp [W, Fence.wide] at hs, ?_⟩
      ·simp only [resolve, z1]
       simp [go_sem]
      ·have hrr : (callFunc fn (#[.func (.yield w1.heap.size) #[] #[]] ++ vs)).run P (w1.alloc (.loop rc)) = .ok (.enter fn (#[.func (.yield w1.heap.size) #[] #[]] ++ vs)) (w1.alloc (.loop rc)) := by
        unfold callFunc
        rw [Sem.run_bind, show (program).run P (w1.alloc (.loop rc)) = .ok P (w1.alloc (.loop rc)) from rfl]
        simp only [Result.andThen_ok, v1, v2, v3, Bool.false_eq_true, if_false]
        rfl
       rw [<- hrr]
       simp [invoke]
      ·have c3 : CallsIn (W ro) 0 P fn (#[.func (.yield w1.heap.size) #[] #[]] ++ vs) (w1.alloc (.loop rc)) _ := c2
       refine c3.mono ?_
       rintro e' w3 ⟨y, g3, rfl, r1, r2, r3, r4⟩
       have hk2 : s2.k = s.k := r4.trans hk1
       have hrec' : Ev.bx s.k b s2 = some (.rcd st jm rid2 ks2 :: caps2) := by
        unfold Ev.bx
        rw [if_pos (show s.k = s2.o.length from hk2.symm)]
        exact hrec
       have hbx3 : g3.bx s.k b = some w1.heap.size := r3.bx s.k b _ (by rw [hk1]; omega) q2
       obtain ⟨l0, r0, st0, j0, rid0, ks0, caps0', y1, y2, y3, y4, y5, y6, y7, y8, y9⟩ := (r1.st.sb.rel s.k b _ (bx_bxl hrec')).r hb
       rw [hbx3] at y1
       injection y1 with y1
       subst y1
       injection y3 with y3 y3'
       injection y3 with x1 x2 x3 x4
       subst x1 x2 x3 x4 y3'
       have hnb : r0.state ≠ .busy := by
        rw [y6]
        match st, hst with
        | 0, _ => exact fun e => by cases e
        | 1, hs => exact absurd rfl hs
        | 2, _ => exact fun e => by cases e
        | q + 3, _ => exact fun e => by cases e
       obtain ⟨m1, m2⟩ := wrec_ok (st' := 3) (j' := jm) r1 hb hrec' hbx3 y2 { r0 with state := .exhausted } ⟨rfl, rfl, rfl, rfl⟩ rfl y7
       have hs' : sbx s.k b (.rcd 3 jm rid2 ks2 :: caps2) s2 = s' := by
        rw [<- e2]
        unfold sbx
        rw [if_pos (show s.k = s2.o.length from hk2.symm)]
       rw [hs'] at m1
       have hE : Ext s.k g w g3 (w3.putObj w1.heap.size (.loop { r0 with state := .exhausted })) := ((k2.trans q3).trans (r3.less (by rw [hk1]; omega))).trans (m2 _)
       have hE2 : Ext s.k g1 w1 g3 (w3.putObj w1.heap.size (.loop { r0 with state := .exhausted })) := (q3.trans (r3.less (by rw [hk1]; omega))).trans (m2 _)
       have hM : Marks g g3 a.defers (mark ++ a.defers) := k3.trans (Marks.same rfl) k2 hE2
       have hk' : s'.k = s.k := by rw [<- hs', sbx_k]; exact hk2
       have hel := run_endLoop (P := P) y2 hnb
       generalize w3.putObj w1.heap.size (.loop { r0 with state := .exhausted }) = W4 at m1 hE hE2 hel
       refine ⟨r0.pending, W4, hel, ?_⟩
       rw [y7]
       match jm with
       | 0 => exact hq { a with defers := mark ++ a.defers } _ g3 m1 hE hk' hM
       | 1 => exact wpIn_ret (hq { a with defers := mark ++ a.defers } _ g3 m1 hE hk' hM)
       | q + 2 => exact wpIn_exit (hq { a with defers := mark ++ a.defers } _ g3 m1 hE hk' hM)
    ·cases he
   ·cases he
  ·cases he
 ·cases he
def Ex.toG (l : Nat) : Ex -> Exit
 | .nm => .goto l
 | .ex id => .exit id
 | .rt => .ret
def Cok (P : Program) (n : Nat) (call : Caller) (ro : Option Nat) : Mo -> Code -> Cd -> Prop
 | .pl, c, c' => ∀ {g : G} {w : World} {a : Act} {s s' : S} {x : Ex} {Q : Exit -> Act -> World -> Prop}, SN g w n a.tmps s -> Rnd g ro s.k -> evC call c' s = some (x, s') ->
  (∀ a' w' g', SN g' w' n a'.tmps s' -> Ext s.k g w g' w' -> s'.k = s.k -> Marks g g' a.defers a'.defers -> Q x.to a' w') -> c.wpIn (W ro) 0 P Q a w
 | .G l, c, c' => ∀ {g : G} {w : World} {a : Act} {s s' : S} {x : Ex} {Q : Exit -> Act -> World -> Prop}, SN g w n a.tmps s -> Rnd g ro s.k -> evC call c' s = some (x, s') ->
  (∀ a' w' g', SN g' w' n a'.tmps s' -> Ext s.k g w g' w' -> s'.k = s.k -> Marks g g' a.defers a'.defers -> Q (x.toG l) a' w') -> c.wpIn (W ro) 0 P Q a w
 | .J l r, c, c' => findLabel c l = some (.seq .skip r) ∧ ∃ b' ks bs, (∀ {g : G} {w : World} {a : Act} {s s' : S} {x : Ex} {Q : Exit -> Act -> World -> Prop}, SN g w n a.tmps s -> Rnd g ro s.k -> evC call b' s = some (x, s') ->
   (∀ a' w' g', SN g' w' n a'.tmps s' -> Ext s.k g w g' w' -> s'.k = s.k -> Marks g g' a.defers a'.defers -> Q (x.toG l) a' w') -> r.wpIn (W ro) 0 P Q a w) ∧
  ∀ {g : G} {w : World} {a : Act} {s s' : S} {x : Ex} {Q : Exit -> Act -> World -> Prop}, SN g w n a.tmps s -> Rnd g ro s.k -> evC call c' s = some (x, s') ->
  ∀ I : Act -> World -> Prop, (∀ a1 w1 s1 g1 m, iter (evC call b') (carry ks bs) m s1 = some (x, s') -> SN g1 w1 n a1.tmps s1 -> Ext s.k g w g1 w1 -> s1.k = s.k -> Marks g g1 a.defers a1.defers -> I a1 w1) ->
  (∀ a' w' g', SN g' w' n a'.tmps s' -> Ext s.k g w g' w' -> s'.k = s.k -> Marks g g' a.defers a'.defers -> Q x.to a' w') -> c.wpIn (W ro) 0 P (jumpTo l I Q) a w
theorem code_okx {ro : Option Nat} (hg : Good P call) {m : Mo} {c : Code} {c' : Cd} (hm : MCx P n m c c') : Cok P n call ro m c c' := by
 induction hm with
 | sk => intro g w a s s' x Q h hrn he hq; simp only [evC] at he; injection he with he; injection he with e1 e2; subst e1 e2; exact wpIn_skip (hq a w g h (Ext.refl _ _ _) rfl (Marks.same rfl))
 | ex => intro g w a s s' x Q h hrn he hq; simp only [evC] at he; injection he with he; injection he with e1 e2; subst e1 e2; exact wpIn_exit (hq a w g h (Ext.refl _ _ _) rfl (Marks.same rfl))
 | rt => intro g w a s s' x Q h hrn he hq; simp only [evC] at he; injection he with he; injection he with e1 e2; subst e1 e2; exact wpIn_ret (hq a w g h (Ext.refl _ _ _) rfl (Marks.same rfl))
 | rg hops =>
  intro g w a s s' x Q h hrn he hq
  simp only [evC] at he
  obtain ⟨s1, h1, h2⟩ := Option.map_eq_some_iff.1 he
  injection h2 with e1 e2
  subst e1 e2
  exact wpIn_region (ops_ok hg hops h h1 fun a' w' g' q1 q2 q3 q4 => hq a' w' g' q1 q2 q3 (Marks.same q4))
 | rf hx hb hr hro => intro g w a s s' x Q h hrn he hq; simp only [evC] at he; exact rf_ok hg hx hb hr hro h hrn he hq
 | dr hmx hops hD =>
  intro g w a s s' x Q h hrn he hq
  simp only [evC] at he
  obtain ⟨s1, h1, h2⟩ := Option.map_eq_some_iff.1 he
  injection h2 with e1 e2
  subst e1 e2
  exact dr_ok hg hmx hops hD h h1 fun a' w' g' q1 q2 q3 q4 => hq a' w' g' q1 q2 q3 (Marks.same q4)
 | drt hmx hops hD hT =>
  intro g w a s s' x Q h hrn he hq
  simp only [evC] at he
  obtain ⟨s1, h1, h2⟩ := Option.map_eq_some_iff.1 he
  injection h2 with e1 e2
  subst e1 e2
  obtain ⟨s2, h3, h4⟩ := Option.bind_eq_some_iff.1 h1
  exact drt_ok hg hmx hops hD hT h h3 h4 fun a' w' g' q1 q2 q3 q4 => hq a' w' g' q1 q2 q3 (Marks.same q4)
 | dra hmx hops hlt hdp =>
  intro g w a s s' x Q h hrn he hq
  simp only [evC] at he
  split at he
  ·split at he
   ·rename_i s1 _ hR
    injection he with he
    injection he with e1 e2
    subst e1 e2
    exact dra_ok hg hmx hops hlt hdp h hR fun a' w' g' q1 q2 q3 q4 => hq a' w' g' q1 q2 q3 (Marks.same q4)
   ·cases he
  ·cases he
 | gs hl hc ih =>
  intro g w a s s' x Q h hrn he hq
  simp only [evC] at he
  split at he
  ·rename_i s1 h1
   obtain ⟨g1, k1, k2, k3⟩ := gs_ok h hl h1
   exact ih k1 (by rw [k3]; exact hrn.ext k2) he fun a2 w2 g2 r1 r2 r3 r4 => hq a2 w2 g2 r1 (k2.trans (by rw [k3] at r2; exact r2)) (r3.trans k3) ((Marks.same rfl).trans r4 k2 (by rw [k3] at r2; exact r2))
  ·cases he
 | @ls c c' t off id hid hc ih =>
  intro g w a s s' x Q h hrn he hq
  simp only [evC] at he
  split at he
  ·rename_i f b o ht
   have hRL : b < RL := by
    have := h.st.e t
    rw [ht, RT_ne rfl, RV_ne rfl] at this
    exact (show RP g w _ (.ptr f b o) from this).1
   split at he
   ·rename_i s1 h1
    split at he
    ·rename_i x2 s2 h2
     obtain ⟨s3, h3, h4⟩ := Option.map_eq_some_iff.1 he
     injection h4 with e1 e2
     subst e1 e2
     obtain ⟨g1, k1, k2, k3, k4, k5⟩ := lso_ok h hRL hid h1
     refine ih k1 (by rw [k3]; exact hrn.ext k2) h2 fun a2 w2 g2 r1 r2 r3 r4 => ?_
     obtain ⟨g3, j1, j2, j3, j4⟩ := uso_ok r1 hRL hid h3
     rw [k3] at r2
     rw [r3, k3] at j4
     have hE := k2.trans r2
     refine hq a2 w2 g3 j1 (j4 g w hE k4) (j2.trans (r3.trans k3)) ?_
     obtain ⟨m, m1, m2, m3⟩ := (Marks.same (g := g) (g' := g1) (ds := a.defers) rfl).trans r4 k2 r2
     exact ⟨m, m1, m2, fun b hb => by rw [j3]; exact m3 b hb⟩
    ·cases he
   ·cases he
  ·cases he
 | sc hc ih =>
  intro g w a s s' x Q h hrn he hq
  simp only [evC, evG] at he
  exact wpIn_scope (ih h hrn he fun a2 w2 g2 r1 r2 r3 r4 => by
   have := hq a2 w2 g2 r1 r2 r3 r4
   cases x <;> exact this)
 | tg hl hc ih =>
  intro g w a s s' x Q h hrn he hq
  simp only [evC] at he
  split at he
  ·rename_i s1 h1
   split at he
   ·rename_i s2 h2
    injection he with he
    injection he with e1 e2
    subst e1 e2
    refine ih h hrn h1 fun a1 w1 g1 q1 q2 q3 q4 => ?_
    obtain ⟨g2, k1, k2, k3⟩ := gs_ok q1 hl h2
    exact hq a1 w1 g2 k1 (q2.trans (by rw [q3] at k2; exact k2)) (k3.trans q3) (q4.trans (Marks.same rfl) q2 k2)
   ·cases he
  ·rename_i hne
   refine ih h hrn he fun a1 w1 g1 q1 q2 q3 q4 => hq a1 w1 g1 q1 q2 q3 q4
 | lb => intro g w a s s' x Q h hrn he hq; simp only [evC] at he; injection he with he; injection he with e1 e2; subst e1 e2; exact wpIn_label (hq a w g h (Ext.refl _ _ _) rfl (Marks.same rfl))
 | sq ha hb iha ihb =>
  intro g w a s s' x Q h hrn he hq
  simp only [evC] at he
  split at he
  ·rename_i s1 h1
   refine wpIn_seq (iha h hrn h1 fun a1 w1 g1 q1 q2 q3 q4 => ?_)
   exact ihb q1 (by rw [q3]; exact hrn.ext q2) he fun a2 w2 g2 r1 r2 r3 r4 => hq a2 w2 g2 r1 (q2.trans (by rw [q3] at r2; exact r2)) (r3.trans q3) (q4.trans r4 q2 r2)
  ·rename_i hne
   refine wpIn_seq (iha h hrn he fun a1 w1 g1 q1 q2 q3 q4 => ?_)
   have := hq a1 w1 g1 q1 q2 q3 q4
   cases x with
   | nm => exact absurd he (hne s')
   | ex id => exact this
   | rt => exact this
 | ff hc ha hb iha ihb =>
  intro g w a s s' x Q h hrn he hq
  simp only [evC] at he
  split at he
  ·rename_i q hv
   have hv' := rd_v h hc hv
   cases q with
   | true => exact wpIn_cond_true hv' (iha h hrn he hq)
   | false => exact wpIn_cond_false hv' (ihb h hrn he hq)
  ·cases he
 | @bl id c c' ha iha =>
  intro g w a s s' x Q h hrn he hq
  simp only [evC] at he
  split at he
  ·rename_i i s1 h1
   by_cases e : i = id
   ·rw [if_pos e] at he
    injection he with he
    injection he with e1 e2
    subst e1 e2 e
    exact wpIn_block (iha h hrn h1 fun a1 w1 g1 q1 q2 q3 q4 => by simp only [Ex.to, Exit.inBlock, if_true]; exact hq a1 w1 g1 q1 q2 q3 q4)
   ·rw [if_neg e] at he
    injection he with he
    injection he with e1 e2
    subst e1 e2
    exact wpIn_block (iha h hrn h1 fun a1 w1 g1 q1 q2 q3 q4 => by simp only [Ex.to, Exit.inBlock, if_neg e]; exact hq a1 w1 g1 q1 q2 q3 q4)
  ·rename_i hne
   refine wpIn_block (iha h hrn he fun a1 w1 g1 q1 q2 q3 q4 => ?_)
   have := hq a1 w1 g1 q1 q2 q3 q4
   cases x with
   | nm => exact this
   | ex i => exact absurd he (hne i s')
   | rt => exact this
 | @lp c c' ks bs ha iha =>
  intro g w a s s' x Q h hrn he hq
  simp only [evC] at he
  obtain ⟨m, hm⟩ := lim_some he
  -- what holds at the head of a round: so many rounds are left
  let I0 : Nat -> Act -> World -> Prop := fun m a1 w1 => ∃ s1 g1, iter (evC call c') (carry ks bs) m s1 = some (x, s') ∧ SN g1 w1 n a1.tmps s1 ∧ Ext s.k g w g1 w1 ∧ s1.k = s.k ∧ Marks g g1 a.defers a1.defers
  open Classical in
  refine wpIn_loop (fun a1 w1 => ∃ m, I0 m a1 w1) (fun a1 w1 => if hx : ∃ m, I0 m a1 w1 then (least hx).choose else 0) ⟨m, s, g, hm, h, Ext.refl _ _ _, rfl, Marks.same rfl⟩ ?_
  intro a1 w1 hI
  have hfind := (least hI).choose_spec.1
  have hmu : (if hx : ∃ m, I0 m a1 w1 then (least hx).choose else 0) = (least hI).choose := dif_pos hI
  rw [hmu]
  generalize (least hI).choose = m0 at hfind
  obtain ⟨s1, g1, h1, h2, h3, h4, h5⟩ := hfind
  cases m0 with
  | zero => simp [iter] at h1
  | succ m0 =>
   simp only [iter] at h1
   split at h1
   ·cases h1
   ·rename_i s2 hcar
    obtain ⟨g2, k1, k2, k3⟩ := carry_ok h2 hcar
    split at h1
    ·cases h1
    ·rename_i s3 hbody
     have hrn2 : Rnd g2 ro s2.k := by rw [k3, h4]; exact hrn.ext (h3.trans (by rw [h4] at k2; exact k2))
     refine iha k1 hrn2 hbody fun a2 w2 g3 q1 q2 q3 q4 => ?_
     have hM : Marks g g3 a.defers a2.defers := h5.trans ((Marks.same rfl).trans q4 k2 q2) h3 (k2.trans (by rw [k3] at q2; exact q2))
     have hnext : I0 m0 a2 w2 := ⟨s3, g3, h1, q1, (h3.trans (by rw [h4] at k2; exact k2)).trans (by rw [k3, h4] at q2; exact q2), q3.trans (k3.trans h4), hM⟩
     refine ⟨⟨m0, hnext⟩, ?_⟩
     rw [dif_pos ⟨m0, hnext⟩]
     exact Nat.lt_succ_of_le ((least (p := fun m => I0 m a2 w2) ⟨m0, hnext⟩).choose_spec.2 _ hnext)
    ·rename_i y s3 hne hbody
     injection h1 with h1
     injection h1 with e1 e2
     subst e1 e2
     have hrn2 : Rnd g2 ro s2.k := by rw [k3, h4]; exact hrn.ext (h3.trans (by rw [h4] at k2; exact k2))
     refine iha k1 hrn2 hbody fun a2 w2 g3 q1 q2 q3 q4 => ?_
     have hM : Marks g g3 a.defers a2.defers := h5.trans ((Marks.same rfl).trans q4 k2 q2) h3 (k2.trans (by rw [k3] at q2; exact q2))
     have := hq a2 w2 g3 q1 ((h3.trans (by rw [h4] at k2; exact k2)).trans (by rw [k3, h4] at q2; exact q2)) (q3.trans (k3.trans h4)) hM
     cases y with
     | nm => exact absurd rfl hne
     | ex id => exact this
     | rt => exact this
 | dd => intro g w a s s' x Q h hrn he hq; cases he
 | gh => intro g w a s s' x Q h hrn he hq; simp only [evC] at he; injection he with he; injection he with e1 e2; subst e1 e2; exact wpIn_goto (hq a w g h (Ext.refl _ _ _) rfl (Marks.same rfl))
 | gq ha hb iha ihb =>
  intro g w a s s' x Q h hrn he hq
  simp only [evC] at he
  split at he
  ·rename_i s1 h1
   refine wpIn_seq (iha h hrn h1 fun a1 w1 g1 q1 q2 q3 q4 => ?_)
   exact ihb q1 (by rw [q3]; exact hrn.ext q2) he fun a2 w2 g2 r1 r2 r3 r4 => hq a2 w2 g2 r1 (q2.trans (by rw [q3] at r2; exact r2)) (r3.trans q3) (q4.trans r4 q2 r2)
  ·rename_i hne
   refine wpIn_seq (iha h hrn he fun a1 w1 g1 q1 q2 q3 q4 => ?_)
   have := hq a1 w1 g1 q1 q2 q3 q4
   cases x with
   | nm => exact absurd he (hne s')
   | ex id => exact this
   | rt => exact this
 | @jh l r b' ks bs hr ihr =>
  refine ⟨by simp [findLabel], b', ks, bs, ihr, ?_⟩
  intro g w a s s' x Q h hrn he I hI hq
  simp only [evC] at he
  obtain ⟨m, hm⟩ := lim_some he
  refine wpIn_seq (wpIn_label ?_)
  cases m with
  | zero => simp [iter] at hm
  | succ m =>
   simp only [iter] at hm
   split at hm
   ·cases hm
   ·rename_i s2 hcar
    obtain ⟨g2, k1, k2, k3⟩ := carry_ok h hcar
    have hrn2 : Rnd g2 ro s2.k := by rw [k3]; exact hrn.ext k2
    split at hm
    ·cases hm
    ·rename_i s3 hbody
     refine ihr k1 hrn2 hbody fun a2 w2 g3 q1 q2 q3 q4 => ?_
     exact ⟨rfl, hI a2 w2 s3 g3 m hm q1 (k2.trans (by rw [k3] at q2; exact q2)) (q3.trans k3) ((Marks.same rfl).trans q4 k2 (by rw [k3] at q2; exact q2))⟩
    ·rename_i y s3 hne hbody
     injection hm with hm
     injection hm with e1 e2
     subst e1 e2
     refine ihr k1 hrn2 hbody fun a2 w2 g3 q1 q2 q3 q4 => ?_
     have := hq a2 w2 g3 q1 (k2.trans (by rw [k3] at q2; exact q2)) (q3.trans k3) ((Marks.same rfl).trans q4 k2 (by rw [k3] at q2; exact q2))
     cases y with
     | nm => exact absurd rfl hne
     | ex id => exact this
     | rt => exact this
 | js hno ha hb iha ihb =>
  obtain ⟨f1, b', ks, bs, f2, f3⟩ := ihb
  refine ⟨by simp only [findLabel, hno]; exact f1, b', ks, bs, f2, ?_⟩
  intro g w a s s' x Q h hrn he I hI hq
  simp only [evC] at he
  split at he
  ·rename_i s1 h1
   refine wpIn_seq (iha h hrn h1 fun a1 w1 g1 q1 q2 q3 q4 => ?_)
   exact f3 q1 (by rw [q3]; exact hrn.ext q2) he I (fun a2 w2 s2 g2 m j1 j2 j3 j4 j5 => hI a2 w2 s2 g2 m j1 j2 (q2.trans (by rw [q3] at j3; exact j3)) (j4.trans q3) (q4.trans j5 q2 j3)) fun a2 w2 g2 r1 r2 r3 r4 => hq a2 w2 g2 r1 (q2.trans (by rw [q3] at r2; exact r2)) (r3.trans q3) (q4.trans r4 q2 r2)
  ·rename_i hne
   refine wpIn_seq (iha h hrn he fun a1 w1 g1 q1 q2 q3 q4 => ?_)
   have := hq a1 w1 g1 q1 q2 q3 q4
   cases x with
   | nm => exact absurd he (hne s')
   | ex id => exact this
   | rt => exact this
 | @sj c c' l r hc ihc =>
  obtain ⟨f1, b', ks, bs, f2, f3⟩ := ihc
  intro g w a s s' x Q h hrn he hq
  let I0 : Nat -> Act -> World -> Prop := fun m a1 w1 => ∃ s1 g1, iter (evC call b') (carry ks bs) m s1 = some (x, s') ∧ SN g1 w1 n a1.tmps s1 ∧ Ext s.k g w g1 w1 ∧ s1.k = s.k ∧ Marks g g1 a.defers a1.defers
  open Classical in
  refine wpIn_jumps l (fun a1 w1 => ∃ m, I0 m a1 w1) (fun a1 w1 => if hx : ∃ m, I0 m a1 w1 then (least hx).choose else 0) f1 (f3 h hrn he _ (fun a1 w1 s1 g1 m j1 j2 j3 j4 j5 => ⟨m, s1, g1, j1, j2, j3, j4, j5⟩) hq) ?_
  intro a1 w1 hI
  have hfind := (least hI).choose_spec.1
  have hmu : (if hx : ∃ m, I0 m a1 w1 then (least hx).choose else 0) = (least hI).choose := dif_pos hI
  rw [hmu]
  generalize (least hI).choose = m0 at hfind
  obtain ⟨s1, g1, h1, h2, h3, h4, h5⟩ := hfind
  refine wpIn_seq (wpIn_skip ?_)
  cases m0 with
  | zero => simp [iter] at h1
  | succ m0 =>
   simp only [iter] at h1
   split at h1
   ·cases h1
   ·rename_i s2 hcar
    obtain ⟨g2, k1, k2, k3⟩ := carry_ok h2 hcar
    have hrn2 : Rnd g2 ro s2.k := by rw [k3, h4]; exact hrn.ext (h3.trans (by rw [h4] at k2; exact k2))
    split at h1
    ·cases h1
    ·rename_i s3 hbody
     refine f2 k1 hrn2 hbody fun a2 w2 g3 q1 q2 q3 q4 => ?_
     have hM : Marks g g3 a.defers a2.defers := h5.trans ((Marks.same rfl).trans q4 k2 q2) h3 (k2.trans (by rw [k3] at q2; exact q2))
     have hnext : I0 m0 a2 w2 := ⟨s3, g3, h1, q1, (h3.trans (by rw [h4] at k2; exact k2)).trans (by rw [k3, h4] at q2; exact q2), q3.trans (k3.trans h4), hM⟩
     refine ⟨rfl, ⟨m0, hnext⟩, ?_⟩
     rw [dif_pos ⟨m0, hnext⟩]
     exact Nat.lt_succ_of_le ((least (p := fun m => I0 m a2 w2) ⟨m0, hnext⟩).choose_spec.2 _ hnext)
    ·rename_i y s3 hne hbody
     injection h1 with h1
     injection h1 with e1 e2
     subst e1 e2
     refine f2 k1 hrn2 hbody fun a2 w2 g3 q1 q2 q3 q4 => ?_
     have hM : Marks g g3 a.defers a2.defers := h5.trans ((Marks.same rfl).trans q4 k2 q2) h3 (k2.trans (by rw [k3] at q2; exact q2))
     have := hq a2 w2 g3 q1 ((h3.trans (by rw [h4] at k2; exact k2)).trans (by rw [k3, h4] at q2; exact q2)) (q3.trans (k3.trans h4)) hM
     cases y with
     | nm => exact absurd rfl hne
     | ex id => exact this
     | rt => exact this
theorem code_ok {ro : Option Nat} (hg : Good P call) {c : Code} {c' : Cd} (hm : MCd P n c c') {g : G} {w : World} {a : Act} {s s' : S} {x : Ex} {Q : Exit -> Act -> World -> Prop} (h : SN g w n a.tmps s) (hr : Rnd g ro s.k) (he : evC call c' s = some (x, s'))
  (hq : ∀ a' w' g', SN g' w' n a'.tmps s' -> Ext s.k g w g' w' -> s'.k = s.k -> Marks g g' a.defers a'.defers -> Q x.to a' w') : c.wpIn (W ro) 0 P Q a w := code_okx hg hm h hr he hq
end
end Go.Proofs.Ytlhjdikklmkihaa.Ev
namespace Go.Proofs.Ytlhjdikklmkihaa.Ev
open Go
variable {P : Program}
inductive MRes (P : Program) : ResultVar -> Res -> Prop
 | t (n : Nat) : MRes P (.tmp n) (.t n)
 | c {n ty q} (hs : Sz P ty q) : MRes P (.cell n ty) (.c n q)
inductive MResL (P : Program) : List ResultVar -> List Res -> Prop
 | nil : MResL P [] []
 | cons {r r' l l'} (h : MRes P r r') (hl : MResL P l l') : MResL P (r :: l) (r' :: l')
structure MFn (P : Program) (fn : Func) (F : Fn) : Prop where
 nt : fn.ntmps = F.nt
 nr : (fn.name == "runtime.NumGoroutine") = false
 res : MResL P fn.results.toList F.res
 body : ∃ c, fn.body = some c ∧ MCd P F.nt c F.body
def MRd (P : Program) (rid : Nat) (F : Fn) (ps : List Nat) (asg : Cd) : Prop :=
 ∃ (pa : Array Tmp) (a b : Code), roundOf PP rid = some (F.nt, pa, a, b) ∧ pa.toList = ps ∧ (∀ p ∈ ps, p < F.nt) ∧ MCd P F.nt a asg ∧ MCd P F.nt b F.body
def MProg (P : Program) (prog : Nat -> Option Fn) : Prop := ∀ f F, prog f = some F -> match F.rnd with
 | none => f < RL ∧ ∃ fn, P.funcs[f]? = some fn ∧ (MFn P fn F ∨ PrimF P f fn F)
 | some (ps, asg) => RL <= f ∧ MRd P f F ps asg
def resS (tmps : Array Value) : ResultVar -> Sem Value
 | .tmp t => pure (tmps.getD t undef)
 | .cell b t => do loadVar t (<- asAddr (tmps.getD b undef))
theorem results_eq (fn : Func) (tmps : Array Value) : results fn tmps = (do let vs <- fn.results.mapM (resS tmps); pure (if h : vs.size = 1 then vs[0] else .tuple vs)) := by
 unfold results
 congr 1
def resF (j i c : Nat) : Loc := ⟨4, j, 0, i, c⟩
section
variable {g : G} {w : World} {n : Nat} {a : Act} {s s' : S} {call : Caller}
theorem res1_ok {r : ResultVar} {r' : Res} (hm : MRes P r r') {d : D} (h : SN g w n a.tmps s) (he : res1 call r' s = some (d, s')) (j : Nat) :
  ∃ x g', (resS a.tmps r).run P w = .ok x w ∧ SN g' w n a.tmps s' ∧ RT g' w (resF j) x d ∧ Ext s.k g w g' w ∧ s'.k = s.k ∧
   (∀ j' y d, j' < j -> RT g w (resF j') y d -> RT g' w (resF j') y d) := by
 have fin : ∀ g1 x, SN g1 w n a.tmps s' -> RT g1 w (flyL 0) x d -> Ext s.k g w g1 w -> s'.k = s.k -> (∀ ℓ : Loc, 4 <= ℓ.k -> Keep g w ℓ g1 w ℓ) ->
   ∃ g', SN g' w n a.tmps s' ∧ RT g' w (resF j) x d ∧ Ext s.k g w g' w ∧ s'.k = s.k ∧ (∀ j' y d, j' < j -> RT g w (resF j') y d -> RT g' w (resF j') y d) := by
  intro g1 x h1 h2 h3 h4 h5
  have hfix : ∀ ℓ : Loc, ℓ.k ≠ 3 -> relo (flyL 0) (resF j) ℓ = ℓ := fun ℓ hℓ => relo_fix fun i c e => hℓ (by rw [e]; rfl)
  refine ⟨g1.mv (relo (flyL 0) (resF j)), ⟨⟨h1.st.inv.mv _, h1.st.sb.mv _ fun f b c => hfix _ (by simp [boxL]), fun t => (h1.st.e t).keep fun i c => g1.mv_keep' w _ (hfix _ (by simp [slotL]))⟩, h1.size⟩,
   h2.keep fun i c => g1.mv_keep' w _ (relo_A (fun _ _ => ⟨rfl, rfl⟩) i c), h3.trans (g1.mv_ext w _ _ fun ℓ h0 _ => hfix _ (by omega)), h4, fun j' y d hj hy => (hy.keep fun i c => h5 _ (by simp [resF])).keep fun i c => g1.mv_keep' w _ (hfix _ (by simp [resF]))⟩
 cases hm with
 | t m =>
  simp only [res1] at he
  injection he with he
  obtain ⟨g1, k1, k2, k3, k4, k5, k6⟩ := rd_fly h (MOpd.m m) 0
  have hk := rd_k (.m m) s
  rw [he] at k1 k2 hk
  obtain ⟨g', q1, q2, q3, q4, q5⟩ := fin g1 _ k1 k2 k3 hk k6
  exact ⟨_, g', rfl, q1, q2, q3, q4, q5⟩
 | c hs =>
  rename_i b ty q
  simp only [res1, evOp, rd] at he
  split at he
  ·rename_i f bb off hptr
   obtain ⟨hRL, blk, h1, h2⟩ := rd_ptr (x' := .t b) h (MOpd.t b) hptr
   split at he
   ·rename_i ds hds
    obtain ⟨d0, h3, h4⟩ := Option.map_eq_some_iff.1 he
    injection h4 with e1 e2
    subst e1 e2
    obtain ⟨x, g1, q1, q2, q3, q4, q5⟩ := ldm_core hs h h1 hRL hds h3
    obtain ⟨g', r1, r2, r3, r4, r5⟩ := fin g1 _ q2 q3 q4 (sbx_k ..) q5
    refine ⟨x, g', ?_, r1, r2, r3, r4, r5⟩
    have h2' : a.tmps.getD b undef = .pointer (some ⟨blk, off, none⟩) := h2
    simp [resS, h2', asAddr, q1]
   ·cases he
  ·cases he
theorem resL_ok {rs : List ResultVar} {rs' : List Res} (hm : MResL P rs rs') : ∀ {g : G} {s s' : S} {ds : List D} (j : Nat), SN g w n a.tmps s -> resL call rs' s = some (ds, s') ->
  ∃ xs g', (rs.mapM (resS a.tmps)).run P w = .ok xs w ∧ SN g' w n a.tmps s' ∧ xs.length = ds.length ∧
   (∀ (i : Nat) d, ds[i]? = some d -> ∃ x, xs[i]? = some x ∧ RT g' w (resF (j + i)) x d) ∧ Ext s.k g w g' w ∧ s'.k = s.k ∧ (∀ j' y d, j' < j -> RT g w (resF j') y d -> RT g' w (resF j') y d) := by
 induction hm with
 | nil =>
  intro g s s' ds j h he
  simp only [resL] at he
  injection he with he
  injection he with e1 e2
  subst e1 e2
  exact ⟨[], g, rfl, h, rfl, fun i d hi => by simp at hi, Ext.refl _ _ _, rfl, fun _ _ _ _ h => h⟩
 | cons hr hl ih =>
  intro g s s' ds j h he
  simp only [resL] at he
  obtain ⟨p, h1, h2⟩ := Option.bind_eq_some_iff.1 he
  obtain ⟨q, h3, h4⟩ := Option.map_eq_some_iff.1 h2
  injection h4 with e1 e2
  subst e1 e2
  obtain ⟨d1, s1⟩ := p
  obtain ⟨x, g1, k1, k2, k3, k4, k5, k6⟩ := res1_ok hr h h1 j
  obtain ⟨xs, g2, r1, r2, r3, r4, r5, r6, r7⟩ := ih (j + 1) k2 h3
  refine ⟨x :: xs, g2, ?_, r2, by simp [r3], fun i d hi => ?_, k4.trans (by rw [k5] at r5; exact r5), r6.trans k5, fun j' y d hj hy => r7 j' y d (by omega) (k6 j' y d hj hy)⟩
  ·rw [List.mapM_cons]
   simp only [Sem.run_bind]
   rw [k1]
   simp only [Result.andThen_ok]
   rw [r1]
   rfl
  ·cases i with
   | zero => simp at hi; subst hi; exact ⟨x, rfl, r7 j _ _ (by omega) k3⟩
   | succ i =>
    obtain ⟨y, q1, q2⟩ := r4 i d (by simpa using hi)
    exact ⟨y, by simpa using q1, by rw [show j + (i + 1) = j + 1 + i by omega]; exact q2⟩
theorem results_ok {fn : Func} {rs' : List Res} (hm : MResL P fn.results.toList rs') {ds : List D} (h : SN g w n a.tmps s) (he : resL call rs' s = some (ds, s')) (hnt : ∀ d ∈ ds, d.tupB = false) :
  ∃ v g', (results fn a.tmps).run P w = .ok v w ∧ SN g' w n a.tmps s' ∧ RT g' w retL v (mkRes ds) ∧ Ext s.k g w g' w ∧ s'.k = s.k := by
 obtain ⟨xs, g1, h1, h2, h3, h4, h5, h6, _⟩ := resL_ok hm 0 h he
 let ρ : Loc -> Loc := fun ℓ => if ℓ = resF ℓ.f ℓ.i ℓ.c then retL ℓ.f ℓ.c else ℓ
 have hρf : ∀ ℓ : Loc, ℓ.k ≠ 4 -> ρ ℓ = ℓ := fun ℓ hℓ => if_neg fun e => hℓ (by rw [e]; rfl)
 have hρ : ∀ i c, ρ (resF i 0 c) = retL i c := fun i c => if_pos rfl
 have hst : SN (g1.mv ρ) w n a.tmps s' := ⟨⟨h2.st.inv.mv _, h2.st.sb.mv _ fun f b c => hρf _ (by simp [boxL]), fun t => (h2.st.e t).keep fun i c => g1.mv_keep' w _ (hρf _ (by simp [slotL]))⟩, h2.size⟩
 have hel : ∀ (i : Nat) d, ds[i]? = some d -> ∃ x, xs[i]? = some x ∧ RV (g1.mv ρ) w (retL i) x d := by
  intro i d hi
  obtain ⟨x, q1, q2⟩ := h4 i d hi
  have hd := hnt d (List.mem_of_getElem? hi)
  rw [Nat.zero_add, RT_ne hd] at q2
  exact ⟨x, q1, q2.keep fun c => g1.mv_keep' w ρ (hρ i c)⟩
 have hrun : ∀ v, (if hx : xs.toArray.size = 1 then xs.toArray[0] else Value.tuple xs.toArray) = v -> (results fn a.tmps).run P w = .ok v w := by
  intro v hv
  rw [results_eq, Sem.run_bind, Array.mapM_eq_mapM_toList, Sem.run_map, h1]
  simp only [Result.andThen_ok]
  rw [<- hv]
  rfl
 refine ⟨_, g1.mv ρ, hrun _ rfl, hst, ?_, h5.trans (g1.mv_ext w ρ _ fun ℓ h0 _ => hρf _ (by omega)), h6⟩
 have htup : ds.length ≠ 1 -> RT (g1.mv ρ) w retL (Value.tuple xs.toArray) (.tup ds) := fun _ => ⟨xs.toArray, rfl, by simp [h3], fun i d hi => by
  obtain ⟨x, q1, q2⟩ := hel i d hi
  exact ⟨x, by simpa using q1, q2⟩⟩
 cases hds : ds with
 | nil =>
  subst hds
  rw [dif_neg (by simp [h3])]
  exact htup (by simp)
 | cons d r =>
  cases r with
  | nil =>
   subst hds
   obtain ⟨x, q1, q2⟩ := hel 0 d rfl
   rw [dif_pos (by simp [h3])]
   have : xs.toArray[0]'(by simp [h3]) = x := by
    have := q1
    rw [List.getElem?_eq_getElem (by simp [h3])] at this
    injection this
   rw [this]
   exact q2.toRT
  | cons d2 r =>
   subst hds
   rw [dif_neg (by simp [h3])]
   exact htup (by simp)
theorem argE_get (ds : List D) (i t : Nat) : get t (argE i ds) = if i <= t then (ds[t - i]?).getD .u else .u := by
 induction ds generalizing i with
 | nil => simp [argE, get]
 | cons d r ih =>
  simp only [argE, get]
  by_cases h : t = i
  ·subst h; simp
  ·rw [if_neg h, ih]
   by_cases h' : i <= t
   ·rw [if_pos h', if_pos (by omega), show t - i = (t - (i + 1)) + 1 by omega]; simp
   ·rw [if_neg h', if_neg (by omega)]
theorem bnd_in0 {k : Nat} {bs : List Nat} {d : D} (h : d.bnd1 k = true) (hu : d.sto1 = true ∨ d = .u ∨ ∃ x, d = .v x) : d.in1 k bs = true := by
 cases d with
 | v x => rfl
 | sl m z xs => rfl
 | u => rfl
 | ptr f' s off => simp [D.bnd1] at h; simp [D.in1]; omega
 | fptr cs off => rfl
 | yld f' s => simp [D.bnd1] at h; simp [D.in1]; omega
 | ref f' s off n z => simp [D.bnd1] at h; simp [D.in1]; omega
 | clo fn caps =>
  refine List.all_eq_true.2 fun c hc => ?_
  have := List.all_eq_true.1 (show caps.all _ = true from h) c hc
  cases c with
  | ptr f' s off => simp at this ⊢; left; omega
  | v y => rfl
  | fptr cs off => rfl
  | _ => cases this
 | _ => rcases hu with hu | hu | ⟨x, hu⟩ <;> cases hu
theorem RV.in2 {k : Nat} {bs : List Nat} {L : Nat -> Loc} {x : Value} {d : D} (h : RV g w L x d) (hb : d.bnd2 k = true) : d.in2 k bs = true := by
 rcases agg_or d with ⟨ds, rfl⟩ | hd
 ·obtain ⟨cs, h1, h2, h3⟩ := h
  refine List.all_eq_true.2 fun d hd => ?_
  obtain ⟨c, hc⟩ := List.mem_iff_getElem?.1 hd
  obtain ⟨y, h4, h5⟩ := h3 c d hc
  exact bnd_in0 (List.all_eq_true.1 (show ds.all _ = true from hb) d hd) h5.kinds
 ·rw [RV_ne hd] at h
  have h1 : d.bnd1 k = true := by cases d <;> first | exact hb | cases hd
  have := bnd_in0 (bs := bs) h1 h.kinds
  cases d <;> first | exact this | cases hd
theorem RT.inn {k : Nat} {bs : List Nat} {L : Nat -> Nat -> Loc} {x : Value} {ds : List D} (h : RT g w L x (mkRes ds)) (hb : ds.all (D.bnd2 k) = true) : (mkRes ds).inn k bs = true := by
 have all : ∀ ds : List D, RT g w L x (.tup ds) -> ds.all (D.bnd2 k) = true -> (D.tup ds).inn k bs = true := by
  intro ds h hb
  obtain ⟨vs, h1, h2, h3⟩ := h
  refine List.all_eq_true.2 fun d hd => ?_
  obtain ⟨i, hi⟩ := List.mem_iff_getElem?.1 hd
  obtain ⟨y, h4, h5⟩ := h3 i d hi
  exact h5.in2 (List.all_eq_true.1 hb d hd)
 cases ds with
 | nil => exact all _ h hb
 | cons d r => cases r with
  | nil =>
   have hd := bnd2_tup (List.all_eq_true.1 hb d (by simp))
   have h' : RT g w L x d := h
   rw [RT_ne hd] at h'
   have := h'.in2 (bs := bs) (List.all_eq_true.1 hb d (by simp))
   show d.inn k bs = true
   cases d <;> first | exact this | cases hd
  | cons d2 r => exact all _ h hb
theorem frame_sb {e : Env} {B : List Bx} (hsb : SB g w B) : SB g w (⟨e, [], B⟩ : S).B := by
 have hbx : ∀ f s, bxl (⟨e, [], B⟩ : S).B f s = bxl B f s := by
  intro f s
  simp only [bxl, S.B]
  rcases Nat.lt_or_ge f B.length with hlt | hge
  ·rw [List.getElem?_append_left hlt]
  ·rw [List.getElem?_append_right hge, List.getElem?_eq_none hge]
   cases hq : f - B.length with
   | zero => simp [lk]
   | succ q => simp
 exact ⟨fun f s ds h => hsb.rel f s ds (by rw [<- hbx]; exact h), fun f s h => by rw [hbx]; exact hsb.dom f s h, fun f s ds d h hd => hsb.bnd f s ds d (by rw [<- hbx]; exact h) hd⟩
theorem frame_end (h : SN g w n a.tmps s) {k : Nat} (hk : s.o.length = k) : Inv (g.cut k []) w ∧ SB (g.cut k []) w s.o := by
 subst hk
 refine ⟨h.st.inv.cut, h.st.sb.cut _ (fun f s1 hf => ?_) (fun f s1 hs => ?_) fun b => ⟨fun hb => by simp at hb, fun ds hds => ?_⟩⟩
 ·simp only [bxl, S.B]
  rcases Nat.lt_or_ge f s.o.length with hlt | hge
  ·rw [List.getElem?_append_left hlt]
  ·rw [List.getElem?_eq_none hge, List.getElem?_append_right hge]
   have : f - s.o.length = (f - s.o.length - 1) + 1 := by omega
   rw [this]; simp
 ·obtain ⟨blk, hblk⟩ := Option.isSome_iff_exists.1 hs
  have := h.boxlt hblk
  have hk3 : s.k = s.o.length := rfl
  omega
 ·exfalso
  simp only [bxl] at hds
  rw [List.getElem?_eq_none (Nat.le_refl _)] at hds
  cases hds
open Classical in
noncomputable def G.frz (g : G) (k : Nat) (l : Bx) : G := { g.cut k [] with fr := fun blk => if h : ∃ b cs, g.bx k b = some blk ∧ lk b l = some cs ∧ cs.all D.rf1 = true ∧ b < RL then h.choose_spec.choose.length else g.fr blk }
theorem frz_fr {k b blk : Nat} {l : Bx} {cs : List D} (hi : Inv g w) (h1 : g.bx k b = some blk) (h2 : lk b l = some cs) (h3 : cs.all D.rf1 = true) (h4 : b < RL) : (g.frz k l).fr blk = cs.length := by
 have hx : ∃ b cs, g.bx k b = some blk ∧ lk b l = some cs ∧ cs.all D.rf1 = true ∧ b < RL := ⟨b, cs, h1, h2, h3, h4⟩
 unfold G.frz
 simp only
 rw [dif_pos hx]
 have h := hx.choose_spec.choose_spec
 have e := (hi.inj _ _ _ _ _ h.1 h1).2
 have h6 : lk hx.choose l = lk b l := by rw [e]
 have h7 := h2.symm.trans (h6.symm.trans h.2.1)
 injection h7 with h7
 exact congrArg List.length h7.symm
theorem frz_fr' {k blk : Nat} {l : Bx} (h : ¬ ∃ b cs, g.bx k b = some blk ∧ lk b l = some cs ∧ cs.all D.rf1 = true ∧ b < RL) : (g.frz k l).fr blk = g.fr blk := by
 unfold G.frz
 simp only
 rw [dif_neg h]
theorem frame_frz (h : SN g w n a.tmps s) {k : Nat} (hk : s.o.length = k) : Inv (g.frz k s.l) w ∧ SB (g.frz k s.l) w s.o ∧ Ext k g w (g.frz k s.l) w ∧ (∀ b, g.fr b <= (g.frz k s.l).fr b) := by
 have hi := h.st.inv
 obtain ⟨f1, f2⟩ := frame_end h hk
 have hB : ∀ b cs, lk b s.l = some cs -> bxl s.B k b = some cs := fun b cs hb => by subst hk; simpa [bxl, S.B] using hb
 have hz : ∀ blk, (∃ b cs, g.bx k b = some blk ∧ lk b s.l = some cs ∧ cs.all D.rf1 = true ∧ b < RL) -> g.fr blk = 0 ∧ g.tk blk = none ∧ g.base <= blk ∧ blk < w.heap.size := fun blk ⟨b, cs, q1, _⟩ => by
  obtain ⟨a1, a2, a3, a4⟩ := hi.box _ _ _ q1
  exact ⟨a3, a4, a1, a2⟩
 have hfr : ∀ b, g.fr b <= (g.frz k s.l).fr b := fun blk => by
  by_cases hx : ∃ b cs, g.bx k b = some blk ∧ lk b s.l = some cs ∧ cs.all D.rf1 = true ∧ b < RL
  ·rw [(hz blk hx).1]; omega
  ·rw [frz_fr' hx]; exact Nat.le_refl _
 have hK : ∀ ℓ, Keep (g.cut k []) w ℓ (g.frz k s.l) w ℓ := fun ℓ => ⟨fun _ _ _ => rfl, hfr, fun _ _ _ h => h, fun b hb => ⟨hb, by
  by_cases hx : ∃ b' cs, g.bx k b' = some b ∧ lk b' s.l = some cs ∧ cs.all D.rf1 = true ∧ b' < RL
  ·exfalso; have := (hz b hx).2.1; rw [show g.tk b = some ℓ from hb] at this; cases this
  ·exact frz_fr' hx, rfl⟩, Gr.refl _⟩
 refine ⟨⟨f1.base, fun b hb => ⟨?_, (f1.fresh b hb).2⟩, fun f s' b hb => ?_, f1.inj, f1.tk, fun b o ho => ?_, f1.dm, f1.dt⟩, ⟨fun f b ds hds => (f2.rel f b ds hds).keep (fun c => hK _) fun _ _ => rfl, f2.dom, f2.bnd⟩, ⟨rfl, rfl, rfl, rfl, Nat.le_refl _, fun _ _ => rfl, hfr, fun _ _ _ => rfl, (G.cut_ext (g := g) (w := w) (k := k) (bs := [])).bx, fun b ℓ hb h0 hk' => ⟨hb, ((hK ℓ).tk b hb).2.1, rfl⟩, fun _ h => h, Gr.refl _⟩, hfr⟩
 ·by_cases hx : ∃ b' cs, g.bx k b' = some b ∧ lk b' s.l = some cs ∧ cs.all D.rf1 = true ∧ b' < RL
  ·have := (hz b hx).2.2.2; omega
  ·rw [frz_fr' hx]; exact (hi.fresh b hb).1
 ·obtain ⟨a1, a2, a3, a4⟩ := f1.box f s' b hb
  refine ⟨a1, a2, ?_, a4⟩
  by_cases hx : ∃ b' cs, g.bx k b' = some b ∧ lk b' s.l = some cs ∧ cs.all D.rf1 = true ∧ b' < RL
  ·exfalso
   obtain ⟨b', cs, q1, _⟩ := hx
   have hb' : (if f = k ∧ ¬ s' ∈ ([] : List Nat) then none else g.bx f s') = some b := hb
   split at hb'
   ·cases hb'
   ·rename_i hne
    have := (hi.inj _ _ _ _ _ hb' q1).1
    exact hne ⟨this, by simp⟩
  ·rw [frz_fr' hx]; exact a3
 ·by_cases hx : ∃ b' cs, g.bx k b' = some b ∧ lk b' s.l = some cs ∧ cs.all D.rf1 = true ∧ b' < RL
  ·obtain ⟨b', cs, q1, q2, q3, q4⟩ := hx
   rw [frz_fr hi q1 q2 q3 q4] at ho
   obtain ⟨blk, vs, e, r1, r2, r3, _⟩ := (h.st.sb.rel k b' cs (hB _ _ q2)).c q4
   rw [q1] at r1
   injection r1 with r1
   subst r1
   have : o < vs.size := by omega
   simp [World.cell?, r2, this]
  ·rw [frz_fr' hx] at ho; exact hi.cells b o ho
theorem RP.frz {k : Nat} {x : Value} {d : D} (h : SN g w n a.tmps s) (hk : s.o.length = k) (hr : RP g w x d) (hb : (d.frzP k s.l).in1 k [] = true) : RP (g.frz k s.l) w x (d.frzP k s.l) := by
 obtain ⟨_, _, he, hfr⟩ := frame_frz h hk
 have low : ∀ d, RP g w x d -> d.in1 k [] = true -> RP (g.frz k s.l) w x d := fun d hr hi => RP.keep (hr.cut (bs := []) hi) (fun _ _ _ => rfl) hfr fun _ _ _ h => h
 cases d with
 | ptr f b off =>
  by_cases e : f = k
  ·simp only [D.frzP, if_pos e] at hb ⊢
   cases hl : lk b s.l with
   | none => rw [hl] at hb; exact low _ hr hb
   | some cs =>
    rw [hl] at hb
    simp only at hb ⊢
    by_cases hall : cs.all D.rf1 = true
    ·rw [if_pos hall]
     obtain ⟨h0, blk, h1, h2⟩ := hr
     subst e
     have hB : bxl s.B f b = some cs := by subst hk; simpa [bxl, S.B] using hl
     obtain ⟨blk', vs, et, r1, r2, r3, r4⟩ := (h.st.sb.rel f b cs hB).c h0
     rw [h1] at r1
     injection r1 with r1
     subst r1
     refine ⟨blk, 0, fun j => vs.getD j undef, by rw [Nat.zero_add]; exact h2, by rw [frz_fr h.st.inv h1 hl hall h0]; omega, fun j c hj => ?_⟩
     obtain ⟨y, r5, r6⟩ := r4 j c hj
     have hy : vs.getD j undef = y := by rw [Array.getD_eq_getD_getElem?, r5]; rfl
     show w.cell? ⟨blk, 0 + j, none⟩ = some (vs.getD j undef) ∧ RF w _ (vs.getD j undef) c
     rw [hy]
     exact ⟨by simp [World.cell?, r2, r5], (RC.toRF r6 (List.all_eq_true.1 hall c (List.mem_of_getElem? hj))).mono (fun _ _ _ => rfl) hfr⟩
    ·rw [if_neg hall] at hb ⊢
     exact low _ hr hb
  ·simp only [D.frzP, if_neg e] at hb ⊢
   exact low _ hr hb
 | v y => exact low _ hr rfl
 | fptr cs off => exact low _ hr rfl
 | _ => exact hr.elim
theorem RC.frz {k : Nat} {ℓ : Loc} {x : Value} {d : D} (h : SN g w n a.tmps s) (hk : s.o.length = k) (hr : RC g w ℓ x d) (hb : (d.frz1 k s.l).in1 k [] = true) : RC (g.frz k s.l) w ℓ x (d.frz1 k s.l) := by
 obtain ⟨_, _, he, hfr⟩ := frame_frz h hk
 have hK : Keep (g.cut k []) w ℓ (g.frz k s.l) w ℓ := ⟨fun _ _ _ => rfl, hfr, fun _ _ _ h => h, fun b hb => ⟨hb, by
  by_cases hx : ∃ b' cs, g.bx k b' = some b ∧ lk b' s.l = some cs ∧ cs.all D.rf1 = true ∧ b' < RL
  ·exfalso
   obtain ⟨b', cs, q1, _⟩ := hx
   have := (h.st.inv.box _ _ _ q1).2.2.2
   rw [show g.tk b = some ℓ from hb] at this; cases this
  ·exact frz_fr' hx, rfl⟩, Gr.refl _⟩
 have low : ∀ d, RC g w ℓ x d -> d.in1 k [] = true -> RC (g.frz k s.l) w ℓ x d := fun d hr hi => (hr.cut hi).keep hK
 cases d with
 | clo fn caps =>
  obtain ⟨h0, vs, h1, h2, h3⟩ := hr
  refine ⟨h0, vs, h1, by simpa using h2, fun j c hj => ?_⟩
  simp only [List.getElem?_map] at hj
  obtain ⟨c0, q1, q2⟩ := Option.map_eq_some_iff.1 hj
  subst q2
  obtain ⟨y, q3, q4⟩ := h3 j c0 q1
  refine ⟨y, q3, RP.frz h hk q4 ?_⟩
  have := List.all_eq_true.1 (show (caps.map (D.frzP k s.l)).all _ = true from hb) _ (List.mem_map.2 ⟨c0, List.mem_of_getElem? q1, rfl⟩)
  generalize c0.frzP k s.l = c1 at this
  cases c1 with
  | ptr f s off => exact this
  | v y => rfl
  | fptr cs off => rfl
  | _ => cases this
 | ptr f b off => 
  have := RP.frz h hk (show RP g w x (.ptr f b off) from hr) hb
  show RC _ _ _ _ ((D.ptr f b off).frzP k s.l)
  revert this
  generalize (D.ptr f b off).frzP k s.l = c1
  intro this
  cases c1 with
  | ptr f s off => exact this
  | v y => exact this
  | fptr cs off => exact this
  | _ => exact this.elim
 | ref f b off m z =>
  obtain ⟨h0, B, cap, off', h1, h2, h3, h4, h5⟩ := hr
  have hr0 : RC g w ℓ x (.ref f b off m z) := ⟨h0, B, cap, off', h1, h2, h3, h4, h5⟩
  show RC _ _ _ _ ((D.ref f b off m z).frzP k s.l)
  have hb' : ((D.ref f b off m z).frzP k s.l).in1 k [] = true := hb
  by_cases e : f = k
  ·simp only [D.frzP, if_pos e] at hb' ⊢
   cases hl : lk b s.l with
   | none => rw [hl] at hb'; exact low _ hr0 hb'
   | some cs =>
    rw [hl] at hb'
    simp only at hb' ⊢
    by_cases hall : cs.all D.rf1 = true
    ·rw [if_pos hall]
     by_cases hle : off + m * z <= cs.length
     ·rw [if_pos hle]
      subst e
      have hB : bxl s.B f b = some cs := by subst hk; simpa [bxl, S.B] using hl
      obtain ⟨blk', vs, et, r1, r2, r3, r4⟩ := (h.st.sb.rel f b cs hB).c h0
      rw [h1] at r1
      injection r1 with r1
      subst r1
      rw [h2]
      exact (show RF w _ _ (.sl .ro z (chunks z m (cs.drop off))) from ref_ro h3 h4 (h5.1.imp (fun q => by omega) id) r2 hall (fun c d hc => by
       obtain ⟨y, r5, r6⟩ := r4 c d hc
       exact ⟨y, r5, (RC.toRF r6 (List.all_eq_true.1 hall d (List.mem_of_getElem? hc))).mono (fun _ _ _ => rfl) hfr⟩) (Nat.le_of_eq (frz_fr h.st.inv h1 hl hall h0).symm) hle)
     ·rw [if_neg hle]; trivial
    ·rw [if_neg hall] at hb' ⊢; exact low _ hr0 hb'
  ·simp only [D.frzP, if_neg e] at hb' ⊢
   exact low _ hr0 hb'
 | _ => exact low _ hr hb
theorem RP.bnd_in {k : Nat} {x : Value} {d : D} (hr : RP g w x d) (hb : (d.frzP k s.l).bnd1 k = true) : (d.frzP k s.l).in1 k [] = true := by
 cases d with
 | ptr f b off =>
  simp only [D.frzP] at hb ⊢
  split
  ·rename_i e
   rw [if_pos e] at hb
   cases hl : lk b s.l with
   | none => rw [hl] at hb; simp [D.bnd1] at hb; simp [D.in1]; omega
   | some cs =>
    rw [hl] at hb
    simp only at hb ⊢
    split
    ·rfl
    ·rename_i hn; rw [if_neg hn] at hb; simp [D.bnd1] at hb; simp [D.in1]; omega
  ·rename_i e; rw [if_neg e] at hb; simp [D.bnd1] at hb; simp [D.in1]; omega
 | v y => rfl
 | fptr cs off => rfl
 | _ => exact hr.elim
theorem RC.bnd_in {k : Nat} {ℓ : Loc} {x : Value} {d : D} (hr : RC g w ℓ x d) (hb : (d.frz1 k s.l).bnd1 k = true) : (d.frz1 k s.l).in1 k [] = true := by
 cases d with
 | clo fn caps =>
  refine List.all_eq_true.2 fun c hc => ?_
  have := List.all_eq_true.1 (show (caps.map (D.frzP k s.l)).all _ = true from hb) c hc
  cases c with
  | ptr f' s off => simp at this ⊢; exact this
  | v y => rfl
  | fptr cs off => rfl
  | _ => cases this
 | ptr f b off => exact RP.bnd_in (show RP g w x (.ptr f b off) from hr) hb
 | v y => rfl
 | u => rfl
 | sl m z xs => rfl
 | fptr cs off => rfl
 | yld f s => simp [D.frz1, D.frzP, D.bnd1] at hb; simp [D.frz1, D.frzP, D.in1]; omega
 | ref f b off m z =>
  have hb' : ((D.ref f b off m z).frzP k s.l).bnd1 k = true := hb
  show ((D.ref f b off m z).frzP k s.l).in1 k [] = true
  have low : (D.ref f b off m z).bnd1 k = true -> (D.ref f b off m z).in1 k [] = true := fun q => by simp [D.bnd1] at q; simp [D.in1]; omega
  simp only [D.frzP] at hb' ⊢
  by_cases e : f = k
  ·rw [if_pos e] at hb' ⊢
   cases hl : lk b s.l with
   | none => rw [hl] at hb'; exact low hb'
   | some cs =>
    rw [hl] at hb'
    simp only at hb' ⊢
    by_cases hall : cs.all D.rf1 = true
    ·rw [if_pos hall]; split <;> rfl
    ·rw [if_neg hall] at hb' ⊢; exact low hb'
  ·rw [if_neg e] at hb' ⊢; exact low hb'
 | _ => exact hr.elim
theorem frz1_agg {k : Nat} {l : Bx} {d : D} (h : d.aggB = false) : (d.frz1 k l).aggB = false ∧ d.frz2 k l = d.frz1 k l := by
 cases d with
 | ptr f b off =>
  refine ⟨?_, rfl⟩
  simp only [D.frz1, D.frzP]
  split
  ·split
   ·split <;> rfl
   ·rfl
  ·rfl
 | ref f b off n z => exact ⟨frz1_ne h, rfl⟩
 | agg cs => cases h
 | _ => exact ⟨rfl, rfl⟩
theorem RV.frz {k : Nat} {L : Nat -> Loc} {x : Value} {d : D} (h : SN g w n a.tmps s) (hk : s.o.length = k) (hr : RV g w L x d) (hb : (d.frz2 k s.l).bnd2 k = true) : RV (g.frz k s.l) w L x (d.frz2 k s.l) := by
 rcases agg_or d with ⟨ds, rfl⟩ | hd
 ·obtain ⟨cs, h1, h2, h3⟩ := hr
  refine ⟨cs, h1, by simpa using h2, fun c e hc => ?_⟩
  rw [List.getElem?_map] at hc
  obtain ⟨e0, q1, q2⟩ := Option.map_eq_some_iff.1 hc
  subst q2
  obtain ⟨y, q3, q4⟩ := h3 c e0 q1
  exact ⟨y, q3, RC.frz h hk q4 (q4.bnd_in (List.all_eq_true.1 (show (ds.map (D.frz1 k s.l)).all _ = true from hb) _ (List.mem_map.2 ⟨e0, List.mem_of_getElem? q1, rfl⟩)))⟩
 ·obtain ⟨e1, e2⟩ := frz1_agg (k := k) (l := s.l) hd
  rw [RV_ne hd] at hr
  rw [e2] at hb ⊢
  rw [RV_ne e1]
  refine RC.frz h hk hr (hr.bnd_in ?_)
  generalize d.frz1 k s.l = d1 at hb e1
  cases d1 <;> first | exact hb | cases e1
theorem RT.frz {k : Nat} {L : Nat -> Nat -> Loc} {x : Value} {ds : List D} (h : SN g w n a.tmps s) (hk : s.o.length = k) (hr : RT g w L x (mkRes ds)) (hnt : ∀ d ∈ ds, d.tupB = false) (hb : (ds.map (D.frz2 k s.l)).all (D.bnd2 k) = true) : RT (g.frz k s.l) w L x (mkRes (ds.map (D.frz2 k s.l))) := by
 have all : RT g w L x (.tup ds) -> RT (g.frz k s.l) w L x (.tup (ds.map (D.frz2 k s.l))) := fun hr => by
  obtain ⟨vs, h1, h2, h3⟩ := hr
  refine ⟨vs, h1, by simpa using h2, fun i d hi => ?_⟩
  rw [List.getElem?_map] at hi
  obtain ⟨e0, q1, q2⟩ := Option.map_eq_some_iff.1 hi
  subst q2
  obtain ⟨y, q3, q4⟩ := h3 i e0 q1
  exact ⟨y, q3, RV.frz h hk q4 (List.all_eq_true.1 hb _ (List.mem_map.2 ⟨e0, List.mem_of_getElem? q1, rfl⟩))⟩
 cases ds with
 | nil => exact all hr
 | cons d r => cases r with
  | nil =>
   have hd := hnt d (by simp)
   have hr' : RT g w L x d := hr
   rw [RT_ne hd] at hr'
   have := RV.frz h hk hr' (by simpa using hb)
   exact RV.toRT this
  | cons d2 r => exact all hr
theorem envR_ok {L : Nat -> Loc} {k : Nat} : ∀ {ps : List Nat} {args : List D} {vs : List Value} {e : Env} {tmps : Array Value}, args.length = ps.length -> vs.length = args.length -> (∀ p ∈ ps, p < tmps.size) -> args.all (fun d => !d.tupB) = true ->
  (∀ (i : Nat) d, args[i]? = some d -> ∃ x L, vs[i]? = some x ∧ RV g w L x d) -> (∀ t, RT g w (slotL k t) (tmps.getD t undef) (get t e)) ->
  ((ps.zip vs).foldl (fun (tmps : Array Value) (q : Nat × Value) => tmps.setIfInBounds q.1 q.2) tmps).size = tmps.size ∧ ∀ t, RT g w (slotL k t) (((ps.zip vs).foldl (fun (tmps : Array Value) (q : Nat × Value) => tmps.setIfInBounds q.1 q.2) tmps).getD t undef) (get t (envR ps args e))
 | [], args, vs, e, tmps, h1, h2, h3, h4, h5, h6 => by
  cases args with
  | nil => exact ⟨rfl, h6⟩
  | cons d r => simp at h1
 | p :: ps, args, vs, e, tmps, h1, h2, h3, h4, h5, h6 => by
  cases args with
  | nil => simp at h1
  | cons d r => cases vs with
   | nil => simp at h2
   | cons v vs =>
    obtain ⟨x, L', hx, hr⟩ := h5 0 d rfl
    simp at hx
    subst hx
    have htup : d.tupB = false := by simpa using (List.all_eq_true.1 h4 d (by simp))
    have hp := h3 p (by simp)
    obtain ⟨q1, q2⟩ := envR_ok (L := L) (k := k) (ps := ps) (args := r) (vs := vs) (e := (p, d.strip) :: e) (tmps := tmps.setIfInBounds p v) (by simpa using h1) (by simpa using h2) (fun p' hp' => by simp; exact h3 p' (by simp [hp'])) (by have h4' := h4; simp only [List.all_cons, Bool.and_eq_true] at h4'; exact h4'.2) (fun i d' hi => h5 (i + 1) d' (by simpa using hi)) (fun t => by
     rw [getD_set hp]
     simp only [get]
     by_cases e' : t = p
     ·rw [if_pos e', if_pos e', strip_ne htup]
      have := hr.strip (slotL k t 0)
      exact RV.toRT this
     ·rw [if_neg e', if_neg e']; exact h6 t)
    exact ⟨by rw [List.zip_cons_cons, List.foldl_cons, q1]; simp, fun t => by rw [List.zip_cons_cons, List.foldl_cons]; exact q2 t⟩
theorem envC_get {ks : List Nat} {caps : List D} (hl : ks.length = caps.length) (t : Nat) : get t (envC ks caps) = .u ∨ ∃ (c : Nat) (d : D), ks[c]? = some t ∧ caps[c]? = some d ∧ get t (envC ks caps) = d.strip := by
 induction ks generalizing caps with
 | nil => exact .inl rfl
 | cons q r ih => cases caps with
  | nil => simp at hl
  | cons d ds =>
   simp only [envC, get]
   by_cases e : t = q
   ·rw [if_pos e]; subst e; exact .inr ⟨0, d, rfl, rfl, rfl⟩
   ·rw [if_neg e]
    rcases ih (caps := ds) (by simpa using hl) with h | ⟨c, d', h1, h2, h3⟩
    ·exact .inl h
    ·exact .inr ⟨c + 1, d', by simpa using h1, by simpa using h2, h3⟩
theorem runR_good (hg : Good P call) {F : Fn} {ps : List Nat} {asg : Cd} {rid : Nat} (hm : MRd P rid F ps asg) {f b : Nat} {args : List D} {B B' : List Bx} {r : D} (he : runR call F ps asg rid f b args B = some (r, B')) :
  args.all (fun d => !d.tupB) = true ∧ ∀ g w l (vs : Array Value), Inv g w -> SB g w B -> g.bx f b = some l -> RL <= b -> vs.size = args.length -> (∀ (i : Nat) d, args[i]? = some d -> ∃ x, vs[i]? = some x ∧ RV g w (slotL B.length i 0) x d) ->
  ∃ q : Loop, w.heap[l]? = some (.loop q) ∧ q.params.size = args.length ∧ RoundIn (W none) 0 P l q.fn (foldTmps q.params vs q.tmps) q.assign q.body w (Post g w B B' r) := by
 unfold runR at he
 split at he
 ·rename_i rid0 ks caps hrec0
  split at he
  ·rename_i hc
   obtain ⟨hrid, hf, hlen, htup⟩ := hc
   subst hrid
   split at he
   ·rename_i s1 hasg
    split at he
    ·rename_i j1 rid1 ks1 caps1 hrec1
     split at he
     ·rename_i x s2 hbody
      split at he
      ·rename_i st2 jm2 rid2 ks2 caps2 hrec2
       injection he with he
       injection he with e1 e2
       refine ⟨htup, fun g w l vs hi hsb hl hRL hsz hargs => ?_⟩
       obtain ⟨pa, ca, cb, hro, hps, hlt, hma, hmb⟩ := hm
       have hsb0 : SB g w (⟨[], [], B⟩ : S).B := frame_sb hsb
       obtain ⟨l0, q, st0, j0, rid', ks', caps', y1, y2, y3, y4, y5, y6, y7, y8, y9⟩ := (hsb0.rel f b _ (bx_bxl hrec0)).r hRL
       rw [hl] at y1
       injection y1 with y1
       subst y1
       injection y3 with y3 y3'
       injection y3 with x1 x2 x3 x4
       subst x1 x2 x3 x4 y3'
       rw [hro] at y5
       injection y5 with y5
       injection y5 with z1 y5
       injection y5 with z2 y5
       injection y5 with z3 z4
       refine ⟨q, y2, ?_, ?_⟩
       ·rw [<- z2, <- Array.length_toList, hps, hlen]
       ·have hpz : foldTmps q.params vs q.tmps = (ps.zip vs.toList).foldl (fun (tmps : Array Value) (q : Nat × Value) => tmps.setIfInBounds q.1 q.2) q.tmps := by
         rw [<- z2]
         unfold foldTmps
         rw [<- Array.foldl_toList, Array.toList_zip, hps]
        have hE0 : ∀ t, RT g w (slotL B.length t) (q.tmps.getD t undef) (get t (envC ks caps)) := fun t => by
         rcases envC_get y8 t with h | ⟨c, d, h1, h2, h3⟩
         ·rw [h]; trivial
         ·rw [h3]
          have h4 := y9 c d t h2 h1
          have : RT g w (fun _ _ => boxL f b c) (q.tmps.getD t undef) d := RV.toRT (RC.toRV h4)
          exact this.strip _
        obtain ⟨hs1, hs2⟩ := envR_ok (L := fun _ => boxL 0 0 0) (k := B.length) (ps := ps) (args := args) (vs := vs.toList) (e := envC ks caps) (tmps := q.tmps) hlen (by simpa using hsz) (fun p hp => by rw [<- z1]; exact hlt p hp) htup (fun i d hi => by
         obtain ⟨x, h1, h2⟩ := hargs i d hi
         exact ⟨x, _, by simpa using h1, h2⟩) hE0
        rw [<- hpz] at hs1 hs2
        have hSN : SN g w F.nt (foldTmps q.params vs q.tmps) ⟨envR ps args (envC ks caps), [], B⟩ := ⟨⟨hi, frame_sb hsb, hs2⟩, by rw [hs1, <- z1]⟩
        have hRn : Rnd g (some l) B.length := fun l' hl' => by injection hl' with hl'; subst hl'; exact ⟨f, b, hf, hRL, hl⟩
        have key : ∀ (R : Ending -> World -> Prop), (∀ w3 v, Post g w B B' r (.returned v) w3 -> R (.returned v) w3) -> RoundIn (W none) 0 P l q.fn (foldTmps q.params vs q.tmps) q.assign q.body w R := by
         intro R hR
         refine roundIn_of_wpIn trivial ?_
         rw [<- z3, <- z4]
         refine code_ok (ro := some l) (a := { tmps := foldTmps q.params vs q.tmps, defers := [] }) hg hma hSN hRn hasg fun a1 w1 g1 k1 k2 k3 k4 => ?_
         have hk1 : s1.k = B.length := k3
         have hbx1 : g1.bx f b = some l := k2.bx f b _ hf hl
         obtain ⟨l1, q1, st1, j1', rid1', ks1', caps1', u1, u2, u3, u4, u5, u6, u7, u8, u9⟩ := (k1.st.sb.rel f b _ (bx_bxl hrec1)).r hRL
         rw [hbx1] at u1
         injection u1 with u1
         subst u1
         injection u3 with u3 u3'
         injection u3 with x1 x2 x3 x4
         subst x1 x2 x3 x4 u3'
         refine ⟨_, run_beginRound u2 u6, ?_⟩
         obtain ⟨m1, m2⟩ := wrec_ok (st' := 1) (j' := j1) k1 hRL hrec1 hbx1 u2 { q1 with state := .busy } ⟨rfl, rfl, rfl, rfl⟩ rfl u7
         have hk1' : (sbx f b (.rcd 1 j1 rid1 ks1 :: caps1) s1).k = B.length := (sbx_k ..).trans hk1
         refine code_ok (ro := some l) hg hmb m1 (by rw [hk1']; exact fun l' hl' => by injection hl' with hl'; subst hl'; exact ⟨f, b, hf, hRL, hbx1⟩) hbody fun a2 w2 g2 n1 n2 n3 n4 => ?_
         have hk2 : s2.k = B.length := n3.trans hk1'
         rw [hk1'] at n2
         have hbx2 : g2.bx f b = some l := n2.bx f b _ hf hbx1
         obtain ⟨l2, q2, st2', j2', rid2', ks2', caps2', t1, t2, t3, t4, t5, t6, t7, t8, t9⟩ := (n1.st.sb.rel f b _ (bx_bxl hrec2)).r hRL
         rw [hbx2] at t1
         injection t1 with t1
         subst t1
         injection t3 with t3 t3'
         injection t3 with x1 x2 x3 x4
         subst x1 x2 x3 x4 t3'
         have fin : ∀ (jump : Option Code), jump = jumpOf x.code -> (∃ v w', (Instr.endRound l jump).run P w2 = .ok v w' ∧ R (.returned v) w') := by
          intro jump hj
          refine ⟨_, _, run_endRound jump t2, hR _ _ ?_⟩
          obtain ⟨p1, p2⟩ := wrec_ok (st' := if x.code = 0 then 0 else 2) (j' := x.code) n1 hRL hrec2 hbx2 t2 { q2 with state := if jump.isNone then .ready else .done, pending := jump } ⟨rfl, rfl, rfl, rfl⟩ (by
           rw [hj]; cases x <;> rfl) hj
          generalize hs3 : sbx f b (.rcd (if x.code = 0 then 0 else 2) x.code rid2 ks2 :: caps2) s2 = s3 at p1 e2
          have hk3 : s3.o.length = B.length := by rw [<- hs3]; exact (sbx_k ..).trans hk2
          obtain ⟨f1, f2⟩ := frame_end (a := a2) p1 hk3
          refine ⟨.bool jump.isNone, g2.cut B.length [], rfl, f1, by rw [<- e2]; exact f2, by rw [<- e2]; exact hk3, ?_, ?_⟩
          ·exact (((show Ext B.length g w g1 w1 from k2).trans (m2 _)).trans n2).trans ((p2 _).trans G.cut_ext)
          ·rw [<- e1, hj]
           cases x <;> rfl
         cases x with
         | nm => exact fin none rfl
         | rt => exact fin (some .ret) rfl
         | ex id => exact fin (some (.exit id)) rfl
        refine key _ fun w3 v h => h
      ·cases he
     ·cases he
    ·cases he
   ·cases he
  ·cases he
 ·cases he
theorem runF_good {prog : Nat -> Option Fn} (hp : MProg P prog) (hg : Good P call) : Good P (runF prog call) := by
 intro f ds B r B' he
 unfold runF at he
 split at he
 ·cases he
 ·rename_i F hF
  have hpf := hp f F hF
  split at he
  ·rename_i hrnd
   rw [hrnd] at hpf
   obtain ⟨hlt, fn, hfn, hm⟩ := hpf
   refine ⟨fun _ => ?_, fun h => by omega⟩
   rcases hm with hm | hm
   rotate_left
   ·obtain ⟨nt, z, rfl, hd⟩ := hm.del
    simp only at he
    split at he
    ·rename_i hc
     refine ⟨hc.2, ⟨fn, hfn, hm.nr, hm.bd⟩, fun g w vs hi hsb hsz hargs => ?_⟩
     simp only [evC] at he
     split at he
     ·cases he
     ·rename_i x s1 hne h1
      split at h1
      ·rename_i z' xs i j henv
       split at h1
       ·rename_i hq
        obtain ⟨rfl, q0, q1, q2⟩ := hq
        injection h1 with h1
        injection h1 with h1 h2
        subst h1 h2
        have hds : ds = [.sl .mu z xs, .v (.int .i64 i), .v (.int .i64 j)] := by
         rcases ds with _ | ⟨d0, _ | ⟨d1, _ | ⟨d2, _ | ⟨d3, ds⟩⟩⟩⟩ <;> simp [argE] at henv
         obtain ⟨rfl, rfl, rfl⟩ := henv
         rfl
        subst hds
        have hr : some (D.sl .mu z (xs.take i.toNat ++ xs.drop j.toNat), B) = some (r, B') := he
        injection hr with hr
        injection hr with e1 e2
        subst e1 e2
        obtain ⟨x0, a1, a2⟩ := hargs 0 _ rfl
        obtain ⟨x1, b1, b2⟩ := hargs 1 _ rfl
        obtain ⟨x2, c1, c2⟩ := hargs 2 _ rfl
        have hb2 : x1 = .int .i64 i := b2
        have hc2 : x2 = .int .i64 j := c2
        subst hb2 hc2
        have hvs : vs = #[x0, .int .i64 i, .int .i64 j] := by
         refine Array.ext_getElem? fun k => ?_
         match k with
         | 0 => exact a1
         | 1 => exact b1
         | 2 => exact c1
         | k + 3 =>
          have h9 : vs.size = 3 := hsz
          rw [Array.getElem?_eq_none (by omega), Array.getElem?_eq_none (by simp)]
        subst hvs
        exact del_good hd q0 q1 q2 hi hsb a2
       ·cases h1
      ·cases h1
     ·cases he
    ·cases he
   obtain ⟨c, hbody, hcode⟩ := hm.body
   split at he
   ·rename_i hc
    refine ⟨hc.2, ⟨fn, hfn, hm.nr, by rw [hbody]; rfl⟩, fun g w vs hi hsb hsz hargs => ?_⟩
    have fin : ∀ (x : Ex) (s1 : S), evC call F.body ⟨argE 0 ds, [], B⟩ = some (x, s1) -> (x = .nm ∨ x = .rt) ->
      ((resL call F.res s1).bind fun a => let ds := a.1.map (D.frz2 B.length a.2.l); if ds.all (D.bnd2 B.length) then some (if F.keep then mkRes ds else (mkRes ds).strip, a.2.o) else none) = some (r, B') -> CallsIn (W none) 0 P f vs w (Post g w B B' r) := by
     intro x s1 h1 hx he
     obtain ⟨p, h2, h3⟩ := Option.bind_eq_some_iff.1 he
     obtain ⟨ds', s2⟩ := p
     simp only at h3
     split at h3
     ·rename_i hb
      injection h3 with h3
      injection h3 with e1 e2
      have hk0 : (⟨argE 0 ds, [], B⟩ : S).k = B.length := rfl
      refine callsIn_of_wp_marks hfn hbody trivial (code_ok (ro := none) (a := { tmps := vs ++ Array.replicate (fn.ntmps - vs.size) undef, defers := [] }) (g := g) hg hcode ⟨⟨hi, frame_sb hsb, fun t => ?_⟩, ?_⟩ (fun l hl => by cases hl) h1 fun a' w' g' q1 q2 q3 q4 => ?_)
      ·show RT g w (slotL B.length t) _ (get t (argE 0 ds))
       rw [argE_get]
       simp only [Nat.zero_le, if_true, Nat.sub_zero]
       cases hd : ds[t]? with
       | none => exact trivial
       | some d =>
        obtain ⟨x, r1, r2⟩ := hargs t d hd
        have hxt : (vs ++ Array.replicate (fn.ntmps - vs.size) undef).getD t undef = x := by
         have hlt : t < vs.size := by rw [hsz]; exact getq_lt hd
         rw [Array.getD_eq_getD_getElem?, Array.getElem?_append_left hlt, r1]; rfl
        rw [hxt]
        exact r2.toRT
      ·have h9 := hc.1
       have h10 := hm.nt
       simp; omega
      ·-- the results
       obtain ⟨m, hm1, hnd, hmm⟩ := q4
       rw [List.append_nil] at hm1
       have hl : LeavesInM (W none) 0 P fn a'.tmps (Post g w B B' r) a'.defers .returning w' := by
        rw [hm1]
        refine leaves_ok (k := B.length) (g0 := g) (w0 := w) m q1 hnd hmm q2 fun g3 w3 z1 z2 => ?_
        have hnt : ∀ d ∈ ds', d.tupB = false := fun d hd => by
         have := List.all_eq_true.1 hb _ (List.mem_map.2 ⟨d, hd, rfl⟩)
         cases d with
         | tup es => cases this
         | _ => rfl
        obtain ⟨v, g2, r1, r2, r3, r4, r5⟩ := results_ok (fn := fn) (a := a') hm.res z1 h2 hnt
        have hk2 : s2.o.length = B.length := by have : s2.k = B.length := r5.trans (q3.trans hk0); exact this
        refine ⟨v, r1, ?_⟩
        obtain ⟨f1, f2, f3, f4⟩ := frame_frz (a := a') r2 hk2
        refine ⟨v, g2.frz B.length s2.l, rfl, f1, by rw [<- e2]; exact f2, by rw [<- e2]; exact hk2, (z2.trans (by rw [q3] at r4; exact r4)).trans f3, ?_⟩
        have h11 := RT.frz (a := a') r2 hk2 r3 hnt hb
        cases hkeep : F.keep with
        | true => rw [hkeep] at e1; simp only [if_true] at e1; rw [<- e1]; exact h11
        | false => rw [hkeep] at e1; simp only [Bool.false_eq_true, if_false] at e1; rw [<- e1]; exact h11.strip _
       rcases hx with rfl | rfl
       ·exact hl
       ·exact hl
     ·cases h3
    split at he
    ·cases he
    ·rename_i x s1 hne h1
     exact fin x s1 h1 (by cases x with | nm => exact .inl rfl | rt => exact .inr rfl | ex id => exact (hne id rfl).elim) he
    ·cases he
   ·cases he
  ·rename_i ps asg hrnd
   rw [hrnd] at hpf
   obtain ⟨hge, hm⟩ := hpf
   split at he
   ·rename_i f0 b0 args
    refine ⟨fun h => by omega, fun _ f1 b1 args1 hds => ?_⟩
    injection hds with h1 h2
    injection h1 with h1 h3
    subst h1 h2 h3
    exact runR_good hg hm he
   ·cases he
end
theorem EF_good {prog : Nat -> Option Fn} (hp : MProg P prog) : Good P (EF prog) := by
 have key : ∀ f ds B r, EFr prog f ds B r -> ∀ c : Caller, (∀ f' ds' B' r', c f' ds' B' = some r' -> f' = f ∧ ds' = ds ∧ B' = B ∧ r' = r) -> Good P c := by
  intro f ds B r h
  induction h with
  | @mk f ds B r c hc he ih =>
   have hg : Good P c := fun f1 ds1 B1 r1 B1' h1 => by
    classical
    exact ih f1 ds1 B1 (r1, B1') h1 (fun f' ds' B' => if f' = f1 ∧ ds' = ds1 ∧ B' = B1 then some (r1, B1') else none) (fun f' ds' B' r' h' => by
     split at h'
     ·rename_i e; injection h' with h'; exact ⟨e.1, e.2.1, e.2.2, h'.symm⟩
     ·cases h') f1 ds1 B1 r1 B1' (by simp)
   intro c' hc' f1 ds1 B1 r1 B1' h1
   obtain ⟨rfl, rfl, rfl, rfl⟩ := hc' _ _ _ _ h1
   exact runF_good hp hg _ _ _ _ _ he
 intro f ds B r B' he
 classical
 exact key f ds B (r, B') (EF_r he) (fun f' ds' B1 => if f' = f ∧ ds' = ds ∧ B1 = B then some (r, B') else none) (fun f' ds' B1 r' h' => by
  split at h'
  ·rename_i e; injection h' with h'; exact ⟨e.1, e.2.1, e.2.2, h'.symm⟩
  ·cases h') f ds B r B' (by simp)
end Go.Proofs.Ytlhjdikklmkihaa.Ev
