/- Operations that change nothing but their slot, over typed values. Conditions: none. -/
import Derived.Test.YtlhjdikklmkihaaU2
import Derived.Laws.Strings
set_option linter.all false
namespace Go.Proofs.Ytlhjdikklmkihaa.Ev.U
open Go
theorem wrap_in (k : IntKind) (n : Int) : inK k (k.wrap n) = true := by
 cases k <;> simp only [inK, IntKind.wrap, IntKind.bits, IntKind.signed] <;> simp <;> omega
theorem inK_lo {k : IntKind} {a b : Int} (h : inK k a = true) (hb : (0 <= a -> 0 <= b ∧ b <= a) ∧ (a < 0 -> a <= b ∧ b <= 0)) : inK k b = true := by
 cases k <;> simp only [inK, decide_eq_true_eq] at h ⊢ <;> omega
theorem tmod_in {k : IntKind} {a b : Int} (h : inK k a = true) : inK k (a.tmod b) = true := by
 refine inK_lo h ⟨fun ha => ?_, fun ha => ?_⟩
 ·have h1 := Int.tmod_nonneg b ha
  have h2 : (a.tmod b).natAbs <= a.natAbs := by rw [Int.natAbs_tmod]; exact Nat.mod_le _ _
  omega
 ·have h1 : 0 <= (-a).tmod b := Int.tmod_nonneg b (by omega)
  rw [Int.neg_tmod] at h1
  have h2 : (a.tmod b).natAbs <= a.natAbs := by rw [Int.natAbs_tmod]; exact Nat.mod_le _ _
  omega
theorem fdiv_in {k : IntKind} {a b : Int} (h : inK k a = true) (hb : 1 <= b) : inK k (a.fdiv b) = true := by
 rw [Int.fdiv_eq_ediv_of_nonneg _ (by omega)]
 refine inK_lo h ⟨fun ha => ?_, fun ha => ?_⟩
 ·exact ⟨Int.ediv_nonneg ha (by omega), Int.ediv_le_self _ ha⟩
 ·constructor
  ·have : a * b <= a := by
    have := Int.mul_le_mul_of_nonpos_left (a := a) (show a <= 0 by omega) hb
    omega
   exact Int.le_ediv_of_mul_le (by omega) this
  ·exact Int.ediv_nonpos_of_nonpos_of_neg (by omega) (by omega)
theorem nat_in (n : Nat) (h : n <= 9223372036854775807) : inK .i64 (n : Int) = true := by simp only [inK, decide_eq_true_eq]; omega
theorem one_g {r : Ty} : (Ty.g r).one = false := rfl
section
variable {c : Cx}
theorem Rep5_of {e : Env} {w : W} {d : D} (h : Rep4 c w d) : Rep5 c e w d := by
 cases w with
 | gd => exact False.elim (by simpa [Rep4, Rep3, Rep2, Rep1, Rep0] using h)
 | _ => exact h
theorem Rep4_gd {p : Path} {b : Bool} {w : W} {d : D} : ¬ Rep4 c (.gd p b w) d := by simp [Rep4, Rep3, Rep2, Rep1, Rep0]
theorem Rep4_un {d : D} : Rep4 c .un d := trivial
theorem Rep3_un {d : D} : Rep3 c .un d := trivial
theorem Rep2_un {d : D} : Rep2 c .un d := trivial
theorem Rep4_u {τ : Ty} {x : τ.T} {d : D} (h : Rep4 c (.u τ x) d) : τ.one = true ∧ RepL c.P τ c.F x [d] := h
theorem to4 {w : W} {d : D} (h : Rep3 c w d) : Rep4 c w d := by
 cases w with
 | tp => exact False.elim (by simpa [Rep3, Rep2, Rep1, Rep0] using h)
 | _ => exact h
theorem to3 {w : W} {d : D} (h : Rep2 c w d) : Rep3 c w d := by
 cases w with
 | ag => exact False.elim (by simpa [Rep2, Rep1, Rep0] using h)
 | _ => exact h
theorem to2 {w : W} {d : D} (h : Rep1 c w d) : Rep2 c w d := by
 cases w with
 | clo => exact False.elim (by simpa [Rep1, Rep0] using h)
 | _ => exact h
theorem to1 {w : W} {d : D} (h : Rep0 c w d) : Rep1 c w d := by
 cases w with
 | fp => exact False.elim (by simpa [Rep0] using h)
 | _ => exact h
theorem to4x2 {w : W} {d : D} (h : Rep2 c w d) : Rep4 c w d := to4 (to3 h)
theorem l_d {m : Mode} {t : Ty} {F : List Fx} {P : Caller} {x : List t.T} {d : D} (h : RepL P (.l m t) F x [d]) : x.length <= maxLn ∧ ∃ es, All2 (fun y e => RepL P t F y [e]) x es ∧ (d = .sl m (csz t) es ∨ (es = [] ∧ ∃ z, d = .sl .nl z [])) := by
 obtain ⟨hl, es, h1, h2⟩ := h
 refine ⟨hl, es, h1, ?_⟩
 rcases h2 with h2 | ⟨h2, z, h3⟩
 ·injection h2 with h2; exact .inl h2
 ·injection h3 with h3; exact .inr ⟨h2, z, h3⟩
theorem i_d {k : IntKind} {F : List Fx} {P : Caller} {x : Int} {d : D} (h : RepL P (.i k) F x [d]) : d = .v (.int k x) ∧ inK k x = true := by
 obtain ⟨h1, h2⟩ := h
 injection h1 with h1
 exact ⟨h1, h2⟩
theorem b_d {F : List Fx} {P : Caller} {x : Bool} {d : D} (h : RepL P .b F x [d]) : d = .v (.bool x) := by injection h with h
theorem s_d {F : List Fx} {P : Caller} {x : List Int} {d : D} (h : RepL P .s F x [d]) : d = .v (.string (strV x)) ∧ x.length <= maxLn ∧ ∀ q : Int, q ∈ x -> 0 <= q ∧ q < 256 := by
 obtain ⟨h1, h2⟩ := h
 injection h1 with h1
 exact ⟨h1, h2⟩
theorem cl_d {f : Nat} {r : Ty} {F : List Fx} {P : Caller} {x : r.T} {d : D} (h : RepL P (.cl f r) F x [d]) : r.rowk = true ∧ ∃ cs, d = .clo f [.fptr cs 0] ∧ RepL P r F x cs := by
 obtain ⟨h0, cs, h1, h2⟩ := h
 injection h1 with h1
 exact ⟨h0, cs, h1, h2⟩
theorem fn_d {a r : Ty} {F : List Fx} {P : Caller} {φ : a.T -> Option r.T} {d : D} (h : RepL P (.fn a r) F φ [d]) : ∃ f caps, d = .clo f caps ∧ (∀ d ∈ caps, capD F d) ∧ ∀ (x : a.T) ak, RepL P a [] x ak -> ∀ y : r.T, φ x = some y -> ∀ n, (∀ x ∈ F, x.f < n) -> ∃ d q, resD r d q ∧ RepL P r [] y q ∧ ∀ B : List Bx, B.length = n -> Sat F B -> P f (ak ++ caps) B = some (d, B) := by
 obtain ⟨f, caps, h1, h2⟩ := h
 injection h1 with h1
 exact ⟨f, caps, h1, h2⟩
structure Flat (d : D) : Prop where
 bnd : ∀ k, d.bnd1 k = true
 sto : d.sto1 = true
 cells : d.cells = [d]
 agg : d.aggB = false
 tup : d.tupB = false
 inn : ∀ k bs, d.in1 k bs = true
 frz : ∀ k l, d.frz1 k l = d
theorem flat_v {x : Value} (h : x.oneCell' = true) : Flat (.v x) := ⟨fun _ => rfl, h, rfl, rfl, rfl, fun _ _ => rfl, fun _ _ => rfl⟩
theorem flat_sl {m : Mode} {z : Nat} {xs : List D} : Flat (.sl m z xs) := ⟨fun _ => rfl, rfl, rfl, rfl, rfl, fun _ _ => rfl, fun _ _ => rfl⟩
theorem flat_u {τ : Ty} {x : τ.T} {F : List Fx} {P : Caller} {d : D} (h : RepL P τ F x [d]) (hs : uSto τ = true) : Flat d := by
 cases τ with
 | i k => rw [(i_d h).1]; exact flat_v rfl
 | b => rw [b_d h]; exact flat_v rfl
 | s => rw [(s_d h).1]; exact flat_v rfl
 | l m t =>
  obtain ⟨hl, es, h1, h2⟩ := l_d h
  rcases h2 with rfl | ⟨_, z, rfl⟩ <;> exact flat_sl
 | _ => cases hs
theorem caps_b {ws : List W} {cs : List D} (hc : c.ok) (h : All2 (Rep1 c) ws cs) (hw : ws.all capW = true) : (cs.all fun | .ptr f _ _ => decide (f < c.n + 1) | .v _ => true | .fptr _ _ => true | _ => false) = true := by
 refine All2.all_r (fun w d hm h => ?_) h
 have hm := List.all_eq_true.1 hw w hm
 cases w with
 | pt b off => cases b with
  | own b => rw [show d = .ptr c.n b off from h]; simp
  | ext i =>
   obtain ⟨r, h1, h2⟩ := h
   rw [h2]
   have := hc.lt r (List.mem_of_getElem? h1)
   simp; omega
 | fp ws off => obtain ⟨q, h1, h2⟩ := h; rw [h1]
 | u τ x => cases τ with
  | i k => rw [(i_d h.2).1]
  | b => rw [b_d h.2]
  | s => rw [(s_d h.2).1]
  | _ => cases hm
 | _ => cases hm
theorem sto_ok (hc : c.ok) {w : W} {d : D} (h : Rep2 c w d) (hw : w.sto = true) : d.bnd1 (c.n + 1) = true ∧ d.sto1 = true ∧ d.cells = [d] ∧ d.aggB = false ∧ d.tupB = false := by
 cases w with
 | u τ x => have q := flat_u h.2 hw; exact ⟨q.bnd _, q.sto, q.cells, q.agg, q.tup⟩
 | nil => obtain ⟨z, rfl⟩ := h; exact ⟨rfl, rfl, rfl, rfl, rfl⟩
 | np => rw [show d = .v (.pointer none) from h]; exact ⟨rfl, rfl, rfl, rfl, rfl⟩
 | pt b off => cases b with
  | own b => rw [show d = .ptr c.n b off from h]; exact ⟨by simp [D.bnd1], rfl, rfl, rfl, rfl⟩
  | ext i =>
   obtain ⟨r, h1, h2⟩ := h
   rw [h2]
   have := hc.lt r (List.mem_of_getElem? h1)
   exact ⟨by simp [D.bnd1]; omega, rfl, rfl, rfl, rfl⟩
 | fp ws off => obtain ⟨q, h1, h2⟩ := h; rw [h1]; exact ⟨rfl, rfl, rfl, rfl, rfl⟩
 | clo f ws => obtain ⟨q, h1, h2, h3⟩ := h; rw [h1]; exact ⟨caps_b hc h2 h3, rfl, rfl, rfl, rfl⟩
 | rs b τ lo n =>
  obtain ⟨h0, rfl | ⟨h1, z, rfl⟩⟩ := h
  ·exact ⟨by simp [D.bnd1], rfl, rfl, rfl, rfl⟩
  ·exact ⟨rfl, rfl, rfl, rfl, rfl⟩
 | ep b τ i off => obtain ⟨h0, rfl⟩ := h; exact ⟨by simp [D.bnd1], rfl, rfl, rfl, rfl⟩
 | _ => cases hw
theorem strip_u {τ : Ty} {x : τ.T} {d : D} (h1 : τ.one = true) (h : RepL c.P τ c.F x [d]) : Rep0 c (uStrip τ x) d.strip1 := by
 cases τ with
 | i k => obtain ⟨rfl, h2⟩ := i_d h; exact ⟨rfl, rfl, h2⟩
 | b => obtain rfl := b_d h; exact ⟨rfl, rfl⟩
 | s => obtain ⟨rfl, h2⟩ := s_d h; exact ⟨rfl, rfl, h2⟩
 | l m t =>
  obtain ⟨hl, es, h3, h2⟩ := l_d h
  cases m with
  | app =>
   rcases h2 with rfl | ⟨rfl, z, rfl⟩
   ·exact ⟨rfl, hl, es, h3, .inl rfl⟩
   ·exact ⟨rfl, hl, [], h3, .inr ⟨rfl, z, rfl⟩⟩
  | mu => exact trivial
  | ro =>
   rcases h2 with rfl | ⟨rfl, z, rfl⟩
   ·exact ⟨rfl, hl, es, h3, .inl rfl⟩
   ·exact ⟨rfl, hl, [], h3, .inr ⟨rfl, z, rfl⟩⟩
  | nl =>
   rcases h2 with rfl | ⟨rfl, z, rfl⟩
   ·exact ⟨rfl, hl, es, h3, .inl rfl⟩
   ·exact ⟨rfl, hl, [], h3, .inr ⟨rfl, z, rfl⟩⟩
 | fn a r =>
  obtain ⟨f, caps, rfl, h3⟩ := fn_d h
  exact ⟨rfl, f, caps, rfl, h3⟩
 | cl f r =>
  obtain ⟨h0, cs, rfl, h3⟩ := cl_d h
  exact ⟨rfl, h0, cs, rfl, h3⟩
 | _ => cases h1
theorem strip1_ok {w : W} {d : D} (h : Rep2 c w d) : Rep2 c w.strip1 d.strip1 := by
 cases w with
 | u τ x => exact to2 (to1 (strip_u h.1 h.2))
 | nil => obtain ⟨z, rfl⟩ := h; exact ⟨z, rfl⟩
 | np => rw [show d = .v (.pointer none) from h]; exact rfl
 | un => trivial
 | pt b off => cases b with
  | own b => rw [show d = .ptr c.n b off from h]; exact rfl
  | ext i => obtain ⟨r, h1, h2⟩ := h; rw [h2]; exact ⟨r, h1, rfl⟩
 | fp ws off => obtain ⟨q, rfl, h2⟩ := h; exact ⟨q, rfl, h2⟩
 | clo f ws => obtain ⟨q, rfl, h2⟩ := h; exact ⟨q, rfl, h2⟩
 | ag => trivial
 | tp => trivial
 | gd => trivial
 | lb => exact False.elim (by simpa [Rep2, Rep1, Rep0] using h)
 | rs b τ lo n =>
  obtain ⟨h0, rfl | ⟨h1, z, rfl⟩⟩ := h
  ·exact ⟨h0, .inl rfl⟩
  ·exact ⟨h0, .inr ⟨h1, z, rfl⟩⟩
 | ep b τ i off => obtain ⟨h0, rfl⟩ := h; exact ⟨h0, rfl⟩
theorem ag_d {d : D} {w : W} (h : Rep2 c w d) (hw : ∀ ws, w ≠ .ag ws) : w = .un ∨ w = .tp [] ∨ d.aggB = false := by
 cases w with
 | u τ x =>
  refine .inr (.inr ?_)
  have h1 := h.1
  have h := h.2
  cases τ with
  | i k => rw [(i_d h).1]; rfl
  | b => rw [b_d h]; rfl
  | s => rw [(s_d h).1]; rfl
  | l m t => obtain ⟨hl, es, h3, h2⟩ := l_d h; rcases h2 with rfl | ⟨_, z, rfl⟩ <;> rfl
  | fn a r => obtain ⟨f, caps, rfl, h3⟩ := fn_d h; rfl
  | cl f r => obtain ⟨h0, cs, rfl, h3⟩ := cl_d h; rfl
  | _ => cases h1
 | nil => obtain ⟨z, rfl⟩ := h; exact .inr (.inr rfl)
 | np => rw [show d = .v (.pointer none) from h]; exact .inr (.inr rfl)
 | un => exact .inl rfl
 | pt b off => cases b with
  | own b => rw [show d = .ptr c.n b off from h]; exact .inr (.inr rfl)
  | ext i => obtain ⟨r, h1, h2⟩ := h; rw [h2]; exact .inr (.inr rfl)
 | fp ws off => obtain ⟨q, rfl, h2⟩ := h; exact .inr (.inr rfl)
 | clo f ws => obtain ⟨q, rfl, h2⟩ := h; exact .inr (.inr rfl)
 | ag ws => exact absurd rfl (hw ws)
 | tp => exact False.elim (by simpa [Rep2, Rep1, Rep0] using h)
 | gd => exact False.elim (by simpa [Rep2, Rep1, Rep0] using h)
 | lb => exact False.elim (by simpa [Rep2, Rep1, Rep0] using h)
 | rs b τ lo n => obtain ⟨h0, rfl | ⟨h1, z, rfl⟩⟩ := h <;> exact .inr (.inr rfl)
 | ep b τ i off => obtain ⟨h0, rfl⟩ := h; exact .inr (.inr rfl)
theorem D.strip2_na {d : D} (h : d.aggB = false) : d.strip2 = d.strip1 := by cases d <;> first | rfl | cases h
theorem D.cells_na {d : D} (h : d.aggB = false) : d.cells = [d] := by cases d <;> first | rfl | cases h
theorem of3 {w : W} {d : D} (h : Rep3 c w d) (hw : ∀ ws, w ≠ .ag ws) : Rep2 c w d := by
 cases w with
 | ag ws => exact absurd rfl (hw ws)
 | _ => exact h
theorem of4 {w : W} {d : D} (h : Rep4 c w d) (hw : ∀ ws, w ≠ .tp ws) : Rep3 c w d := by
 cases w with
 | tp ws => exact absurd rfl (hw ws)
 | _ => exact h
theorem strip2_ok {w : W} {d : D} (h : Rep3 c w d) : Rep3 c w.strip2 d.strip2 := by
 cases w with
 | ag ws =>
  obtain ⟨cs, rfl, h2⟩ := h
  exact ⟨_, rfl, h2.map fun w d _ q => strip1_ok q⟩
 | un => trivial
 | tp => exact False.elim (by simpa [Rep3, Rep2, Rep1, Rep0] using h)
 | gd => exact False.elim (by simpa [Rep3, Rep2, Rep1, Rep0] using h)
 | _ =>
  have h' := of3 h (fun ws q => by cases q)
  rcases ag_d h' (fun ws q => by cases q) with q | q | q
  ·cases q
  ·cases q
  ·rw [D.strip2_na q]; exact to3 (strip1_ok h')
theorem D.strip_nt {d : D} (h : d.tupB = false) : d.strip = d.strip2 := by cases d <;> first | rfl | cases h
theorem tup_d {d : D} {w : W} (h : Rep3 c w d) : w = .un ∨ d.tupB = false := by
 cases w with
 | ag ws => obtain ⟨cs, rfl, h2⟩ := h; exact .inr rfl
 | u τ x =>
  refine .inr ?_
  have h1 := h.1
  have h := h.2
  cases τ with
  | i k => rw [(i_d h).1]; rfl
  | b => rw [b_d h]; rfl
  | s => rw [(s_d h).1]; rfl
  | l m t => obtain ⟨hl, es, h3, h2⟩ := l_d h; rcases h2 with rfl | ⟨_, z, rfl⟩ <;> rfl
  | fn a r => obtain ⟨f, caps, rfl, h3⟩ := fn_d h; rfl
  | cl f r => obtain ⟨h0, cs, rfl, h3⟩ := cl_d h; rfl
  | _ => cases h1
 | nil => obtain ⟨z, rfl⟩ := h; exact .inr rfl
 | np => rw [show d = .v (.pointer none) from h]; exact .inr rfl
 | un => exact .inl rfl
 | pt b off => cases b with
  | own b => rw [show d = .ptr c.n b off from h]; exact .inr rfl
  | ext i => obtain ⟨r, h1, h2⟩ := h; rw [h2]; exact .inr rfl
 | fp ws off => obtain ⟨q, rfl, h2⟩ := h; exact .inr rfl
 | clo f ws => obtain ⟨q, rfl, h2⟩ := h; exact .inr rfl
 | tp => exact False.elim (by simpa [Rep3, Rep2, Rep1, Rep0] using h)
 | gd => exact False.elim (by simpa [Rep3, Rep2, Rep1, Rep0] using h)
 | lb => exact False.elim (by simpa [Rep3, Rep2, Rep1, Rep0] using h)
 | rs b τ lo n => obtain ⟨h0, rfl | ⟨h1, z, rfl⟩⟩ := h <;> exact .inr rfl
 | ep b τ i off => obtain ⟨h0, rfl⟩ := h; exact .inr rfl
theorem strip_ok {w : W} {d : D} (h : Rep4 c w d) : Rep4 c w.strip d.strip := by
 cases w with
 | tp ws =>
  obtain ⟨cs, rfl, h2⟩ := h
  exact ⟨_, rfl, h2.map fun w d _ q => strip2_ok q⟩
 | un => trivial
 | gd => exact False.elim (Rep4_gd h)
 | _ =>
  have h' := of4 h (fun ws q => by cases q)
  rcases tup_d h' with q | q
  ·cases q
  ·rw [D.strip_nt q]; exact to4 (strip2_ok h')
def rdE (e : Env) : Opd -> D
 | .t n => (get n e).strip
 | .m n => get n e
 | .c x => .v x
 | .cn => .sl .nl 0 []
 | .f n => .clo n []
theorem rd_fst (x : Opd) (e : Env) (l : Bx) (o : List Bx) : (rd x ⟨e, l, o⟩).1 = rdE e x := by cases x <;> rfl
def rdN (e : Env) : Opd -> Env
 | .m n => (n, (get n e).strip) :: e
 | _ => e
theorem rd_snd (x : Opd) (e : Env) (l : Bx) (o : List Bx) : (rd x ⟨e, l, o⟩).2 = ⟨rdN e x, l, o⟩ := by cases x <;> rfl
theorem nbeq {a b : Nat} : Nat.beq a b = true ↔ a = b := ⟨Nat.eq_of_beq_eq_true, fun h => by subst h; exact Nat.beq_refl a⟩
theorem nbeq_f {a b : Nat} (h : a ≠ b) : Nat.beq a b = false := by
 cases q : Nat.beq a b with
 | false => rfl
 | true => exact absurd (nbeq.1 q) h
theorem getW_clr (t : Nat) {t' : Nat} : ∀ {e : List (Nat × W)}, getW t' (clr t e) = match getW t' e with
  | .gd q b w => bif namesP t q then .un else .gd q b w
  | w => w
 | [] => rfl
 | (n, w) :: r => by
  have ih := getW_clr t (t' := t') (e := r)
  cases hq : Nat.beq t' n with
  | true =>
   cases w with
   | gd q b w => simp only [clr, List.map_cons, getW, hq]; cases hn : namesP t q <;> simp only [cond_true, cond_false, getW, hq, hn]
   | _ => simp only [clr, List.map_cons, getW, hq, cond_true]
  | false =>
   cases w with
   | gd q b w =>
    simp only [clr, List.map_cons, getW, hq] at ih ⊢
    cases namesP t q <;> (simp only [cond_true, cond_false, getW, hq]; exact ih)
   | _ => simp only [clr, List.map_cons, getW, hq, cond_false] at ih ⊢; exact ih
theorem get_put {t t' : Nat} {d : D} {e : Env} : get t' ((t, d) :: e) = if t' = t then d else get t' e := rfl
theorem namesP_no {t : Nat} {q : Path} (h : namesP t q = false) : ∀ x ∈ q, x.1 ≠ t := fun x hx e => by
 have := List.any_eq_false.1 h x hx
 rw [e] at this
 exact this (Nat.beq_refl t)
theorem act_put {t : Nat} {d : D} {e : Env} {q : Path} (h : namesP t q = false) : act q ((t, d) :: e) ↔ act q e := by
 constructor
 ·intro a x hx
  have := a x hx
  rwa [get_put, if_neg (namesP_no h x hx)] at this
 ·intro a x hx
  rw [get_put, if_neg (namesP_no h x hx)]
  exact a x hx
theorem env_put {t : Nat} {w : W} {d : D} {es : List (Nat × W)} {e : Env} (h : ∀ t, Rep5 c e (getW t es) (get t e)) (hw : Rep5 c ((t, d) :: e) w d) : ∀ n, Rep5 c ((t, d) :: e) (getW n ((t, w) :: clr t es)) (get n ((t, d) :: e)) := by
 intro n
 rw [get_put]
 by_cases hn : n = t
 ·subst hn
  simp only [getW, Nat.beq_refl, cond_true, if_true]
  exact hw
 ·simp only [getW, nbeq_f hn, cond_false, if_neg hn]
  rw [getW_clr]
  have hx := h n
  split
  ·rename_i q b y hq
   rw [hq] at hx
   cases hp : namesP t q with
   | true => exact trivial
   | false =>
    obtain ⟨h1, h2, h3⟩ := hx
    rw [cond_false]
    exact ⟨h1.trans (act_put hp).symm, fun a => h2 ((act_put hp).1 a), fun a => h3 fun b => a ((act_put hp).2 b)⟩
  ·rename_i y hy
   cases hg : getW n es with
   | gd q b z => exact absurd hg (hy q b z)
   | _ => rw [hg] at hx; exact hx
theorem RepS.put {s : SU} {e : Env} {l : Bx} {Y : List (List D)} (h : RepS c s e l Y) {t : Nat} {w : W} {d : D} (hw : Rep4 c w d) : RepS c (putW t w s) ((t, d) :: e) l Y :=
 ⟨env_put h.env (Rep5_of hw), h.box, h.nm, h.ext, h.wr, h.len, h.ro⟩
theorem RepS.putO {s : SU} {e : Env} {l : Bx} {Y : List (List D)} (h : RepS c s e l Y) {t : Option Nat} {w : W} {d : D} (hw : Rep4 c w d) : ∀ o, ∃ e', Ev.putO t d ⟨e, l, o⟩ = ⟨e', l, o⟩ ∧ RepS c (putWO t w s) e' l Y ∧ e' = (match t with | some t => (t, d) :: e | none => e) := by
 intro o
 cases t with
 | none => exact ⟨e, rfl, h, rfl⟩
 | some t => exact ⟨_, rfl, h.put hw, rfl⟩
theorem hasP_mem {x : Nat × Bool} : ∀ {p : Path}, hasP x p = true -> x ∈ p
 | [], h => by cases h
 | y :: r, h => by
  unfold hasP at h
  cases hq : (Nat.beq x.1 y.1 && (x.2 == y.2)) with
  | true =>
   simp only [Bool.and_eq_true, beq_iff_eq] at hq
   have : x = y := Prod.ext (nbeq.1 hq.1) hq.2
   simp [this]
  | false => rw [hq] at h; exact List.mem_cons_of_mem _ (hasP_mem h)
theorem act_sub {q p : Path} {e : Env} (h : subP q p = true) (hp : act p e) : act q e := fun x hx => hp x (hasP_mem (List.all_eq_true.1 h x hx))
theorem opn_ok {p : Path} {e : Env} {w : W} {d : D} (hp : act p e) (h : Rep5 c e w d) : Rep4 c (opn p w) d := by
 cases w with
 | gd q b w =>
  simp only [opn]
  cases hs : subP q p with
  | true => exact h.2.1 (act_sub hs hp)
  | false => exact trivial
 | _ => exact h
theorem act_nil (e : Env) : act [] e := fun x hx => by simp at hx
theorem strI_strV {s : ByteArray} : strV (strI s) = s := by
 cases s with
 | mk a =>
  unfold strV strI
  congr 1
  rw [List.map_map]
  have : (fun c : UInt8 => UInt8.ofNat c.toNat) = id := by funext c; simp
  have e : ((fun c : Int => UInt8.ofNat c.toNat) ∘ fun c : UInt8 => (c.toNat : Int)) = id := by funext c; simp
  rw [e, List.map_id]
theorem strI_range {s : ByteArray} : ∀ c : Int, List.Mem (α := Int) c (strI s) -> 0 <= c ∧ c < 256 := by
 intro c hc
 obtain ⟨b, _, rfl⟩ := List.mem_map.1 (show c ∈ strI s from hc)
 have := UInt8.toNat_lt b
 omega
theorem cW_ok (v : Value) : Rep2 c (cW v) (zc v) := by
 unfold cW
 split
 ·rename_i k n
  cases h : inK k n with
  | true => exact ⟨rfl, rfl, h⟩
  | false => exact trivial
 ·exact ⟨rfl, rfl⟩
 ·rename_i s
  cases hs : Nat.ble s.size 1000000 with
  | true => exact ⟨rfl, by rw [strI_strV]; rfl, (by
    have := Nat.le_of_ble_eq_true hs
    have e : (strI s).length = s.size := by simp [strI]
    rw [e]; unfold maxLn; omega), strI_range⟩
  | false => exact trivial
 ·exact ⟨0, rfl⟩
 ·exact rfl
 ·exact trivial
theorem cW_ok' (v : Value) (h : v ≠ .slice none 0 0) : Rep2 c (cW v) (.v v) := by
 have := cW_ok (c := c) v
 unfold zc at this
 split at this
 ·exact absurd rfl h
 ·exact this
theorem rdW_ok {p : Path} {s : SU} {e : Env} {l : Bx} {Y : List (List D)} (h : RepS c s e l Y) (hp : act p e) (x : Opd) : Rep4 c (rdW p x s).1 (rdE e x) := by
 cases x with
 | t n => exact strip_ok (opn_ok hp (h.env n))
 | m n => cases p with
  | nil => exact opn_ok hp (h.env n)
  | cons => exact trivial
 | c v =>
  by_cases hv : ∃ a n k, v = .slice a n k
  ·obtain ⟨a, n, k, rfl⟩ := hv; exact trivial
  ·have : (rdW p (.c v) s).1 = cW v := by
    cases v with
    | slice a n k => exact absurd ⟨a, n, k, rfl⟩ hv
    | _ => rfl
   rw [this]
   exact to4x2 (cW_ok' v fun e => hv ⟨none, 0, 0, e⟩)
 | cn => exact ⟨0, rfl⟩
 | f n => exact ⟨[], rfl, trivial, rfl⟩
theorem rdW_st {s : SU} {e : Env} {l : Bx} {Y : List (List D)} (h : RepS c s e l Y) (x : Opd) : RepS c (rdW [] x s).2 (rdN e x) l Y := by
 cases x with
 | m n => exact h.put (strip_ok (opn_ok (act_nil e) (h.env n)))
 | _ => exact h
theorem rdW_ot {p : Path} {s : SU} {x : Opd} (h : x.ot = true) : (rdW p x s).2 = s := by cases x <;> first | rfl | cases h
theorem rdN_ot {e : Env} {x : Opd} (h : x.ot = true) : rdN e x = e := by cases x <;> first | rfl | cases h
theorem rdsE_eq (e : Env) (l : Bx) (o : List Bx) : ∀ xs : List Opd, rds ⟨e, l, o⟩ xs = xs.map (rdE e)
 | [] => rfl
 | x :: r => by simp only [rds, List.map_cons, rd_fst, rdsE_eq e l o r]
theorem rdsW_ok {p : Path} {s : SU} {e : Env} {l : Bx} {Y : List (List D)} (h : RepS c s e l Y) (hp : act p e) : ∀ xs : List Opd, All2 (Rep4 c) (rdsW p s xs) (xs.map (rdE e))
 | [] => trivial
 | x :: r => ⟨rdW_ok h hp x, rdsW_ok h hp r⟩
theorem own_box {s : SU} {e : Env} {l : Bx} {Y : List (List D)} (h : RepS c s e l Y) {b : Nat} {ws : List W} (hb : (lkW b s.l).bind notLb = some ws) : lkW b s.l = some ws ∧ ∃ ds, lk b l = some ds ∧ All2 (Rep2 c) ws ds := by
 obtain ⟨ws0, h1, h2⟩ := Option.bind_eq_some_iff.1 hb
 obtain ⟨rfl, h3⟩ := (h.box b ws0 h1).all h2
 exact ⟨h1, h3⟩
end
end Go.Proofs.Ytlhjdikklmkihaa.Ev.U
namespace Go.Proofs.Ytlhjdikklmkihaa.Ev.U
open Go
section
variable {c : Cx}
theorem castT_eq {a b : Ty} {x : a.T} {y : b.T} (h : castT a b x = some y) : ∃ e : a = b, e ▸ x = y := by
 unfold castT at h
 split at h
 ·rename_i e; injection h with h; exact ⟨e, h⟩
 ·cases h
theorem nilT_ok {τ : Ty} {x : τ.T} (h : nilT τ = some x) {P : Caller} {F : List Fx} {z : Nat} : τ.one = true ∧ RepL P τ F x [.sl .nl z []] := by
 cases τ with
 | l m t => simp only [nilT] at h; injection h with h; subst h; exact ⟨rfl, Nat.zero_le _, [], trivial, .inr ⟨rfl, z, rfl⟩⟩
 | _ => cases h
theorem oneT_ok {τ : Ty} {w : W} {x : τ.T} {d : D} (h : oneT τ w = some x) (hr : Rep4 c w d) : τ.one = true ∧ RepL c.P τ c.F x [d] := by
 cases w with
 | u τ' y =>
  obtain ⟨e, h⟩ := castT_eq h
  subst e
  subst h
  exact hr
 | nil => obtain ⟨z, rfl⟩ := hr; exact nilT_ok h
 | _ => cases h
theorem p_l {P : Caller} {a r : Ty} {F : List Fx} {x : (Ty.p a r).T} {ds : List D} (h : RepL P (.p a r) F x ds) : (a.one = true ∧ r.rowk = true) ∧ ∃ d q, ds = d :: q ∧ RepL P a F x.1 [d] ∧ RepL P r F x.2 q := h
theorem one_sing {P : Caller} {τ : Ty} {F : List Fx} {x : τ.T} {ds : List D} (h1 : τ.one = true) (h : RepL P τ F x ds) : ∃ d, ds = [d] := by
 cases τ with
 | i k => exact ⟨_, h.1⟩
 | b => exact ⟨_, h⟩
 | s => exact ⟨_, h.1⟩
 | l m t => obtain ⟨_, es, _, h2 | ⟨_, z, h2⟩⟩ := h <;> exact ⟨_, h2⟩
 | fn a r => obtain ⟨f, cs, h2, _⟩ := h; exact ⟨_, h2⟩
 | cl f r => obtain ⟨_, cs, h2, _⟩ := h; exact ⟨_, h2⟩
 | _ => cases h1
theorem one_rowk {τ : Ty} (h : τ.one = true) : τ.rowk = true := by cases τ <;> first | rfl | exact h
theorem one_val {τ : Ty} (h : τ.one = true) : τ.val = true := by cases τ <;> first | rfl | exact h
theorem val_tupk {τ : Ty} (h : τ.val = true) : τ.tupk = true := by cases τ <;> first | rfl | exact h
theorem rowT_ok : ∀ {r : Ty} {ws : List W} {x : r.T} {ds : List D}, rowT r ws = some x -> All2 (Rep2 c) ws ds -> r.rowk = true ∧ RepL c.P r c.F x ds := by
 intro r
 have base : ∀ {r : Ty} {ws : List W} {x : r.T} {ds : List D}, (∃ w, ws = [w] ∧ oneT r w = some x) -> All2 (Rep2 c) ws ds -> r.rowk = true ∧ RepL c.P r c.F x ds := by
  intro r ws x ds ⟨w, h1, h2⟩ ha
  subst h1
  obtain ⟨d, q, rfl, a1, a2⟩ := ha.cons_l
  obtain rfl := a2.nil_l
  obtain ⟨b1, b2⟩ := oneT_ok h2 (to4x2 a1)
  exact ⟨one_rowk b1, b2⟩
 have sing : ∀ {r : Ty} {ws : List W} {x : r.T}, (∀ a q, r ≠ .p a q) -> rowT r ws = some x -> ∃ w, ws = [w] ∧ oneT r w = some x := by
  intro r ws x hr h
  unfold rowT at h
  split at h
  ·exact absurd rfl (hr _ _)
  ·exact ⟨_, rfl, h⟩
  ·cases h
 induction r with
 | p a r iha ihr =>
  intro ws x ds h ha
  cases ws with
  | nil => simp [rowT] at h
  | cons w ws =>
   obtain ⟨d, q, rfl, a1, a2⟩ := ha.cons_l
   simp only [rowT] at h
   obtain ⟨y, h1, h2⟩ := Option.bind_eq_some_iff.1 h
   obtain ⟨z, h3, h4⟩ := Option.map_eq_some_iff.1 h2
   subst h4
   obtain ⟨b1, b2⟩ := oneT_ok h1 (to4x2 a1)
   obtain ⟨b3, b4⟩ := ihr h3 a2
   exact ⟨rfl, ⟨b1, b3⟩, d, q, rfl, b2, b4⟩
 | _ => intro ws x ds h ha; exact base (sing (fun a q e => by cases e) h) ha
theorem valT_ok {τ : Ty} {w : W} {x : τ.T} {d : D} (h : valT τ w = some x) (hr : Rep4 c w d) : τ.val = true ∧ RepL c.P τ c.F x [d] := by
 have base : ∀ {τ : Ty} {w : W} {x : τ.T} {d : D}, oneT τ w = some x -> Rep4 c w d -> τ.val = true ∧ RepL c.P τ c.F x [d] := fun h hr => by
  obtain ⟨a, b⟩ := oneT_ok h hr
  exact ⟨one_val a, b⟩
 unfold valT at h
 split at h
 ·obtain ⟨cs, rfl, h2⟩ := hr
  obtain ⟨a, b⟩ := rowT_ok h h2
  exact ⟨rfl, a, cs, rfl, b⟩
 ·exact base h hr
theorem tupT_ok : ∀ {τ : Ty} {ws : List W} {x : τ.T} {ds : List D}, tupT τ ws = some x -> All2 (Rep4 c) ws ds -> τ.tupk = true ∧ RepL c.P τ c.F x ds := by
 intro τ
 have sing : ∀ {r : Ty} {ws : List W} {x : r.T} {ds : List D}, (∀ a q, r ≠ .t a q) -> (r ≠ .n) -> tupT r ws = some x -> All2 (Rep4 c) ws ds -> r.tupk = true ∧ RepL c.P r c.F x ds := by
  intro r ws x ds hr hn h ha
  unfold tupT at h
  split at h
  ·exact absurd rfl (hr _ _)
  ·exact absurd rfl hn
  ·exact absurd rfl hn
  ·rename_i w _ _
   obtain ⟨d, q, rfl, a1, a2⟩ := ha.cons_l
   obtain rfl := a2.nil_l
   obtain ⟨a, b⟩ := valT_ok h a1
   exact ⟨val_tupk a, b⟩
  ·cases h
 induction τ with
 | t a r iha ihr =>
  intro ws x ds h ha
  cases ws with
  | nil => simp [tupT] at h
  | cons w ws =>
   obtain ⟨d, q, rfl, a1, a2⟩ := ha.cons_l
   simp only [tupT] at h
   obtain ⟨y, h1, h2⟩ := Option.bind_eq_some_iff.1 h
   obtain ⟨z, h3, h4⟩ := Option.map_eq_some_iff.1 h2
   subst h4
   obtain ⟨b1, b2⟩ := valT_ok h1 a1
   obtain ⟨b3, b4⟩ := ihr h3 a2
   exact ⟨rfl, ⟨b1, b3⟩, d, q, rfl, b2, b4⟩
 | n =>
  intro ws x ds h ha
  cases ws with
  | nil => obtain rfl := ha.nil_l; exact ⟨rfl, rfl⟩
  | cons w ws =>
   cases h
 | _ => intro ws x ds h ha; exact sing (fun a q e => by cases e) (fun e => by cases e) h ha
theorem All2.to4 {ws : List W} {ds : List D} (h : All2 (Rep3 c) ws ds) : All2 (Rep4 c) ws ds := h.mono fun _ _ _ q => U.to4 q
theorem resT_ok {τ : Ty} {w : W} {x : τ.T} {d : D} (h : resT τ w = some x) (hr : Rep4 c w d) : τ.tupk = true ∧ RepR c.P τ c.F x d := by
 unfold resT at h
 split at h
 ·obtain ⟨ds, rfl, h2⟩ := hr
  obtain ⟨a, b⟩ := tupT_ok h (All2.to4 h2)
  exact ⟨a, ds, rfl, b⟩
 ·obtain ⟨ds, rfl, h2⟩ := hr
  obtain rfl := h2.nil_l
  exact ⟨rfl, [], rfl, rfl⟩
 ·rename_i h1 h2
  obtain ⟨a, b⟩ := valT_ok h hr
  refine ⟨val_tupk a, [d], ?_, b⟩
  cases τ with
  | t => cases a
  | n => cases a
  | _ => rfl
theorem cellsW_ok : ∀ {r : Ty} {x : r.T} {ds : List D}, r.rowk = true -> RepL c.P r c.F x ds -> All2 (Rep0 c) (cellsW r x) ds := by
 intro r
 have base : ∀ {r : Ty} {x : r.T} {ds : List D}, r.one = true -> RepL c.P r c.F x ds -> All2 (Rep0 c) [W.u r x] ds := by
  intro r x ds h1 h
  obtain ⟨d, rfl⟩ := one_sing (by exact h1) h
  exact ⟨⟨h1, h⟩, trivial⟩
 induction r with
 | p a r iha ihr =>
  intro x ds h1 h
  obtain ⟨⟨q1, q2⟩, d, q, rfl, h3, h4⟩ := h
  exact ⟨⟨q1, h3⟩, ihr q2 h4⟩
 | _ => intro x ds h1 h; exact base h1 h
theorem valW_ok {τ : Ty} {x : τ.T} {d : D} (h1 : τ.val = true) (h : RepL c.P τ c.F x [d]) : Rep3 c (valW τ x) d := by
 cases τ with
 | g r =>
  obtain ⟨a, cs, h2, h3⟩ := h
  injection h2 with h2
  exact ⟨cs, h2, (cellsW_ok a h3).mono fun _ _ _ q => to2 (to1 q)⟩
 | i k => exact ⟨h1, h⟩
 | b => exact ⟨h1, h⟩
 | s => exact ⟨h1, h⟩
 | l => exact ⟨h1, h⟩
 | fn => exact ⟨h1, h⟩
 | cl => exact ⟨h1, h⟩
 | _ => cases h1
theorem tupW_ok : ∀ {τ : Ty} {x : τ.T} {ds : List D}, τ.tupk = true -> RepL c.P τ c.F x ds -> All2 (Rep3 c) (tupW τ x) ds := by
 intro τ
 have base : ∀ {τ : Ty} {x : τ.T} {ds : List D}, τ.val = true -> RepL c.P τ c.F x ds -> All2 (Rep3 c) [valW τ x] ds := by
  intro τ x ds h1 h
  have : ∃ d, ds = [d] := by
   cases τ with
   | g r => obtain ⟨a, cs, h2, h3⟩ := h; exact ⟨_, h2⟩
   | i k => exact one_sing (by exact h1) h
   | b => exact one_sing (τ := .b) h1 h
   | s => exact one_sing (τ := .s) h1 h
   | l => exact one_sing (by exact h1) h
   | fn => exact one_sing (by exact h1) h
   | cl => exact one_sing (by exact h1) h
   | _ => cases h1
  obtain ⟨d, rfl⟩ := this
  exact ⟨valW_ok h1 h, trivial⟩
 induction τ with
 | t a r iha ihr =>
  intro x ds h1 h
  obtain ⟨⟨q1, q2⟩, d, q, rfl, h3, h4⟩ := h
  exact ⟨valW_ok q1 h3, ihr q2 h4⟩
 | n => intro x ds h1 h; rw [show ds = [] from h]; trivial
 | p => intro x ds h1 h; cases h1
 | o => intro x ds h1 h; cases h1
 | _ => intro x ds h1 h; exact base h1 h
theorem resW_ok {τ : Ty} {x : τ.T} {d : D} (h1 : τ.tupk = true) (h : RepR c.P τ c.F x d) : Rep4 c (resW τ x) d := by
 obtain ⟨q, h2, h3⟩ := h
 cases τ with
 | t a r => exact ⟨q, h2, tupW_ok rfl h3⟩
 | n => obtain rfl : q = [] := h3; exact ⟨[], h2, trivial⟩
 | p => cases h1
 | o => cases h1
 | g r => obtain rfl : q = [d] := h2; exact to4 (valW_ok rfl h3)
 | i k => obtain rfl : q = [d] := h2; exact to4 (valW_ok rfl h3)
 | b => obtain rfl : q = [d] := h2; exact to4 (valW_ok (τ := .b) rfl h3)
 | s => obtain rfl : q = [d] := h2; exact to4 (valW_ok (τ := .s) rfl h3)
 | l => obtain rfl : q = [d] := h2; exact to4 (valW_ok rfl h3)
 | fn => obtain rfl : q = [d] := h2; exact to4 (valW_ok rfl h3)
 | cl => obtain rfl : q = [d] := h2; exact to4 (valW_ok rfl h3)
theorem elW_ok {t : Ty} {x : t.T} {d : D} (h1 : t.val = true) (h : RepL c.P t c.F x [d]) : All2 (Rep0 c) (elW t x) d.cells := by
 have one : t.one = true -> All2 (Rep0 c) [W.u t x] [d] := fun h1 => ⟨⟨h1, h⟩, trivial⟩
 have cd : t.one = true -> d.cells = [d] := fun h1 => by
  rcases ag_d (c := c) (w := .u t x) ⟨h1, h⟩ (fun ws q => by cases q) with q | q | q
  ·cases q
  ·cases q
  ·exact D.cells_na q
 cases t with
 | g r =>
  obtain ⟨a, cs, h2, h3⟩ := h
  injection h2 with h2
  subst h2
  exact cellsW_ok a h3
 | i k => rw [cd h1]; exact one h1
 | b => rw [cd h1]; exact one h1
 | s => rw [cd h1]; exact one h1
 | l => rw [cd h1]; exact one h1
 | fn => rw [cd h1]; exact one h1
 | cl => rw [cd h1]; exact one h1
 | _ => cases h1
theorem len_row {P : Caller} {F : List Fx} : ∀ {r : Ty} {x : r.T} {ds : List D}, r.rowk = true -> RepL P r F x ds -> ds.length = rowLen r := by
 intro r
 induction r with
 | p a r iha ihr =>
  intro x ds h1 h
  obtain ⟨⟨q1, q2⟩, d, q, rfl, h3, h4⟩ := h
  simp only [List.length_cons, rowLen, ihr q2 h4]
 | i k => intro x ds h1 h; obtain ⟨d, rfl⟩ := one_sing (by exact h1) h; rfl
 | b => intro x ds h1 h; obtain ⟨d, rfl⟩ := one_sing (τ := .b) h1 h; rfl
 | s => intro x ds h1 h; obtain ⟨d, rfl⟩ := one_sing (τ := .s) h1 h; rfl
 | l => intro x ds h1 h; obtain ⟨d, rfl⟩ := one_sing (by exact h1) h; rfl
 | fn => intro x ds h1 h; obtain ⟨d, rfl⟩ := one_sing (by exact h1) h; rfl
 | cl => intro x ds h1 h; obtain ⟨d, rfl⟩ := one_sing (by exact h1) h; rfl
 | _ => intro x ds h1 h; cases h1
theorem el_len {P : Caller} {F : List Fx} {t : Ty} {x : t.T} {d : D} (h1 : t.val = true) (h : RepL P t F x [d]) : d.cells.length = csz t := by
 have cd : t.one = true -> d.cells = [d] := fun h1 => by
  rcases ag_d (c := ⟨P, F, 0, [], fun _ => []⟩) (w := .u t x) ⟨h1, h⟩ (fun ws q => by cases q) with q | q | q
  ·cases q
  ·cases q
  ·exact D.cells_na q
 cases t with
 | g r =>
  obtain ⟨a, cs, h2, h3⟩ := h
  injection h2 with h2
  subst h2
  exact len_row a h3
 | i k => rw [cd h1]; rfl
 | b => rw [cd h1]; rfl
 | s => rw [cd h1]; rfl
 | l => rw [cd h1]; rfl
 | fn => rw [cd h1]; rfl
 | cl => rw [cd h1]; rfl
 | _ => cases h1
def Cm.out {α : Type} (m : Cm α) (a : α) : Prop := match m with
 | .f => False
 | .r y => y = a
 | .b τ o d k => ∃ x, o = some x ∧ k x = a
theorem out_r {α : Type} {b a : α} (h : (Cm.r b).out a) : b = a := h
theorem out_b {α : Type} {τ : Ty} {o d : Option τ.T} {k : τ.T -> α} {a : α} (h : (Cm.b τ o d k).out a) : ∃ x, o = some x ∧ k x = a := h
theorem out_map {α β : Type} {g : α -> β} {m : Cm α} {b : β} (h : (m.map g).out b) : ∃ a, m.out a ∧ g a = b := by
 cases m with
 | f => exact h.elim
 | r a => exact ⟨a, rfl, h⟩
 | b τ o d k => obtain ⟨x, h1, h2⟩ := h; exact ⟨k x, ⟨x, h1, rfl⟩, h2⟩
theorem idx_some {α : Type} {xs : List α} {i : Int} {x : α} (h : idx xs i = some x) : 0 <= i ∧ xs[i.toNat]? = some x := by
 unfold idx at h
 split at h
 ·exact ⟨by assumption, h⟩
 ·cases h
theorem cut_some {α : Type} {xs ys : List α} {lo hi : Int} (h : cut xs lo hi = some ys) : (0 <= lo ∧ lo <= hi ∧ hi <= (xs.length : Int)) ∧ ys = (xs.take hi.toNat).drop lo.toNat := by
 unfold cut at h
 split at h
 ·rename_i q; injection h with h; exact ⟨q, h.symm⟩
 ·cases h
theorem apd_some {α : Type} {by_ : Nat} {xs ys zs : List α} (h : apd by_ xs ys = some zs) : (xs.length + ys.length) * by_ <= 140737488355328 ∧ zs = xs ++ ys := by
 unfold apd at h
 split at h
 ·rename_i q; injection h with h; exact ⟨q, h.symm⟩
 ·cases h
theorem mkl_some {α : Type} {by_ : Nat} {n k : Int} {x : α} {zs : List α} (h : mkl by_ n k x = some zs) : (0 <= n ∧ n <= k ∧ (by_ : Int) * k <= 140737488355328) ∧ zs = List.replicate n.toNat x := by
 unfold mkl at h
 split at h
 ·rename_i q; injection h with h; exact ⟨q, h.symm⟩
 ·cases h
theorem noUn_some {x : Option W} {w : W} (h : noUn x = some w) : x = some w ∧ w ≠ .un := by
 unfold noUn at h
 split at h
 ·cases h
 ·rename_i hn; subst h; exact ⟨rfl, fun e => hn (by rw [e])⟩
theorem pick_ok {q : Option Nat} {ws : List W} {ds : List D} {off : Nat} {w : W} (ha : All2 (Rep2 c) ws ds) (h : pickW q ws off = some w) : ∃ d, pick q ds off = some d ∧ Rep3 c w d := by
 cases q with
 | none =>
  obtain ⟨d, h1, h2⟩ := ha.get (noUn_some h).1
  exact ⟨d, h1, to3 h2⟩
 | some n =>
  simp only [pickW] at h
  split at h
  ·rename_i hl
   injection h with h
   subst h
   refine ⟨.agg ((ds.drop off).take n), ?_, _, rfl, (ha.drop off).take n⟩
   simp only [pick]
   rw [if_pos (by rw [<- ha.length]; exact hl)]
  ·cases h
theorem veq_ok : ∀ {z : List Value} {xs ys : List W} {as_ bs : List D} {q : Bool}, zOk z xs = true -> veqW xs ys = some q -> All2 (Rep2 c) xs as_ -> All2 (Rep2 c) ys bs -> veqs z as_ bs = some q
 | [], [], ys, as_, bs, q, hz, h, h1, h2 => by
  obtain rfl := h1.nil_l
  cases ys with
  | nil => obtain rfl := h2.nil_l; simpa [veqW, veqs] using h
  | cons => simp [veqW] at h
 | z :: zs, x :: xs, ys, as_, bs, q, hz, h, h1, h2 => by
  obtain ⟨a, as2, rfl, a1, a2⟩ := h1.cons_l
  cases ys with
  | nil => cases x <;> simp [veqW] at h
  | cons y ys =>
   obtain ⟨b, bs2, rfl, b1, b2⟩ := h2.cons_l
   unfold zOk at hz
   split at hz
   ·cases ‹_ = []›
   ·rename_i k n zs' k' xv xs' e1 e2
    injection e1 with e1 e1'; injection e2 with e2 e2'; subst e1 e1' e2 e2'
    split at hz
    ·rename_i ek; subst ek
     unfold veqW at h
     split at h
     ·cases ‹_ :: _ = []›
     ·rename_i k2 y1 r1 k3 y2 r2 e3 e4
      injection e3 with e3 e3'; injection e4 with e4 e4'
      injection e3 with e5 e6
      injection e5 with e5
      subst e5
      (try simp only [heq_eq_eq] at e6)
      subst e6 e3' e4 e4'
      split at h
      ·rename_i ek
       subst ek
       obtain ⟨q', g1, g2⟩ := Option.map_eq_some_iff.1 h
       subst g2
       have ih := veq_ok hz g1 a2 b2
       obtain ⟨rfl, _⟩ := i_d a1.2
       obtain ⟨rfl, _⟩ := i_d b1.2
       simp only [veqs, veq, ih, and_self, if_true]
      ·cases h
     ·rename_i e3 _; injection e3 with e3 _; injection e3 with e3 _; cases e3
     ·rename_i e3 _; injection e3 with e3 _; injection e3 with e3 _; cases e3
     ·cases h
    ·cases hz
   ·rename_i b0 zs' xv xs' e1 e2
    injection e1 with e1 e1'; injection e2 with e2 e2'; subst e1 e1' e2 e2'
    unfold veqW at h
    split at h
    ·cases ‹_ :: _ = []›
    ·rename_i e3 _; injection e3 with e3 _; injection e3 with e3 _; cases e3
    ·rename_i y1 r1 y2 r2 e3 e4
     injection e3 with e3 e3'; injection e4 with e4 e4'
     injection e3 with e5 e6
     (try simp only [heq_eq_eq] at e6)
     subst e6 e3' e4 e4'
     obtain ⟨q', g1, g2⟩ := Option.map_eq_some_iff.1 h
     subst g2
     have ih := veq_ok hz g1 a2 b2
     obtain rfl := b_d a1.2
     obtain rfl := b_d b1.2
     simp only [veqs, veq, ih]
    ·rename_i e3 _; injection e3 with e3 _; injection e3 with e3 _; cases e3
    ·cases h
   ·rename_i b0 zs' xv xs' e1 e2
    injection e1 with e1 e1'; injection e2 with e2 e2'; subst e1 e1' e2 e2'
    unfold veqW at h
    split at h
    ·cases ‹_ :: _ = []›
    ·rename_i e3 _; injection e3 with e3 _; injection e3 with e3 _; cases e3
    ·rename_i e3 _; injection e3 with e3 _; injection e3 with e3 _; cases e3
    ·rename_i y1 r1 y2 r2 e3 e4
     injection e3 with e3 e3'; injection e4 with e4 e4'
     injection e3 with e5 e6
     (try simp only [heq_eq_eq] at e6)
     subst e6 e3' e4 e4'
     obtain ⟨q', g1, g2⟩ := Option.map_eq_some_iff.1 h
     subst g2
     have ih := veq_ok hz g1 a2 b2
     obtain ⟨rfl, _, r1⟩ := s_d a1.2
     obtain ⟨rfl, _, r2⟩ := s_d b1.2
     simp only [veqs, veq, ih]
     rw [strV_eq r1 r2]
    ·cases h
   ·cases hz
 | [], x :: xs, ys, as_, bs, q, hz, h, h1, h2 => by simp [zOk] at hz
 | z :: zs, [], ys, as_, bs, q, hz, h, h1, h2 => by cases z <;> simp [zOk] at hz
where
 strV_eq {a b : List Int} (ha : ∀ q : Int, q ∈ a -> 0 <= q ∧ q < 256) (hb : ∀ q : Int, q ∈ b -> 0 <= q ∧ q < 256) : ((strV a).toList == (strV b).toList) = decide (a = b) := by
  rw [ByteArray.toList_eq, ByteArray.toList_eq]
  have e : ∀ {a b : List Int}, (∀ q : Int, q ∈ a -> 0 <= q ∧ q < 256) -> (∀ q : Int, q ∈ b -> 0 <= q ∧ q < 256) -> a.map (fun c => UInt8.ofNat c.toNat) = b.map (fun c => UInt8.ofNat c.toNat) -> a = b := by
   intro a
   induction a with
   | nil => intro b _ _ h; cases b with | nil => rfl | cons => cases h
   | cons x r ih =>
    intro b ha hb h
    cases b with
    | nil => cases h
    | cons y q =>
     simp only [List.map_cons, List.cons.injEq] at h
     have hx := ha x (by simp)
     have hy := hb y (by simp)
     have h1 := congrArg UInt8.toNat h.1
     simp only [UInt8.toNat_ofNat'] at h1
     have : x = y := by omega
     rw [this, ih (fun q hq => ha q (by simp [hq])) (fun q hq => hb q (by simp [hq])) h.2]
  simp only [strV]
  by_cases h : a = b
  ·subst h; simp
  ·have : ¬ a.map (fun c => UInt8.ofNat c.toNat) = b.map (fun c => UInt8.ofNat c.toNat) := fun q => h (e ha hb q)
   simp [this, h]
end
end Go.Proofs.Ytlhjdikklmkihaa.Ev.U
namespace Go.Proofs.Ytlhjdikklmkihaa.Ev.U
open Go
section
variable {c : Cx}
theorem fam_len {B : List Bx} (h : Fam c B) (Y : List (List D)) : (upd c.rg Y B).length = c.n := by rw [upd_len, h.len]
theorem fam_at {s : SU} {e : Env} {l : Bx} {Y : List (List D)} (hc : c.ok) (hS : RepS c s e l Y) {B : List Bx} (h : Fam c B) {i : Nat} {r : Rg} {ys : List D} (hr : c.rg[i]? = some r) (hy : Y[i]? = some ys) : atR r ys (upd c.rg Y B) := by
 refine upd_at hc.dj h.rg (fun i r ys a b => (hS.ro i r ys a b).1) (fun i r ys a b d => ?_) hr hy
 obtain ⟨l, cs, q1, q2, q3, q4⟩ := h.ro i r a b
 obtain ⟨q5, q6⟩ := hS.ro i r ys a d
 rw [q6 b] at q5 ⊢
 exact ⟨l, cs, q1, q2, by rw [q5]; exact q3, by rw [q5]; exact q4⟩
theorem bx_own {e : Env} {l : Bx} {o : List Bx} {n b : Nat} (h : o.length = n) : bx n b ⟨e, l, o⟩ = lk b l := by unfold bx; rw [if_pos h.symm]
theorem bx_out {e : Env} {l : Bx} {o : List Bx} {f b : Nat} (h : f < o.length) : bx f b ⟨e, l, o⟩ = (o[f]?).bind (lk b) := by unfold bx; rw [if_neg (by simp; omega)]
theorem bx_ok {s : SU} {e : Env} {l : Bx} {Y : List (List D)} (hc : c.ok) (hS : RepS c s e l Y) {pb : PB} {ws : List W} {off : Nat} {d : D} (hb : getBx pb s = some ws) (hd : Rep0 c (.pt pb off) d) :
  ∃ f b o ys, d = .ptr f b (o + off) ∧ All2 (Rep2 c) ws ys ∧ ∀ B, Fam c B -> ∃ cs, bx f b ⟨e, l, upd c.rg Y B⟩ = some cs ∧ o + ys.length <= cs.length ∧ (cs.drop o).take ys.length = ys := by
 cases pb with
 | own b =>
  obtain ⟨-, ys, h1, h2⟩ := own_box hS hb
  refine ⟨c.n, b, 0, ys, by rw [Nat.zero_add]; exact hd, h2, fun B hB => ⟨ys, ?_, by omega, by simp⟩⟩
  rw [bx_own (fam_len hB Y), h1]
 | ext i =>
  obtain ⟨r, h1, h2⟩ := hd
  obtain ⟨ys, h3, h4⟩ := hS.ext.get (i := i) hb
  refine ⟨r.f, r.b, r.o, ys, h2, h4, fun B hB => ?_⟩
  obtain ⟨l', cs, a1, a2, a3, a4⟩ := fam_at hc hS hB h1 h3
  refine ⟨cs, ?_, a3, a4⟩
  rw [bx_out (by rw [fam_len hB Y]; exact hc.lt r (List.mem_of_getElem? h1)), a1]
  exact a2
theorem pick_in {q : Option Nat} {cs ys : List D} {o off : Nat} {d : D} (h : pick q ys off = some d) (h1 : o + ys.length <= cs.length) (h2 : (cs.drop o).take ys.length = ys) : pick q cs (o + off) = some d := by
 have e : cs.drop o = ys ++ (cs.drop o).drop ys.length := by
  have := List.take_append_drop ys.length (cs.drop o)
  rw [h2] at this
  exact this.symm
 cases q with
 | none =>
  have hl := getq_lt h
  have : (cs.drop o)[off]? = ys[off]? := by rw [e, List.getElem?_append_left hl]
  rw [List.getElem?_drop] at this
  exact this.trans h
 | some n =>
  simp only [pick] at h ⊢
  split at h
  ·rename_i hl
   rw [if_pos (by omega)]
   injection h with h
   subst h
   congr 2
   rw [<- List.drop_drop, e, List.drop_append_of_le_length (by omega), List.take_append_of_le_length (by simp; omega)]
  ·cases h
theorem merge1_ok {q : Bool} {a b w : W} {x y : D} (h : merge1 q a b = some w) (ha : q = true -> Rep4 c a x) (hb : q = false -> Rep4 c b y) : Rep4 c w (if q then x else y) := by
 unfold merge1 at h
 split at h
 ·rename_i τ x' τ' y'
  obtain ⟨z, h1, h2⟩ := Option.map_eq_some_iff.1 h
  obtain ⟨e, h1⟩ := castT_eq h1
  subst e; subst h1; subst h2
  cases q with
  | true => exact ha rfl
  | false => exact hb rfl
 ·rename_i τ x'
  obtain ⟨z, h1, h2⟩ := Option.map_eq_some_iff.1 h
  subst h2
  cases q with
  | true => exact ha rfl
  | false => obtain ⟨z', hz⟩ := hb rfl; simp only [Bool.false_eq_true, if_false]; rw [hz]; exact nilT_ok h1
 ·rename_i τ y'
  obtain ⟨z, h1, h2⟩ := Option.map_eq_some_iff.1 h
  subst h2
  cases q with
  | true => obtain ⟨z', hz⟩ := ha rfl; simp only [if_true]; rw [hz]; exact nilT_ok h1
  | false => exact hb rfl
 ·injection h with h; subst h
  cases q with
  | true => exact ha rfl
  | false => exact hb rfl
 ·injection h with h; subst h
  cases q with
  | true => exact ha rfl
  | false => exact hb rfl
 ·split at h
  ·rename_i e
   injection h with h; subst h
   obtain ⟨rfl, rfl⟩ := e
   cases q with
   | true => exact ha rfl
   | false => exact hb rfl
  ·cases h
 ·cases h
theorem mergeL_ok {q : Bool} : ∀ {as_ bs ws : List W}, mergeL q as_ bs = some ws -> (q = true -> ∀ {xs : List D}, All2 (Rep2 c) as_ xs -> All2 (Rep2 c) ws xs) ∧ (q = false -> ∀ {ys : List D}, All2 (Rep2 c) bs ys -> All2 (Rep2 c) ws ys)
 | [], [], ws, h => by injection h with h; subst h; exact ⟨fun _ _ h => h, fun _ _ h => h⟩
 | [], _ :: _, ws, h => by cases h
 | _ :: _, [], ws, h => by cases h
 | a :: as_, b :: bs, ws, h => by
  simp only [mergeL] at h
  obtain ⟨z, h1, h2⟩ := Option.bind_eq_some_iff.1 h
  obtain ⟨zs, h3, h4⟩ := Option.map_eq_some_iff.1 h2
  subst h4
  obtain ⟨i1, i2⟩ := mergeL_ok h3
  have key : ∀ {x : D}, Rep4 c z x -> (∀ ws, z ≠ .tp ws) -> (∀ ws, z ≠ .ag ws) -> Rep2 c z x := fun h a b => of3 (of4 h a) b
  have nz : (∀ ws, z ≠ .tp ws) ∧ (∀ ws, z ≠ .ag ws) := by
   unfold merge1 at h1
   split at h1
   ·obtain ⟨_, _, q⟩ := Option.map_eq_some_iff.1 h1; subst q; exact ⟨(fun _ h => by cases h), (fun _ h => by cases h)⟩
   ·obtain ⟨_, _, q⟩ := Option.map_eq_some_iff.1 h1; subst q; exact ⟨(fun _ h => by cases h), (fun _ h => by cases h)⟩
   ·obtain ⟨_, _, q⟩ := Option.map_eq_some_iff.1 h1; subst q; exact ⟨(fun _ h => by cases h), (fun _ h => by cases h)⟩
   ·injection h1 with q; subst q; exact ⟨(fun _ h => by cases h), (fun _ h => by cases h)⟩
   ·injection h1 with q; subst q; exact ⟨(fun _ h => by cases h), (fun _ h => by cases h)⟩
   ·split at h1
    ·injection h1 with q; subst q; exact ⟨(fun _ h => by cases h), (fun _ h => by cases h)⟩
    ·cases h1
   ·cases h1
  refine ⟨fun hq xs hx => ?_, fun hq xs hx => ?_⟩
  ·obtain ⟨x, xs', rfl, a1, a2⟩ := hx.cons_l
   refine ⟨key ?_ nz.1 nz.2, i1 hq a2⟩
   have := merge1_ok (x := x) (y := x) h1 (fun _ => to4x2 a1) (fun e => by rw [hq] at e; cases e)
   rwa [ite_self] at this
  ·obtain ⟨x, xs', rfl, a1, a2⟩ := hx.cons_l
   refine ⟨key ?_ nz.1 nz.2, i2 hq a2⟩
   have := merge1_ok (x := x) (y := x) h1 (fun e => by rw [hq] at e; cases e) (fun _ => to4x2 a1)
   rwa [ite_self] at this
theorem mergeW_ok {q : Bool} {a b w : W} {x y : D} (h : mergeW q a b = some w) (ha : q = true -> Rep4 c a x) (hb : q = false -> Rep4 c b y) : Rep4 c w (if q then x else y) := by
 unfold mergeW at h
 split at h
 ·obtain ⟨ws, h1, h2⟩ := Option.map_eq_some_iff.1 h
  subst h2
  obtain ⟨i1, i2⟩ := mergeL_ok (c := c) h1
  cases q with
  | true => obtain ⟨cs, rfl, h3⟩ := ha rfl; exact ⟨cs, rfl, i1 rfl h3⟩
  | false => obtain ⟨cs, rfl, h3⟩ := hb rfl; exact ⟨cs, rfl, i2 rfl h3⟩
 ·exact merge1_ok h ha hb
theorem nzO_ok {x : Opd} {e : Env} {k : IntKind} {n : Int} (h : nzO x = true) (hx : rdE e x = .v (.int k n)) : n ≠ 0 := by
 unfold nzO at h
 split at h
 ·rename_i k' m
  injection hx with hx
  injection hx with h1 h2
  rw [<- h2]
  intro e; cases e
 ·rename_i k' m
  injection hx with hx
  injection hx with h1 h2
  rw [<- h2]
  intro e; cases e
 ·cases h
theorem nnO_ok {x : Opd} {e : Env} {k : IntKind} {n : Int} (h : nnO x = true) (hx : rdE e x = .v (.int k n)) : 0 <= n := by
 unfold nnO at h
 split at h
 ·rename_i k' m
  injection hx with hx
  injection hx with h1 h2
  rw [<- h2]
  exact Int.natCast_nonneg m
 ·cases h
theorem u_i {k : IntKind} {n : Int} (h : inK k n = true) : Rep4 c (.u (.i k) n) (.v (.int k n)) := ⟨rfl, rfl, h⟩
theorem u_b {q : Bool} : Rep4 c (.u .b q) (.v (.bool q)) := ⟨rfl, rfl⟩
theorem bin_ok {op : Bop} {nz : Bool} {k : IntKind} {x y : Int} {w : W} (hx : inK k x = true) (hy : inK k y = true) (hz : nz = true -> y ≠ 0) (h : (binW op nz k x y).out w) : ∃ v, bz op k x y = some v ∧ Rep4 c w (.v v) := by
 cases op with
 | add => obtain rfl := out_r h; exact ⟨_, rfl, u_i (wrap_in _ _)⟩
 | sub => obtain rfl := out_r h; exact ⟨_, rfl, u_i (wrap_in _ _)⟩
 | mul => obtain rfl := out_r h; exact ⟨_, rfl, u_i (wrap_in _ _)⟩
 | and => obtain rfl := out_r h; exact ⟨_, rfl, u_i (wrap_in _ _)⟩
 | or => obtain rfl := out_r h; exact ⟨_, rfl, u_i (wrap_in _ _)⟩
 | xor => obtain rfl := out_r h; exact ⟨_, rfl, u_i (wrap_in _ _)⟩
 | andNot => obtain rfl := out_r h; exact ⟨_, rfl, u_i (wrap_in _ _)⟩
 | eql => obtain rfl := out_r h; exact ⟨_, rfl, u_b⟩
 | neq => obtain rfl := out_r h; exact ⟨_, rfl, u_b⟩
 | lss => obtain rfl := out_r h; exact ⟨_, rfl, u_b⟩
 | leq => obtain rfl := out_r h; exact ⟨_, rfl, u_b⟩
 | gtr => obtain rfl := out_r h; exact ⟨_, rfl, u_b⟩
 | geq => obtain rfl := out_r h; exact ⟨_, rfl, u_b⟩
 | quo =>
  cases hn : nz with
  | true =>
   rw [hn] at h
   obtain rfl := out_r h
   exact ⟨_, if_neg (hz hn), u_i (wrap_in _ _)⟩
  | false =>
   rw [hn] at h
   obtain ⟨z, h1, rfl⟩ := out_b h
   unfold quo at h1
   split at h1
   ·cases h1
   ·rename_i q; injection h1 with h1; subst h1; exact ⟨_, if_neg q, u_i (wrap_in _ _)⟩
 | rem =>
  cases hn : nz with
  | true =>
   rw [hn] at h
   obtain rfl := out_r h
   exact ⟨_, if_neg (hz hn), u_i (tmod_in hx)⟩
  | false =>
   rw [hn] at h
   obtain ⟨z, h1, rfl⟩ := out_b h
   unfold rem at h1
   split at h1
   ·cases h1
   ·rename_i q; injection h1 with h1; subst h1; exact ⟨_, if_neg q, u_i (tmod_in hx)⟩
 | shl => exact h.elim
 | shr => exact h.elim
theorem sh_ok {op : Bop} {nn : Bool} {k : IntKind} {x y : Int} {w : W} (hx : inK k x = true) (hn : nn = true -> 0 <= y) (h : (shW op nn k x y).out w) : ∃ v, bsh op k x y = some v ∧ Rep4 c w (.v v) := by
 have go : ∀ {v : Int}, inK k v = true -> ((bif nn then Cm.r (W.u (.i k) v) else Cm.b (.i k) (if y < 0 then none else some v) (some (0 : Int)) fun z => .u (.i k) z : Cm W)).out w -> 0 <= y ∧ w = .u (.i k) v := by
  intro v hv h
  cases hq : nn with
  | true => rw [hq] at h; obtain rfl := out_r h; exact ⟨hn hq, rfl⟩
  | false =>
   rw [hq] at h
   obtain ⟨z, h1, rfl⟩ := out_b h
   split at h1
   ·cases h1
   ·rename_i q; injection h1 with h1; subst h1; exact ⟨by omega, rfl⟩
 have p2 : ∀ m : Nat, (1 : Int) <= 2 ^ m := fun m => by
  have : (1 : Nat) <= 2 ^ m := Nat.one_le_two_pow
  have h2 : ((2 ^ m : Nat) : Int) = (2 : Int) ^ m := by simp
  omega
 cases op with
 | shl =>
  obtain ⟨h1, rfl⟩ := go (wrap_in _ _) h
  exact ⟨_, if_neg (by omega), u_i (wrap_in _ _)⟩
 | shr =>
  obtain ⟨h1, rfl⟩ := go (fdiv_in hx (p2 _)) h
  exact ⟨_, if_neg (by omega), u_i (fdiv_in hx (p2 _))⟩
 | _ => exact h.elim
theorem mm_ok {mx : Bool} {k : IntKind} {e : Env} {l : Bx} {o : List Bx} {p : Path} {s : SU} {Y : List (List D)} (hS : RepS c s e l Y) (hp : act p e) : ∀ {xs : List Opd} {a v : Int}, inK k a = true -> mmW mx k a (rdsW p s xs) = some v -> mnm mx k a ⟨e, l, o⟩ xs = some v ∧ inK k v = true
 | [], a, v, ha, h => by injection h with h; subst h; exact ⟨rfl, ha⟩
 | x :: r, a, v, ha, h => by
  have hx := rdW_ok hS hp x
  simp only [rdsW] at h
  unfold mmW at h
  split at h
  ·rename_i h1; cases h1
  ·rename_i k' y r' h1
   injection h1 with h1 h2
   subst h2
   rw [h1] at hx
   obtain ⟨hy, hyk⟩ := i_d hx.2
   split at h
   ·rename_i e; subst e
    simp only [mnm, rd_fst, hy]
    refine mm_ok hS hp ?_ h
    cases mx <;> simp only [Bool.false_eq_true, if_true, if_false] <;> split <;> assumption
   ·cases h
  ·cases h
theorem allT_ok {t : Ty} : ∀ {ws : List W} {xs : List t.T} {ds : List D}, allT t ws = some xs -> All2 (Rep4 c) ws ds -> (ws ≠ [] -> t.val = true) ∧ All2 (fun x d => RepL c.P t c.F x [d]) xs ds
 | [], xs, ds, h, ha => by injection h with h; subst h; obtain rfl := ha.nil_l; exact ⟨fun q => absurd rfl q, trivial⟩
 | w :: ws, xs, ds, h, ha => by
  obtain ⟨d, q, rfl, a1, a2⟩ := ha.cons_l
  simp only [allT] at h
  obtain ⟨y, h1, h2⟩ := Option.bind_eq_some_iff.1 h
  obtain ⟨z, h3, h4⟩ := Option.map_eq_some_iff.1 h2
  subst h4
  obtain ⟨b1, b2⟩ := valT_ok h1 a1
  exact ⟨fun _ => b1, b2, (allT_ok h3 a2).2⟩
theorem elOk_rf {τ : Ty} {x : τ.T} {P : Caller} {F : List Fx} {d : D} (h : RepL P τ F x [d]) (hk : elOk τ = true) : d.rf1 = true ∧ d.cells = [d] := by
 cases τ with
 | i k => obtain ⟨rfl, _⟩ := i_d h; exact ⟨rfl, rfl⟩
 | b => obtain rfl := b_d h; exact ⟨rfl, rfl⟩
 | s => obtain ⟨rfl, _⟩ := s_d h; exact ⟨rfl, rfl⟩
 | l m t =>
  obtain ⟨hl, es, h1, h2⟩ := l_d h
  cases m with
  | ro => rcases h2 with rfl | ⟨_, z, rfl⟩ <;> exact ⟨rfl, rfl⟩
  | _ => cases hk
 | _ => cases hk
theorem rowOk_rf : ∀ {r : Ty} {x : r.T} {P : Caller} {F : List Fx} {ds : List D}, r.rowk = true -> RepL P r F x ds -> rowOk r = true -> ds.all D.rf1 = true := by
 intro r
 have base : ∀ {r : Ty} {x : r.T} {P : Caller} {F : List Fx} {ds : List D}, r.one = true -> RepL P r F x ds -> elOk r = true -> ds.all D.rf1 = true := by
  intro r x P F ds h1 h hk
  obtain ⟨d, rfl⟩ := one_sing h1 h
  simp [(elOk_rf h hk).1]
 induction r with
 | p a r iha ihr =>
  intro x P F ds h1 h hk
  obtain ⟨⟨q1, q2⟩, d, q, rfl, h3, h4⟩ := h
  simp only [rowOk, Bool.and_eq_true] at hk
  simp only [List.all_cons, (elOk_rf h3 hk.1).1, ihr q2 h4 hk.2, Bool.and_self]
 | _ => intro x P F ds h1 h hk; exact base (by exact h1) h (by exact hk)
theorem eleOk_rf {t : Ty} {x : t.T} {P : Caller} {F : List Fx} {d : D} (hv : t.val = true) (h : RepL P t F x [d]) (hk : eleOk t = true) : d.cells.all D.rf1 = true := by
 cases t with
 | g r =>
  obtain ⟨a, cs, h2, h3⟩ := h
  injection h2 with h2
  subst h2
  exact rowOk_rf a h3 hk
 | i k => rw [(elOk_rf h hk).2]; simp [(elOk_rf h hk).1]
 | b => rw [(elOk_rf h hk).2]; simp [(elOk_rf h hk).1]
 | s => rw [(elOk_rf h hk).2]; simp [(elOk_rf h hk).1]
 | l => rw [(elOk_rf h hk).2]; simp [(elOk_rf h hk).1]
 | fn => cases hk
 | cl => cases hk
 | _ => cases hv
theorem flat_at {z : Nat} : ∀ {es : List D}, (∀ e ∈ es, e.cells.length = z) -> ∀ {i : Nat} {e : D}, es[i]? = some e -> i * z + z <= (es.flatMap D.cells).length ∧ ((es.flatMap D.cells).drop (i * z)).take z = e.cells
 | [], _, i, e, h => by simp at h
 | a :: es, hz, 0, e, h => by
  simp only [List.getElem?_cons_zero] at h
  injection h with h
  subst h
  have := hz a (by simp)
  rw [List.flatMap_cons, Nat.zero_mul, List.drop_zero, List.length_append]
  exact ⟨by omega, by rw [<- this]; simp⟩
 | a :: es, hz, i + 1, e, h => by
  have ha := hz a (by simp)
  obtain ⟨h1, h2⟩ := flat_at (es := es) (z := z) (fun e he => hz e (List.mem_cons_of_mem _ he)) (i := i) (e := e) (by simpa using h)
  rw [List.flatMap_cons, List.length_append, ha, Nat.add_mul, Nat.one_mul]
  refine ⟨by omega, ?_⟩
  rw [Nat.add_comm (i * z) z, <- List.drop_drop, List.drop_append_of_le_length (by omega), <- ha, List.drop_length, List.nil_append, ha]
  exact h2
theorem flat_set {z : Nat} : ∀ {es : List D}, (∀ e ∈ es, e.cells.length = z) -> ∀ {i : Nat} {e e' : D}, es[i]? = some e -> e'.cells.length = z -> (es.set i e').flatMap D.cells = over (es.flatMap D.cells) (i * z) e'.cells
 | [], _, i, e, e', h, _ => by simp at h
 | a :: es, hz, 0, e, e', h, h' => by
  have := hz a (by simp)
  simp only [List.set_cons_zero, List.flatMap_cons, over, Nat.zero_mul, List.take_zero, List.nil_append, Nat.zero_add, h', List.drop_append_of_le_length (show z <= a.cells.length by omega)]
  rw [<- this, List.drop_length, List.nil_append]
 | a :: es, hz, i + 1, e, e', h, h' => by
  have ha := hz a (by simp)
  have ih := flat_set (es := es) (z := z) (fun e he => hz e (List.mem_cons_of_mem _ he)) (i := i) (e := e) (e' := e') (by simpa using h) h'
  simp only [List.set_cons_succ, List.flatMap_cons, ih, over, h']
  have e1 : (i + 1) * z = a.cells.length + i * z := by rw [ha, Nat.add_mul, Nat.one_mul, Nat.add_comm]
  have e2 : a.cells.length + i * z + z = a.cells.length + (i * z + z) := by omega
  rw [e1, e2, List.take_length_add_append, List.drop_length_add_append]
  simp only [List.append_assoc]
theorem lb_at {s : SU} {e : Env} {l : Bx} {Y : List (List D)} (hS : RepS c s e l Y) {b : Nat} {τ : Ty} {m : Int} {xs : List τ.T} (h : lkW b s.l = some [.lb τ m xs]) {i : Int} {x : τ.T} (hx : idx xs i = some x) :
  ∃ es d, (eleOk τ = true ∧ τ.val = true) ∧ mkOk τ = true ∧ (xs.length : Int) = m ∧ xs.length <= maxLn ∧ All2 (fun y e => RepL c.P τ c.F y [e]) xs es ∧ lk b l = some (es.flatMap D.cells) ∧ es[i.toNat]? = some d ∧ RepL c.P τ c.F x [d] ∧ 0 <= i := by
 obtain ⟨h1, h6, h2, h3, es, h4, h5⟩ := (show BRep c [.lb τ m xs] (lk b l) from hS.box b _ h)
 obtain ⟨i1, i2⟩ := idx_some hx
 obtain ⟨d, e1, e2⟩ := h4.get i2
 refine ⟨es, d, h1, h6, h2, h3, h4, ?_, e1, e2, i1⟩
 rcases h5 with h5 | ⟨rfl, _⟩
 ·exact h5
 ·simp at e1
theorem els_len {τ : Ty} {xs : List τ.T} {es : List D} (hv : τ.val = true) (h : All2 (fun y e => RepL c.P τ c.F y [e]) xs es) : ∀ e ∈ es, e.cells.length = csz τ := fun e he => by
 obtain ⟨i, hi⟩ := List.getElem?_of_mem he
 have hl := h.length
 obtain ⟨x, hx⟩ : ∃ x, xs[i]? = some x := by
  have := getq_lt hi
  exact ⟨xs[i]'(by omega), List.getElem?_eq_getElem (by omega)⟩
 obtain ⟨e', e1, e2⟩ := h.get hx
 rw [hi] at e1
 injection e1 with e1
 subst e1
 exact el_len hv e2
theorem mu_cast {a b : Ty} {xs : List a.T} {ys : List b.T} (h : castT (.l .mu a) (.l .mu b) xs = some ys) : ∃ e : a = b, e ▸ xs = ys := by
 obtain ⟨e, h1⟩ := castT_eq h
 have e' : a = b := by injection e
 subst e'
 exact ⟨rfl, h1⟩
theorem elT_ok {τ : Ty} {ws : List W} {x : τ.T} {ds : List D} (h : elT τ ws = some x) (ha : All2 (Rep2 c) ws ds) (hk : eleOk τ = true) : ∃ d, RepL c.P τ c.F x [d] ∧ d.cells = ds := by
 have one : ∀ {τ : Ty} {x : τ.T}, (∀ {w}, ws = [w] -> oneT τ w = some x) -> (∃ w, ws = [w]) -> elOk τ = true -> ∃ d, RepL c.P τ c.F x [d] ∧ d.cells = ds := by
  intro τ x h hw hk
  obtain ⟨w, rfl⟩ := hw
  obtain ⟨d, q, rfl, h2, h3⟩ := ha.cons_l
  have := h3.nil_l
  subst this
  have h4 := (oneT_ok (h rfl) (to4x2 h2)).2
  exact ⟨d, h4, (elOk_rf h4 hk).2⟩
 cases τ with
 | g r =>
  obtain ⟨h1, h2⟩ := rowT_ok h ha
  exact ⟨.agg ds, ⟨h1, ds, rfl, h2⟩, rfl⟩
 | i k =>
  match ws, h with
  | [w], h => exact one (fun {w'} e => by injection e with e; subst e; exact h) ⟨w, rfl⟩ hk
 | b =>
  match ws, h with
  | [w], h => exact one (fun {w'} e => by injection e with e; subst e; exact h) ⟨w, rfl⟩ hk
 | s =>
  match ws, h with
  | [w], h => exact one (fun {w'} e => by injection e with e; subst e; exact h) ⟨w, rfl⟩ hk
 | l m t =>
  match ws, h with
  | [w], h => exact one (fun {w'} e => by injection e with e; subst e; exact h) ⟨w, rfl⟩ hk
 | _ => cases hk
theorem lay_ok (hc : c.ok) {e : Env} {l : Bx} {o : List Bx} {p : Path} {s : SU} {Y : List (List D)} (hS : RepS c s e l Y) (hp : act p e) : ∀ {ps : List (Nat × Nat × Opd)} {ws ws' : List W} {ds : List D}, layW p s ws ps = some ws' -> All2 (Rep2 c) ws ds -> ∃ ds', lay ⟨e, l, o⟩ ds ps = some ds' ∧ All2 (Rep2 c) ws' ds'
 | [], ws, ws', ds, h, ha => by injection h with h; subst h; exact ⟨ds, rfl, ha⟩
 | (off, sz, x) :: r, ws, ws', ds, h, ha => by
  have hx := rdW_ok hS hp x
  simp only [layW] at h
  split at h
  ·rename_i hq
   obtain ⟨q1, q2, q3⟩ := hq
   simp only [lay, rd_fst]
   have hcs : All2 (Rep2 c) (rdW p x s).1.cells (rdE e x).cells := by
    generalize (rdW p x s).1 = w at hx q3
    generalize rdE e x = d at hx
    cases w with
    | ag cs => obtain ⟨q, rfl, h2⟩ := hx; exact h2
    | tp => simp [W.cells, W.sto] at q3
    | un => simp [W.cells, W.sto] at q3
    | gd => simp [W.cells, W.sto] at q3
    | _ =>
     have hx2 := of3 (of4 hx (fun _ q => by cases q)) (fun _ q => by cases q)
     simp only [W.cells, List.all_cons, List.all_nil, Bool.and_true, Bool.and_eq_true] at q3
     have := sto_ok hc hx2 q3.1
     rw [this.2.2.1]
     exact ⟨hx2, trivial⟩
   have hall : (rdE e x).cells.all D.sto1 = true ∧ (rdE e x).cells.all (fun d => d.strip1.sto1) = true := by
    refine ⟨All2.all_r (fun w d hm hr => ?_) hcs, All2.all_r (fun w d hm hr => ?_) hcs⟩
    ·have := List.all_eq_true.1 q3 w hm
     simp only [Bool.and_eq_true] at this
     exact (sto_ok hc hr this.1).2.1
    ·have := List.all_eq_true.1 q3 w hm
     simp only [Bool.and_eq_true] at this
     exact (sto_ok hc (strip1_ok hr) this.2).2.1
   have hlen := hcs.length
   have hl2 := ha.length
   rw [if_pos ⟨by omega, by omega, hall⟩]
   refine lay_ok hc hS hp h ?_
   have hm : All2 (Rep2 c) ((rdW p x s).1.cells.map W.strip1) ((rdE e x).cells.map D.strip1) := hcs.map fun _ _ _ q => strip1_ok q
   unfold overW over
   refine ((ha.take off).app hm).app ?_
   have := hm.length
   rw [this]
   exact ha.drop _
  ·cases h
theorem liO_ok {e : Env} {l : Bx} {o : List Bx} {p : Path} {s : SU} {Y : List (List D)} (hS : RepS c s e l Y) (hp : act p e) {d n : Int} {x : Option Opd} (h : liO p s d x = some n) : optI ⟨e, l, o⟩ d x = some n := by
 cases x with
 | none => exact h
 | some x =>
  have hx := rdW_ok hS hp x
  simp only [liO] at h
  split at h
  ·rename_i k m hm
   rw [hm] at hx
   injection h with h
   subst h
   simp only [optI, rd_fst, (i_d hx.2).1]
  ·cases h
theorem zEl_ok {a : Ty} {ze : D} {q : a.T} (h : zElT a ze = some q) : a.val = true ∧ RepL c.P a c.F q [ze] := by
 unfold zElT at h
 split at h
 ·rename_i ds
  refine valT_ok (c := c) h ⟨ds, rfl, ?_⟩
  clear h
  induction ds with
  | nil => trivial
  | cons d r ih =>
   refine ⟨?_, ih⟩
   cases d with
   | v x => exact cV_ok x
   | sl m z xs =>
    cases m <;> first | exact (trivial : Rep2 c .un _) | skip
    cases xs with
    | nil => exact ⟨z, rfl⟩
    | cons => exact (trivial : Rep2 c .un _)
   | _ => exact (trivial : Rep2 c .un _)
 ·rename_i x; exact valT_ok (c := c) h (to4x2 (cV_ok x))
 ·rename_i z; exact valT_ok (c := c) (w := .nil) h ⟨z, rfl⟩
 ·cases h
where
 cV_ok (v : Value) : Rep2 c (cV v) (.v v) := by
  by_cases hv : ∃ a n k, v = .slice a n k
  ·obtain ⟨a, n, k, rfl⟩ := hv; exact trivial
  ·have : cV v = cW v := by
    cases v with
    | slice a n k => exact absurd ⟨a, n, k, rfl⟩ hv
    | _ => rfl
   rw [this]
   exact cW_ok' v fun e => hv ⟨none, 0, 0, e⟩
theorem chunks_flat {z : Nat} : ∀ {es : List D}, (∀ e ∈ es, e.cells.length = z ∧ mkEl e.cells = e) -> chunks z es.length (es.flatMap D.cells) = es
 | [], _ => rfl
 | a :: es, h => by
  obtain ⟨h1, h2⟩ := h a (by simp)
  have ih := chunks_flat fun e he => h e (List.mem_cons_of_mem _ he)
  simp only [List.length_cons, chunks, List.flatMap_cons]
  rw [<- h1, List.take_left', List.drop_left', h1, ih, h2] <;> rfl
theorem els_rf {τ : Ty} {xs : List τ.T} {es : List D} (hv : τ.val = true) (hk : eleOk τ = true) (h : All2 (fun y e => RepL c.P τ c.F y [e]) xs es) : es.all (fun d => d.cells.all D.rf1) = true :=
 All2.all_r (fun x e _ q => eleOk_rf hv q hk) h
theorem els_mk {τ : Ty} {xs : List τ.T} {es : List D} (hv : τ.val = true) (hk : eleOk τ = true) (hm : mkOk τ = true) (h : All2 (fun y e => RepL c.P τ c.F y [e]) xs es) : ∀ e ∈ es, e.cells.length = csz τ ∧ mkEl e.cells = e := fun e he => by
 refine ⟨els_len hv h e he, ?_⟩
 obtain ⟨i, hi⟩ := List.getElem?_of_mem he
 have hl := h.length
 obtain ⟨x, hx⟩ : ∃ x, xs[i]? = some x := by
  have := getq_lt hi
  exact ⟨xs[i]'(by omega), List.getElem?_eq_getElem (by omega)⟩
 obtain ⟨e', e1, e2⟩ := h.get hx
 rw [hi] at e1
 injection e1 with e1
 subst e1
 have hlen := els_len hv h e he
 cases τ with
 | g r =>
  obtain ⟨h1, cs, h2, h3⟩ := e2
  injection h2 with h2
  subst h2
  have h4 : cs.length = rowLen r := hlen
  have h5 : rowLen r ≠ 1 := fun q => by simp [mkOk, q] at hm
  match cs, h4 with
  | [], _ => rfl
  | [d], h4 => exact absurd h4.symm h5
  | d :: d' :: q, _ => rfl
 | i k => rw [(elOk_rf e2 hk).2]; rfl
 | b => rw [(elOk_rf e2 hk).2]; rfl
 | s => rw [(elOk_rf e2 hk).2]; rfl
 | l m t => rw [(elOk_rf e2 hk).2]; rfl
 | _ => cases hk
end
end Go.Proofs.Ytlhjdikklmkihaa.Ev.U
