/- A call's arguments, over typed values. Conditions: none. -/
import Derived.Test.YtlhjdikklmkihaaU5
set_option linter.all false
namespace Go.Proofs.Ytlhjdikklmkihaa.Ev.U
open Go
def gOp : Op -> Bool
 | .mv x => x.ot
 | .ext x _ => x.ot
 | .pk _ _ _ | .ld _ _ | .bin _ _ _ | .no _ | .un _ _ | .fa _ _ | .ia _ _ _ | .len _ | .lns _ | .slc _ _ _ _ | .eqn _ _ | .eqs _ _ _ | .eqb _ _ _ | .eqa _ _ _ _ | .sh _ _ _ | .ci _ _ | .mm _ _ _ | .nck _ | .bst _ | .bs _ _ _ | .mk _ _ _ _ _ _ | .bd _ _ | .mf _ _ => true
 | _ => false
section
variable {c : Cx}
def GR (c : Cx) (e : Env) (l : Bx) (Y : List (List D)) (t : Option Nat) (op : Op) (w : W) : Prop := ∃ d, Rep4 c w d ∧ ∀ B, Fam c B -> evOp c.P t op ⟨e, l, upd c.rg Y B⟩ = some (d, ⟨e, l, upd c.rg Y B⟩)
variable {e : Env} {l : Bx} {Y : List (List D)} {t : Option Nat} {s : SU}
theorem gr {op : Op} {w : W} {d : D} (h : Rep4 c w d) (h2 : ∀ o, evOp c.P t op ⟨e, l, o⟩ = some (d, ⟨e, l, o⟩)) : GR c e l Y t op w := ⟨d, h, fun B _ => h2 _⟩
theorem act_cons {p : Path} {n : Nat} {w : Bool} (h : act p e) (hn : get n e = .v (.bool w)) : act ((n, w) :: p) e := fun x hx => by
 rcases List.mem_cons.1 hx with rfl | hx
 ·exact hn
 ·exact h x hx
theorem ag_out {x : Opd} {w : W} {d : D} (h : Rep4 c w d) {ws : List W} (e : w = .ag ws) : ∃ cs, d = .agg cs ∧ All2 (Rep2 c) ws cs := by subst e; exact h
theorem strip_u_inv {τ : Ty} {x : τ.T} {d : D} : True := trivial
theorem flat_cells_l {m : Mode} {t : Ty} {xs : List t.T} {d : D} (h : Rep4 c (.u (.l m t) xs) d) : xs.length <= maxLn ∧ ∃ es, All2 (fun y e => RepL c.P t c.F y [e]) xs es ∧ (d = .sl m (csz t) es ∨ (es = [] ∧ ∃ z, d = .sl .nl z [])) := l_d h.2
theorem neq_mu {m : Mode} (h : m ≠ .mu) (h' : m ≠ .app) : m ≠ .mu := h
theorem mk_len {b : Nat} {n k : Int} (h : 0 < b) (h1 : 0 <= n) (h2 : n <= k) (h3 : (b : Int) * k <= 140737488355328) : n.toNat <= maxLn := by
 have h4 : k <= (b : Int) * k := by
  have := Int.mul_le_mul_of_nonneg_right (show (1 : Int) <= (b : Int) by omega) (show 0 <= k by omega)
  omega
 unfold maxLn
 omega
theorem chkI_ok {lo : Option Int} {n m : Int} {v : Unit} (l0 : 0 <= lo.getD 0) (h : chkI n m = some v) : 0 <= n ∧ m ≠ 0 ∧ n < (m.toNat : Int) ∧ 0 <= plusO lo n ∧ (plusO lo n).toNat = (lo.getD 0).toNat + n.toNat := by
 unfold chkI at h
 split at h
 ·rename_i hb
  cases lo with
  | none => exact ⟨hb.1, by omega, by omega, hb.1, by simp [plusO]⟩
  | some q =>
   have : 0 <= q := l0
   simp only [plusO, Option.getD_some]
   omega
 ·cases h
theorem u8s_of {P : Caller} {F : List Fx} : ∀ {xs : List Int} {es : List D}, All2 (fun (y : Int) e => RepL P (.i .u8) F y [e]) xs es -> u8s es = some (xs.map fun c => UInt8.ofNat c.toNat) ∧ ∀ c ∈ xs, 0 <= c ∧ c < 256
 | [], [], _ => ⟨rfl, fun c h => by cases h⟩
 | x :: xs, e :: es, h => by
  obtain ⟨h1, h2⟩ := h
  obtain ⟨rfl, hin⟩ := i_d h1
  obtain ⟨q1, q2⟩ := u8s_of h2
  have hx : 0 <= x ∧ x < 256 := by
   simp only [inK, decide_eq_true_eq] at hin
   omega
  refine ⟨by simp only [u8s, q1]; rfl, fun c hc => ?_⟩
  rcases List.mem_cons.1 hc with rfl | hc
  ·exact hx
  ·exact q2 c hc
 | [], _ :: _, h => h.elim
 | _ :: _, [], h => h.elim
theorem opG (hc : c.ok) (hS : RepS c s e l Y) {T : Tab} {p : Path} (hp : act p e) {a : Ty} {op : Op} (hg : gOp op = true) {w : W} {s' : SU} (h : (evOpW T p t a op s).out (some (w, s'))) : s' = s ∧ GR c e l Y t op w := by
 cases op with
 | mv x =>
  have hx := rdW_ok hS hp x
  have h := out_r h
  injection h with h
  have e1 : (rdW p x s).1 = w := congrArg Prod.fst h
  have e2 : (rdW p x s).2 = s' := congrArg Prod.snd h
  rw [rdW_ot hg] at e2
  rw [e1] at hx
  exact ⟨e2.symm, gr hx fun o => by simp only [evOp]; exact congrArg some (Prod.ext (rd_fst x e l o) ((rd_snd x e l o).trans (by rw [rdN_ot hg])))⟩
 | pk cc x y =>
  simp only [evOpW] at h
  split at h
  ·rename_i q hq
   have hcq := rdW_ok hS hp cc
   rw [hq] at hcq
   have hcd : rdE e cc = .v (.bool q) := b_d hcq.2
   split at h
   ·rename_i w' hot hm
    have h := out_r h
    injection h with h
    injection h with h1 h2
    subst h1 h2
    simp only [Bool.and_eq_true] at hot
    have key : ∀ b : Bool, q = b -> act (match (match cc with | .t n => some n | _ => none) with | some n => (n, b) :: p | none => p) e := by
     intro b hb
     subst hb
     split
     ·rename_i n hn
      split at hn
      ·rename_i n'
       injection hn with hn
       subst hn
       refine act_cons hp ?_
       have : (get n' e).strip = .v (.bool q) := hcd
       cases hv : get n' e with
       | v z => rw [hv] at this; exact this
       | sl m z xs => rw [hv] at this; cases m <;> cases this
       | agg cs => rw [hv] at this; cases this
       | tup ds => rw [hv] at this; cases this
       | _ => rw [hv] at this; cases this
      ·cases hn
     ·exact hp
    have := mergeW_ok (c := c) (x := rdE e x) (y := rdE e y) hm (fun hb => rdW_ok hS (key true hb) x) (fun hb => rdW_ok hS (key false hb) y)
    refine ⟨rfl, gr this fun o => ?_⟩
    simp only [evOp, rd_fst, hcd]
    cases q with
    | true => exact congrArg some (Prod.ext (rd_fst x e l o) ((rd_snd x e l o).trans (by rw [rdN_ot hot.1])))
    | false => exact congrArg some (Prod.ext (rd_fst y e l o) ((rd_snd y e l o).trans (by rw [rdN_ot hot.2])))
   ·exact h.elim
  ·exact h.elim
 | ld q x =>
  have hx := rdW_ok hS hp x
  simp only [evOpW] at h
  split at h
  ·rename_i pb off hq
   rw [hq] at hx
   split at h
   ·rename_i w' hb
    have h := out_r h
    injection h with h
    injection h with h1 h2
    subst h1 h2
    obtain ⟨ws, g1, g2⟩ := Option.bind_eq_some_iff.1 hb
    obtain ⟨f, b, o, ys, d1, d2, d3⟩ := bx_ok hc hS g1 hx
    obtain ⟨d, p1, p2⟩ := pick_ok d2 g2
    refine ⟨rfl, d.strip, strip_ok (to4 p2), fun B hB => ?_⟩
    obtain ⟨cs, b1, b2, b3⟩ := d3 B hB
    simp only [evOp, rd_fst, d1, b1, pick_in p1 b2 b3, Option.map_some]
   ·exact h.elim
  ·rename_i ws off hq
   rw [hq] at hx
   split at h
   ·rename_i w' hb
    have h := out_r h
    injection h with h
    injection h with h1 h2
    subst h1 h2
    obtain ⟨cs, hd, ha⟩ := hx
    obtain ⟨d, p1, p2⟩ := pick_ok (c := c) (ha.mono fun _ _ _ q => to2 (to1 q)) hb
    exact ⟨rfl, gr (to4 p2) fun o => by simp only [evOp, rd_fst, hd, p1, Option.map_some]⟩
   ·exact h.elim
  ·rename_i b τ i off hq
   rw [hq] at hx
   split at h
   ·rename_i τ' m' xs0 hb
    split at h
    ·rename_i xs hcast
     obtain ⟨v, o1, o2⟩ := out_b h
     obtain ⟨e1, e2⟩ := mu_cast hcast
     subst e1
     subst e2
     obtain ⟨w0, p1, p2⟩ := Option.map_eq_some_iff.1 o2
     injection p2 with p2 p3
     subst p2 p3
     obtain ⟨es, d, k1, _, _, _, ha, hl, hd, hr, hi⟩ := lb_at hS hb o1
     obtain ⟨f1, f2⟩ := flat_at (els_len k1.2 ha) hd
     obtain ⟨d', g1, g2⟩ := pick_ok (c := c) ((elW_ok k1.2 hr).mono fun _ _ _ q => to2 (to1 q)) p1
     have hz := el_len k1.2 hr
     have hp1 := pick_in g1 (o := i.toNat * csz τ') (cs := es.flatMap D.cells) (by rw [hz]; exact f1) (by rw [hz]; exact f2)
     refine ⟨rfl, d'.strip, strip_ok (to4 g2), fun B hB => ?_⟩
     simp only [evOp, rd_fst, hx.2, bx_own (fam_len hB Y), hl, hp1, Option.map_some]
    ·exact h.elim
   ·exact h.elim
  ·exact h.elim
 | bin o x y =>
  have hx := rdW_ok hS hp x
  have hy := rdW_ok hS hp y
  simp only [evOpW] at h
  split at h
  ·rename_i k m k' n h1 h2
   rw [h1] at hx; rw [h2] at hy
   obtain ⟨dx, kx⟩ := i_d hx.2
   obtain ⟨dy, ky⟩ := i_d hy.2
   split at h
   ·rename_i ek
    subst ek
    obtain ⟨w', o1, o2⟩ := out_map h
    injection o2 with o2
    injection o2 with o3 o4
    subst o3 o4
    obtain ⟨v, v1, v2⟩ := bin_ok (c := c) kx ky (fun hz => nzO_ok hz dy) o1
    exact ⟨rfl, gr v2 fun o => by simp only [evOp, rd_fst, dx, dy, if_true, v1, Option.map_some]⟩
   ·exact h.elim
  ·exact h.elim
 | no x =>
  have hx := rdW_ok hS hp x
  simp only [evOpW] at h
  split at h
  ·rename_i q h1
   rw [h1] at hx
   have h := out_r h
   injection h with h
   injection h with h2 h3
   subst h2 h3
   exact ⟨rfl, gr u_b fun o => by simp only [evOp, rd_fst, b_d hx.2]⟩
  ·exact h.elim
 | un xr x =>
  have hx := rdW_ok hS hp x
  simp only [evOpW] at h
  split at h
  ·rename_i k n h1
   rw [h1] at hx
   obtain ⟨dx, kx⟩ := i_d hx.2
   have h := out_r h
   injection h with h
   injection h with h2 h3
   subst h2 h3
   refine ⟨rfl, gr (d := .v (.int k (if xr then xorI k (if k.signed then -1 else k.max) n else k.wrap (0 - n)))) (u_i ?_) fun o => ?_⟩
   ·cases xr
    ·exact wrap_in _ _
    ·exact wrap_in _ _
   ·cases xr <;> simp only [evOp, rd_fst, dx] <;> rfl
  ·exact h.elim
 | fa x off =>
  have hx := rdW_ok hS hp x
  simp only [evOpW] at h
  split at h
  ·rename_i b o h1
   rw [h1] at hx
   have h := out_r h
   injection h with h
   injection h with h2 h3
   subst h2 h3
   cases b with
   | own b => exact ⟨rfl, gr (d := .ptr c.n b (o + off)) rfl fun o' => by simp only [evOp, rd_fst, show rdE e x = .ptr c.n b o from hx]⟩
   | ext i =>
    obtain ⟨r, g1, g2⟩ := hx
    refine ⟨rfl, gr (d := .ptr r.f r.b (r.o + (o + off))) ⟨r, g1, rfl⟩ fun o' => ?_⟩
    simp only [evOp, rd_fst, g2, Nat.add_assoc]
  ·rename_i ws o h1
   rw [h1] at hx
   have h := out_r h
   injection h with h
   injection h with h2 h3
   subst h2 h3
   obtain ⟨cs, hd, ha⟩ := hx
   exact ⟨rfl, gr (d := .fptr cs (o + off)) ⟨cs, rfl, ha⟩ fun o' => by simp only [evOp, rd_fst, hd]⟩
  ·rename_i b τ i o h1
   rw [h1] at hx
   have h := out_r h
   injection h with h
   injection h with h2 h3
   subst h2 h3
   exact ⟨rfl, gr (d := .ptr c.n b (i.toNat * csz τ + (o + off))) ⟨hx.1, rfl⟩ fun o' => by simp only [evOp, rd_fst, show rdE e x = .ptr c.n b (i.toNat * csz τ + o) from hx.2, Nat.add_assoc]⟩
  ·exact h.elim
 | ia x j z =>
  have hx := rdW_ok hS hp x
  have hj := rdW_ok hS hp j
  simp only [evOpW] at h
  split at h
  ·rename_i m t' xs k n h1 h2
   rw [h1] at hx; rw [h2] at hj
   obtain ⟨hl, es, ha, hd⟩ := flat_cells_l hx
   obtain ⟨dj, kj⟩ := i_d hj.2
   split at h
   ·rename_i hz
    obtain ⟨v, o1, o2⟩ := out_b h
    injection o2 with o2
    injection o2 with o3 o4
    subst o3 o4
    obtain ⟨i1, i2⟩ := idx_some o1
    obtain ⟨d, e1, e2⟩ := ha.get i2
    have hd : rdE e x = .sl m (csz t') es := by
     rcases hd with hd | ⟨rfl, _⟩
     ·exact hd
     ·simp at e1
    refine ⟨rfl, gr (d := .fptr d.cells 0) ⟨d.cells, rfl, elW_ok hz.2.2.2 e2⟩ fun o => ?_⟩
    simp only [evOp, rd_fst, hd, dj]
    rw [if_pos ⟨hz.1.symm, i1, hz.2.1⟩, e1]; rfl
   ·exact h.elim
  ·obtain ⟨v, o1, o2⟩ := out_b h
   cases o1
  ·rename_i b τ lo m k n h1 h2
   rw [h1] at hx; rw [h2] at hj
   obtain ⟨⟨n0, n1, l0⟩, hd⟩ := hx
   obtain ⟨dj, kj⟩ := i_d hj.2
   split at h
   ·rename_i hz
    obtain ⟨v, o1, o2⟩ := out_b h
    injection o2 with o2
    injection o2 with o3 o4
    subst o3 o4
    obtain ⟨b1, b2, b3, hpl⟩ := chkI_ok l0 o1
    have hd : rdE e x = .ref c.n b ((lo.getD 0).toNat * csz τ) m.toNat (csz τ) := by
     rcases hd with hd | ⟨h0, _⟩
     ·exact hd
     ·exact absurd h0 b2
    refine ⟨rfl, gr (d := .ptr c.n b ((plusO lo n).toNat * csz τ + 0)) ⟨hpl.1, rfl⟩ fun o => ?_⟩
    simp only [evOp, rd_fst, hd, dj]
    rw [if_pos ⟨hz.symm, b1, b3⟩, hpl.2, Nat.add_mul, Nat.add_zero, <- hz]
   ·exact h.elim
  ·exact h.elim
 | ext x i =>
  have hx := rdW_ok hS hp x
  cases x with
  | m n => cases hg
  | t n =>
   simp only [evOpW] at h
   split at h
   ·rename_i ws h1
    rw [h1] at hx
    obtain ⟨ds, hd, ha⟩ := hx
    split at h
    ·rename_i w' hw
     have h := out_r h
     injection h with h
     injection h with h2 h3
     subst h2 h3
     obtain ⟨d, e1, e2⟩ := ha.get hw
     exact ⟨rfl, gr (to4 e2) fun o => by simp only [evOp, rd_fst, hd, e1, Option.map_some]⟩
    ·exact h.elim
   ·exact h.elim
  | c v =>
   simp only [evOpW] at h
   split at h
   ·rename_i ws h1
    rw [h1] at hx
    obtain ⟨ds, hd, ha⟩ := hx
    cases hd
   ·exact h.elim
  | cn =>
   simp only [evOpW] at h
   split at h
   ·rename_i ws h1; cases h1
   ·exact h.elim
  | f n =>
   simp only [evOpW] at h
   split at h
   ·rename_i ws h1; cases h1
   ·exact h.elim
 | len x =>
  have hx := rdW_ok hS hp x
  simp only [evOpW] at h
  split at h
  ·rename_i m t' xs h1
   rw [h1] at hx
   obtain ⟨hl, es, ha, hd⟩ := flat_cells_l hx
   have h := out_r h
   injection h with h
   injection h with h2 h3
   subst h2 h3
   refine ⟨rfl, gr (u_i (nat_in _ hl)) fun o => ?_⟩
   rcases hd with hd | ⟨rfl, z, hd⟩
   ·simp only [evOp, rd_fst, hd, ha.length]
   ·simp only [evOp, rd_fst, hd, ha.length]
  ·rename_i h1
   rw [h1] at hx
   obtain ⟨z, hd⟩ := hx
   have h := out_r h
   injection h with h
   injection h with h2 h3
   subst h2 h3
   exact ⟨rfl, gr (u_i (n := 0) rfl) fun o => by simp only [evOp, rd_fst, hd]; rfl⟩
  ·rename_i b τ lo n h1
   rw [h1] at hx
   obtain ⟨⟨n0, n1, l0⟩, hd⟩ := hx
   have h := out_r h
   injection h with h
   injection h with h2 h3
   subst h2 h3
   have hin : inK .i64 n = true := by
    have := nat_in n.toNat (by unfold maxLn at n1; omega)
    rwa [Int.toNat_of_nonneg n0] at this
   refine ⟨rfl, gr (u_i hin) fun o => ?_⟩
   rcases hd with hd | ⟨h0, z, hd⟩
   ·simp only [evOp, rd_fst, hd, Int.toNat_of_nonneg n0]
   ·simp only [evOp, rd_fst, hd, h0]; rfl
  ·exact h.elim
 | lns x =>
  have hx := rdW_ok hS hp x
  simp only [evOpW] at h
  split at h
  ·rename_i xs h1
   rw [h1] at hx
   obtain ⟨hd, hl, _⟩ := s_d hx.2
   have h := out_r h
   injection h with h
   injection h with h2 h3
   subst h2 h3
   refine ⟨rfl, gr (u_i (nat_in _ hl)) fun o => ?_⟩
   simp only [evOp, rd_fst, hd]
   have : (strV xs).size = List.length (α := Int) xs := by simp [strV, ByteArray.size]
   rw [this]
  ·exact h.elim
 | bst x =>
  have hx := rdW_ok hS hp x
  simp only [evOpW] at h
  split at h
  ·rename_i xs h1
   rw [h1] at hx
   obtain ⟨hl, es, ha, hd⟩ := flat_cells_l hx
   have h := out_r h
   injection h with h
   injection h with h2 h3
   subst h2 h3
   obtain ⟨q1, q2⟩ := u8s_of ha
   have hq2 : ∀ c : Int, List.Mem (α := Int) c xs -> 0 <= c ∧ c < 256 := fun c hc => q2 c hc
   refine ⟨rfl, gr (show Rep4 c (.u .s xs) (.v (.string (strV xs))) from ⟨rfl, rfl, hl, hq2⟩) fun o => ?_⟩
   rcases hd with hd | ⟨rfl, z, hd⟩
   ·simp only [evOp, rd_fst, hd]
    rw [if_pos ⟨by decide, by decide, .inl rfl⟩, q1]; rfl
   ·obtain rfl := ha.nil_r
    simp only [evOp, rd_fst, hd]
    rw [if_pos ⟨by decide, by decide, .inr rfl⟩]; rfl
  ·rename_i h1
   rw [h1] at hx
   obtain ⟨z, hd⟩ := hx
   have h := out_r h
   injection h with h
   injection h with h2 h3
   subst h2 h3
   refine ⟨rfl, gr (show Rep4 c (.u .s ([] : List Int)) (.v (.string (strV []))) from ⟨rfl, rfl, Nat.zero_le _, fun c hc => by cases hc⟩) fun o => ?_⟩
   have hd : rdE e x = .sl .nl z [] := hd
   simp only [evOp, rd_fst, hd]
   rw [if_pos ⟨by decide, by decide, .inr rfl⟩]; rfl
  ·exact h.elim
 | slc z x lo hi =>
  have hx := rdW_ok hS hp x
  simp only [evOpW] at h
  split at h
  ·rename_i t' xs h1
   rw [h1] at hx
   obtain ⟨hl, es, ha, hd⟩ := flat_cells_l hx
   split at h
   ·rename_i lo' hi' g1 g2
    split at h
    ·rename_i hz
     obtain ⟨v, o1, o2⟩ := out_b h
     injection o2 with o2
     injection o2 with o3 o4
     subst o3 o4
     obtain ⟨⟨c1, c2, c3⟩, rfl⟩ := cut_some o1
     have g1' := fun o => liO_ok (l := l) (o := o) hS hp g1
     have g2' := fun o => liO_ok (l := l) (o := o) hS hp g2
     rw [ha.length] at g2'
     rw [ha.length] at c3
     have hres : All2 (fun y e => RepL c.P t' c.F y [e]) ((xs.take hi'.toNat).drop lo'.toNat) ((es.take hi'.toNat).drop lo'.toNat) := (ha.take _).drop _
     have hlen : ((xs.take hi'.toNat).drop lo'.toNat).length <= maxLn := by
      simp only [List.length_drop, List.length_take]; omega
     rcases hd with hd | ⟨rfl, z', hd⟩
     ·refine ⟨rfl, gr (d := .sl .ro z ((es.take hi'.toNat).drop lo'.toNat)) ⟨rfl, hlen, _, hres, .inl (by rw [hz])⟩ fun o => ?_⟩
      simp only [evOp, rd_fst, hd, g1', g2']
      rw [if_pos ⟨.inl hz.symm, c1, c2, c3⟩]
     ·have hn : ∀ k, List.drop k (List.take hi'.toNat ([] : List D)) = [] := fun k => by simp
      rw [hn] at hres
      refine ⟨rfl, gr (d := .sl .nl 0 []) ⟨rfl, hlen, [], hres, .inr ⟨rfl, 0, rfl⟩⟩ fun o => ?_⟩
      simp only [evOp, rd_fst, hd, g1', g2']
      rw [if_pos ⟨.inr rfl, c1, c2, c3⟩]
    ·exact h.elim
   ·exact h.elim
  ·rename_i b τ lo0 n h1
   rw [h1] at hx
   obtain ⟨⟨n0, n1, l0⟩, hd⟩ := hx
   split at h
   ·rename_i lo' hi' g1 g2
    split at h
    ·rename_i hz
     obtain ⟨v, o1, o2⟩ := out_b h
     injection o2 with o2
     injection o2 with o3 o4
     subst o3 o4
     have hb : 0 <= lo' ∧ lo' <= hi' ∧ hi' <= n := by
      unfold chkS at o1
      split at o1
      ·assumption
      ·cases o1
     have g1' := fun o => liO_ok (l := l) (o := o) hS hp g1
     have g2' := fun o => liO_ok (l := l) (o := o) hS hp g2
     have hpl : 0 <= plusO lo0 lo' ∧ (plusO lo0 lo').toNat = (lo0.getD 0).toNat + lo'.toNat := by
      cases lo0 with
      | none => exact ⟨hb.1, by simp [plusO]⟩
      | some q =>
       have : 0 <= q := l0
       simp only [plusO, Option.getD_some]
       omega
     have hinv : 0 <= hi' - lo' ∧ hi' - lo' <= (maxLn : Int) ∧ 0 <= (some (plusO lo0 lo')).getD 0 := ⟨by omega, by omega, hpl.1⟩
     rcases hd with hd | ⟨h0, z', hd⟩
     ·refine ⟨rfl, gr (d := .ref c.n b ((plusO lo0 lo').toNat * csz τ) (hi' - lo').toNat (csz τ)) ⟨hinv, .inl rfl⟩ fun o => ?_⟩
      simp only [evOp, rd_fst, hd, g1', Int.toNat_of_nonneg n0, g2']
      rw [if_pos ⟨hz.symm, hb.1, hb.2.1, hb.2.2⟩, hpl.2, Nat.add_mul, <- hz, show (hi' - lo').toNat = hi'.toNat - lo'.toNat by omega]
     ·refine ⟨rfl, gr (d := .sl .nl 0 []) ⟨hinv, .inr ⟨by omega, 0, rfl⟩⟩ fun o => ?_⟩
      subst h0
      simp only [evOp, rd_fst, hd, g1', List.length_nil, Int.ofNat_zero, g2']
      rw [if_pos ⟨.inr rfl, hb.1, hb.2.1, hb.2.2⟩]
    ·exact h.elim
   ·exact h.elim
  ·exact h.elim
 | eqn ne x =>
  have hx := rdW_ok hS hp x
  simp only [evOpW] at h
  split at h
  ·rename_i t' xs h1
   rw [h1] at hx
   obtain ⟨hl, es, ha, hd⟩ := flat_cells_l hx
   obtain ⟨v, o1, o2⟩ := out_b h
   injection o2 with o2
   injection o2 with o3 o4
   subst o3 o4
   unfold nilq at o1
   split at o1
   ·cases o1
   ·rename_i hne
    injection o1 with o1
    subst o1
    have hes : es ≠ [] := fun q => by subst q; rw [ha.nil_r] at hne; exact hne rfl
    rcases hd with hd | ⟨q, _⟩
    ·refine ⟨rfl, gr u_b fun o => ?_⟩
     simp only [evOp, rd_fst, hd]
    ·exact absurd q hes
  ·rename_i h1
   rw [h1] at hx
   obtain ⟨z, hd⟩ := hx
   have h := out_r h
   injection h with h
   injection h with h2 h3
   subst h2 h3
   exact ⟨rfl, gr u_b fun o => by simp only [evOp, rd_fst, hd]⟩
  ·exact h.elim
 | eqs ne x y =>
  have hx := rdW_ok hS hp x
  have hy := rdW_ok hS hp y
  simp only [evOpW] at h
  split at h
  ·rename_i a b h1 h2
   rw [h1] at hx; rw [h2] at hy
   obtain ⟨dx, _, rx⟩ := s_d hx.2
   obtain ⟨dy, _, ry⟩ := s_d hy.2
   have h := out_r h
   injection h with h
   injection h with h2 h3
   subst h2 h3
   refine ⟨rfl, gr u_b fun o => ?_⟩
   simp only [evOp, rd_fst, dx, dy]
   rw [veq_ok.strV_eq rx ry]
   cases ne <;> simp
  ·exact h.elim
 | eqb ne x y =>
  have hx := rdW_ok hS hp x
  have hy := rdW_ok hS hp y
  simp only [evOpW] at h
  split at h
  ·rename_i a b h1 h2
   rw [h1] at hx; rw [h2] at hy
   have dx := b_d hx.2
   have dy := b_d hy.2
   have h := out_r h
   injection h with h
   injection h with h2 h3
   subst h2 h3
   exact ⟨rfl, gr u_b fun o => by simp only [evOp, rd_fst, dx, dy]⟩
  ·exact h.elim
 | eqa ne z x y =>
  have hx := rdW_ok hS hp x
  have hy := rdW_ok hS hp y
  simp only [evOpW] at h
  split at h
  ·rename_i xs ys h1 h2
   rw [h1] at hx; rw [h2] at hy
   obtain ⟨as_, dx, ax⟩ := hx
   obtain ⟨bs, dy, ay⟩ := hy
   split at h
   ·rename_i q z1 z2
    have h := out_r h
    injection h with h
    injection h with h2 h3
    subst h2 h3
    have := veq_ok z1 z2 ax ay
    refine ⟨rfl, gr u_b fun o => ?_⟩
    simp only [evOp, rd_fst, dx, dy, this, Option.map_some]
    cases ne <;> simp
   ·exact h.elim
  ·exact h.elim
 | sh o x y =>
  have hx := rdW_ok hS hp x
  have hy := rdW_ok hS hp y
  simp only [evOpW] at h
  split at h
  ·rename_i k m k' n h1 h2
   rw [h1] at hx; rw [h2] at hy
   obtain ⟨dx, kx⟩ := i_d hx.2
   obtain ⟨dy, ky⟩ := i_d hy.2
   obtain ⟨w', o1, o2⟩ := out_map h
   injection o2 with o2
   injection o2 with o3 o4
   subst o3 o4
   obtain ⟨v, v1, v2⟩ := sh_ok (c := c) kx (fun hz => nnO_ok hz dy) o1
   exact ⟨rfl, gr v2 fun o => by simp only [evOp, rd_fst, dx, dy, v1, Option.map_some]⟩
  ·exact h.elim
 | ci k x =>
  have hx := rdW_ok hS hp x
  simp only [evOpW] at h
  split at h
  ·rename_i k' n h1
   rw [h1] at hx
   obtain ⟨dx, _⟩ := i_d hx.2
   have h := out_r h
   injection h with h
   injection h with h2 h3
   subst h2 h3
   exact ⟨rfl, gr (u_i (wrap_in _ _)) fun o => by simp only [evOp, rd_fst, dx]⟩
  ·exact h.elim
 | mm mx x r =>
  have hx := rdW_ok hS hp x
  simp only [evOpW] at h
  split at h
  ·rename_i k n h1
   rw [h1] at hx
   obtain ⟨dx, kx⟩ := i_d hx.2
   split at h
   ·rename_i v hv
    have h := out_r h
    injection h with h
    injection h with h2 h3
    subst h2 h3
    refine ⟨rfl, gr (u_i (mm_ok (e := e) (l := l) (o := []) hS hp kx hv).2) fun o => ?_⟩
    simp only [evOp, rd_fst, dx, (mm_ok (e := e) (l := l) (o := o) hS hp kx hv).1, Option.map_some]
   ·exact h.elim
  ·exact h.elim
 | mf f caps =>
  simp only [evOpW] at h
  split at h
  ·rename_i hw
   have h := out_r h
   injection h with h
   injection h with h2 h3
   subst h2 h3
   have ha := rdsW_ok hS hp caps
   have ha1 : All2 (Rep1 c) (rdsW p s caps) (caps.map (rdE e)) := ha.mono fun w d hm q => by
    have := List.all_eq_true.1 hw w hm
    cases w with
    | pt => exact q
    | fp => exact q
    | u => exact q
    | _ => cases this
   refine ⟨rfl, gr (d := .clo f (caps.map (rdE e))) ⟨_, rfl, ha1, hw⟩ fun o => ?_⟩
   have hcap : (caps.map (rdE e)).all D.capB = true := All2.all_r (fun w d hm q => by
    have := List.all_eq_true.1 hw w hm
    cases w with
    | pt b off => cases b with
     | own b => rw [show d = .ptr c.n b off from q]; rfl
     | ext i => obtain ⟨r, _, rfl⟩ := q; rfl
    | fp => obtain ⟨_, rfl, _⟩ := q; rfl
    | u τ x => cases τ with
     | i k => rw [(i_d q.2).1]; rfl
     | b => rw [b_d q.2]; rfl
     | s => rw [(s_d q.2).1]; rfl
     | _ => cases this
    | _ => cases this) ha
   simp only [evOp, rdsE_eq, hcap, if_true]
  ·exact h.elim
 | nck x =>
  have hx := rdW_ok hS hp x
  simp only [evOpW] at h
  split at h
  ·rename_i b o h1
   rw [h1] at hx
   have h := out_r h
   injection h with h
   injection h with h2 h3
   subst h2 h3
   cases b with
   | own b => exact ⟨rfl, gr (d := .ptr c.n b o) rfl fun o' => by simp only [evOp, rd_fst, show rdE e x = .ptr c.n b o from hx]⟩
   | ext i =>
    obtain ⟨r, g1, g2⟩ := hx
    exact ⟨rfl, gr (d := .ptr r.f r.b (r.o + o)) ⟨r, g1, rfl⟩ fun o' => by simp only [evOp, rd_fst, g2]⟩
  ·rename_i ws o h1
   rw [h1] at hx
   have h := out_r h
   injection h with h
   injection h with h2 h3
   subst h2 h3
   obtain ⟨cs, hd, ha⟩ := hx
   exact ⟨rfl, gr (d := .fptr cs o) ⟨cs, rfl, ha⟩ fun o' => by simp only [evOp, rd_fst, hd]⟩
  ·rename_i b τ i o h1
   rw [h1] at hx
   have h := out_r h
   injection h with h
   injection h with h2 h3
   subst h2 h3
   exact ⟨rfl, gr (d := .ptr c.n b (i.toNat * csz τ + o)) ⟨hx.1, rfl⟩ fun o' => by simp only [evOp, rd_fst, show rdE e x = .ptr c.n b (i.toNat * csz τ + o) from hx.2]⟩
  ·exact h.elim
 | bs wm z xs =>
  simp only [evOpW] at h
  split at h
  ·rename_i l' hk hl
   split at h
   ·rename_i hz
    have h := out_r h
    injection h with h
    injection h with h2 h3
    subst h2 h3
    have ha := rdsW_ok hS hp xs
    obtain ⟨_, hb⟩ := allT_ok hl ha
    have hlen : l'.length = xs.length := by rw [hb.length, List.length_map]
    refine ⟨rfl, gr (d := .sl (if wm = true then .mu else .app) z (xs.map (rdE e))) ⟨rfl, (by unfold maxLn; omega), _, hb, .inl (by rw [hz.1]; rfl)⟩ fun o => ?_⟩
    have hall : (xs.map (rdE e)).all (fun d => decide (d.cells.length = z) && d.cells.all D.rf1) = true := All2.all_r (fun x d _ q => by
     rw [el_len hz.2.1 q, eleOk_rf hz.2.1 q hk, hz.1]; simp) hb
    simp only [evOp, rdsE_eq, hall, if_true]
   ·exact h.elim
  ·exact h.elim
 | mk w z by_ ze n k =>
  have hn := rdW_ok hS hp n
  have hk := rdW_ok hS hp k
  simp only [evOpW] at h
  split at h
  ·rename_i q kn nn kk nk h0 hq h1 h2
   rw [h1] at hn; rw [h2] at hk
   obtain ⟨dn, _⟩ := i_d hn.2
   obtain ⟨dk, _⟩ := i_d hk.2
   split at h
   ·rename_i hz
    obtain ⟨v, o1, o2⟩ := out_b h
    injection o2 with o2
    injection o2 with o3 o4
    subst o3 o4
    obtain ⟨⟨c1, c2, c3⟩, rfl⟩ := mkl_some o1
    obtain ⟨z1, z2⟩ := zEl_ok (c := c) hq
    have hlen := mk_len hz.2 c1 c2 c3
    refine ⟨rfl, gr (d := .sl (if w then .mu else .app) z (List.replicate (Int.toNat nn) ze)) ⟨rfl, (by simpa using hlen), _, All2.rep (R := fun y e => RepL c.P a c.F y [e]) z2 _, .inl (by rw [hz.1]; rfl)⟩ fun o => ?_⟩
    simp only [evOp, rd_fst, dn, dk]
    rw [if_pos ⟨c1, c2, c3⟩]
   ·exact h.elim
  ·exact h.elim
 | bd z ps =>
  simp only [evOpW] at h
  split at h
  ·rename_i cs hl
   have h := out_r h
   injection h with h
   injection h with h2 h3
   subst h2 h3
   have hz : All2 (Rep2 c) (z.map cW) (z.map zc) := by
    clear hl hg
    induction z with
    | nil => trivial
    | cons v r ih => exact ⟨cW_ok v, ih⟩
   obtain ⟨ds, _, g2⟩ := lay_ok (l := l) (o := []) hc hS hp hl hz
   have g : ∀ o, lay ⟨e, l, o⟩ (z.map zc) ps = some ds := fun o => by
    have := lay_same (s := ⟨e, l, []⟩) (s' := ⟨e, l, o⟩) (ps := ps) (fun _ _ => rfl) (z.map zc)
    rw [<- this]; assumption
   exact ⟨rfl, gr (d := .agg ds) ⟨ds, rfl, g2⟩ fun o => by simp only [evOp, g, Option.map_some]⟩
  ·exact h.elim
 | _ => cases hg
end
end Go.Proofs.Ytlhjdikklmkihaa.Ev.U
namespace Go.Proofs.Ytlhjdikklmkihaa.Ev.U
open Go
section
variable {c : Cx} {e : Env} {l : Bx} {Y : List (List D)} {t : Option Nat} {s : SU}
theorem lkW_sbW {b b' : Nat} {ws : List W} : ∀ {L : List (Nat × List W)}, lkW b' (sbW b ws L) = if b' = b then (lkW b L).map fun _ => ws else lkW b' L
 | [] => by simp [sbW, lkW]
 | (n, q) :: r => by
  have ih := lkW_sbW (b := b) (b' := b') (ws := ws) (L := r)
  by_cases h : b = n
  ·subst h
   simp only [sbW, Nat.beq_refl, cond_true, lkW]
   by_cases h' : b' = b
   ·subst h'; simp [lkW]
   ·simp only [nbeq_f h', cond_false, if_neg h', lkW]
  ·simp only [sbW, nbeq_f h, cond_false, lkW]
   by_cases h' : b' = n
   ·subst h'
    simp only [Nat.beq_refl, cond_true]
    rw [if_neg (Ne.symm h)]
   ·simp only [nbeq_f h', cond_false]
    exact ih
theorem wr_ok (hc : c.ok) (hS : RepS c s e l Y) {pb : PB} {ws : List W} {off : Nat} {d : D} (hb : getBx pb s = some ws) (hd : Rep0 c (.pt pb off) d) :
  ∃ f b o ys, d = .ptr f b (o + off) ∧ All2 (Rep2 c) ws ys ∧ f < c.n + 1 ∧ (∀ B, Fam c B -> ∃ full, (∀ e', bx f b ⟨e', l, upd c.rg Y B⟩ = some full) ∧ o + ys.length <= full.length ∧ (full.drop o).take ys.length = ys) ∧
  ∀ {cs : List W} {ds : List D} {s' : SU}, setBx pb (overW ws off cs) s = some s' -> All2 (Rep2 c) cs ds -> off + cs.length <= ws.length ->
   ∃ l' Y', RepS c s' e l' Y' ∧ ∀ B, Fam c B -> ∀ full, (∀ e', bx f b ⟨e', l, upd c.rg Y B⟩ = some full) -> ∀ e', sbx f b (over full (o + off) ds) ⟨e', l, upd c.rg Y B⟩ = ⟨e', l', upd c.rg Y' B⟩ := by
 have hov : ∀ {cs : List W} {ds ys : List D}, All2 (Rep2 c) cs ds -> All2 (Rep2 c) ws ys -> All2 (Rep2 c) (overW ws off cs) (over ys off ds) := fun hcs h => by
  unfold overW over
  rw [hcs.length]
  exact ((h.take off).app hcs).app (h.drop _)
 cases pb with
 | own b =>
  obtain ⟨hb0, ys, h1, h2⟩ := own_box hS hb
  refine ⟨c.n, b, 0, ys, by rw [Nat.zero_add]; exact hd, h2, Nat.lt_succ_self _, fun B hB => ⟨ys, fun e' => ?_, by omega, by simp⟩, fun {cs ds s'} hs hcs hl => ?_⟩
  ·rw [bx_own (fam_len hB Y), h1]
  have e1 : s' = { s with l := sbW b (overW ws off cs) s.l } := (Option.some.inj hs).symm
  subst e1
  refine ⟨sb b (over ys off ds) l, Y, ?_, fun B hB full hfull e' => ?_⟩
  ·refine ⟨hS.env, fun b' ws' hb' => ?_, fun b' hb' => hS.nm b' fun q => hb' ?_, hS.ext, hS.wr, hS.len, hS.ro⟩
   ·simp only [lkW_sbW] at hb'
    rw [lk_sb]
    by_cases e : b' = b
    ·rw [if_pos e] at hb' ⊢
     rw [h1]
     rw [hb0] at hb'
     have := Option.some.inj hb'
     subst this
     exact BRep.of (hov hcs h2)
    ·rw [if_neg e] at hb' ⊢
     exact hS.box b' ws' hb'
   ·rw [lk_sb]
    by_cases e : b' = b
    ·rw [e] at q; rw [h1] at q; cases q
    ·rw [if_neg e]; exact q
  ·have := hfull e'
   rw [bx_own (fam_len hB Y), h1] at this
   have := Option.some.inj this
   subst this
   rw [Nat.zero_add]
   unfold sbx
   rw [if_pos (fam_len hB Y).symm]; rfl
 | ext i =>
  obtain ⟨r, h1, h2⟩ := hd
  obtain ⟨ys, h3, h4⟩ := hS.ext.get (i := i) hb
  have hf := hc.lt r (List.mem_of_getElem? h1)
  refine ⟨r.f, r.b, r.o, ys, h2, h4, Nat.lt_succ_of_lt hf, fun B hB => ?_, fun {cs ds s'} hs hcs hl => ?_⟩
  ·obtain ⟨l', full, a1, a2, a3, a4⟩ := fam_at hc hS hB h1 h3
   refine ⟨full, fun e' => ?_, a3, a4⟩
   rw [bx_out (by rw [fam_len hB Y]; exact hf), a1]; exact a2
  simp only [setBx] at hs
  split at hs
  ·rename_i hw
   have e1 := (Option.some.inj hs).symm
   subst e1
   have hrw : r.w = true := by
    have := hS.wr
    rw [this, List.getElem?_map, h1] at hw
    exact Option.some.inj hw
   obtain ⟨hz, _⟩ := hS.ro i r ys h1 h3
   have hlen : off + ds.length <= ys.length := by rw [<- hcs.length, <- h4.length]; exact hl
   have hzl : (over ys off ds).length = r.z := by rw [over_len hlen]; exact hz
   refine ⟨l, Y.set i (over ys off ds), ?_, fun B hB full hfull e' => ?_⟩
   ·refine ⟨hS.env, hS.box, hS.nm, hS.ext.set i (hov hcs h4), hS.wr, by rw [List.length_set]; exact hS.len, fun j q zs hq hj => ?_⟩
    rw [List.getElem?_set] at hj
    split at hj
    ·rename_i e
     subst e
     split at hj
     ·rw [h1] at hq
      have e1 := Option.some.inj hq
      have e2 := Option.some.inj hj
      subst e1 e2
      exact ⟨hzl, fun hf => by rw [hrw] at hf; cases hf⟩
     ·cases hj
    ·exact hS.ro j q zs hq hj
   ·obtain ⟨l', full', a1, a2, a3, a4⟩ := fam_at hc hS hB h1 h3
    have hq := hfull e'
    rw [bx_out (by rw [fam_len hB Y]; exact hf), a1] at hq
    rw [show (some l').bind (lk r.b) = lk r.b l' from rfl, a2] at hq
    have := Option.some.inj hq
    subst this
    unfold sbx
    rw [if_neg (by simp only [fam_len hB Y]; omega)]
    have : (upd c.rg Y B).modify r.f (sb r.b (over full' (r.o + off) ds)) = wrR r (over ys off ds) (upd c.rg Y B) := by
     apply List.ext_getElem?
     intro f
     rw [wrR_get, List.getElem?_modify]
     by_cases ef : r.f = f
     ·subst ef
      rw [a1]
      simp only [Option.map_eq_map, Option.map_some, if_true, a2, Option.getD_some]
      rw [<- over_in a3 hlen, over_id a4 a3]
     ·rw [if_neg ef]
      cases hbf : (upd c.rg Y B)[f]? with
      | none => rfl
      | some z => simp only [Option.map_eq_map, Option.map_some, if_neg ef]
    rw [show (S.wo ⟨e', l, upd c.rg Y B⟩ ((upd c.rg Y B).modify r.f (sb r.b (over full' (r.o + off) ds)))) = ⟨e', l, (upd c.rg Y B).modify r.f (sb r.b (over full' (r.o + off) ds))⟩ from rfl, this,
     upd_set hc.dj hB.rg (fun i r ys a b => (hS.ro i r ys a b).1) h1 hrw h3 hzl]
  ·cases hs
def SR (c : Cx) (e : Env) (l : Bx) (Y : List (List D)) (t : Option Nat) (op : Op) (w : W) (s' : SU) : Prop := ∃ d e' l' Y', RepS c s' e' l' Y' ∧ Rep4 c w d ∧ ∀ B, Fam c B -> evOp c.P t op ⟨e, l, upd c.rg Y B⟩ = some (d, ⟨e', l', upd c.rg Y' B⟩)
theorem GR.sr {op : Op} {w : W} (hS : RepS c s e l Y) (h : GR c e l Y t op w) : SR c e l Y t op w s := by
 obtain ⟨d, h1, h2⟩ := h
 exact ⟨d, e, l, Y, hS, h1, h2⟩
theorem hasN_c {n m : Nat} {r : List Nat} : hasN n (m :: r) = (bif Nat.beq n m then true else hasN n r) := rfl
theorem al_ok (hS : RepS c s e l Y) {b : Nat} (hb : hasN b s.m = false) {ws : List W} {ds : List D} (h : All2 (Rep2 c) ws ds) : lk b l = none ∧ RepS c { s with l := (b, ws) :: s.l, m := b :: s.m } e (ins b ds l) Y := by
 have hn : lk b l = none := by
  cases hq : lk b l with
  | none => rfl
  | some q => rw [hS.nm b (by rw [hq]; simp)] at hb; cases hb
 refine ⟨hn, hS.env, fun b' ws' hb' => ?_, fun b' hb' => ?_, hS.ext, hS.wr, hS.len, hS.ro⟩
 ·simp only [lkW] at hb'
  rw [lk_ins hn]
  by_cases e : b' = b
  ·rw [if_pos e]
   rw [e, Nat.beq_refl, cond_true] at hb'
   have := Option.some.inj hb'
   subst this
   exact BRep.of h
  ·rw [if_neg e]
   rw [nbeq_f e, cond_false] at hb'
   exact hS.box b' ws' hb'
 ·rw [hasN_c]
  by_cases e : b' = b
  ·rw [e, Nat.beq_refl]; rfl
  ·rw [nbeq_f e, cond_false]
   rw [lk_ins hn, if_neg e] at hb'
   exact hS.nm b' hb'
theorem cells_ok (hc : c.ok) {w : W} {d : D} (h : Rep4 c w d) (hw : w.cells.all W.sto = true) : All2 (Rep2 c) w.cells d.cells ∧ d.bnd2 (c.n + 1) = true ∧ d.cells.all D.sto1 = true := by
 cases w with
 | ag cs =>
  obtain ⟨ds, rfl, h2⟩ := h
  exact ⟨h2, All2.all_r (fun w d hm q => (sto_ok hc q (List.all_eq_true.1 hw w hm)).1) h2, All2.all_r (fun w d hm q => (sto_ok hc q (List.all_eq_true.1 hw w hm)).2.1) h2⟩
 | tp => simp [W.cells, W.sto] at hw
 | un => simp [W.cells, W.sto] at hw
 | gd => simp [W.cells, W.sto] at hw
 | _ =>
  have hx2 := of3 (of4 h (fun _ q => by cases q)) (fun _ q => by cases q)
  simp only [W.cells, List.all_cons, List.all_nil, Bool.and_true] at hw
  have hq := sto_ok hc hx2 hw
  refine ⟨by rw [hq.2.2.1]; exact ⟨hx2, trivial⟩, ?_, by rw [hq.2.2.1]; simp [hq.2.1]⟩
  have : ∀ {d : D}, d.aggB = false -> d.bnd2 (c.n + 1) = d.bnd1 (c.n + 1) := fun {d} h => by cases d <;> first | rfl | cases h
  rw [this hq.2.2.2.1]; exact hq.1
theorem rdW_sub {x : Opd} : (rdW [] x s).2.l = s.l ∧ (rdW [] x s).2.m = s.m ∧ (rdW [] x s).2.x = s.x ∧ (rdW [] x s).2.w = s.w := by cases x <;> exact ⟨rfl, rfl, rfl, rfl⟩
theorem getBx_rd {x : Opd} {b : PB} : getBx b (rdW [] x s).2 = getBx b s := by
 obtain ⟨h1, h2, h3, h4⟩ := rdW_sub (s := s) (x := x)
 cases b with
 | own b => simp only [getBx, h1]
 | ext i => simp only [getBx, h3]
theorem pick_len {q : Option Nat} {ws : List W} {off : Nat} {w : W} (h : pickW q ws off = some w) : (match q with | none => True | some n => w.cells.length = n) ∧ off + (match q with | none => 1 | some n => n) <= ws.length := by
 cases q with
 | none => exact ⟨trivial, getq_lt (noUn_some h).1⟩
 | some n =>
  simp only [pickW] at h
  split at h
  ·rename_i hl
   have := Option.some.inj h
   subst this
   exact ⟨by simp [W.cells]; omega, hl⟩
  ·cases h
theorem strip_cells1 {w : W} {d : D} (h : Rep2 c w d) (h1 : ∀ ws, w ≠ .ag ws) (h2 : ∀ ws, w ≠ .tp ws) (hn : w ≠ .un) : All2 (Rep2 c) w.strip.cells d.strip.cells ∧ w.strip.cells.length = w.cells.length ∧ d.strip.cells.length = d.cells.length := by
 have h3 := tup_d (to3 h)
 rcases ag_d h h1 with q | q | q
 ·exact absurd q hn
 ·exact absurd q (h2 _)
 rcases h3 with q' | q'
 ·exact absurd q' hn
 have hs := strip1_ok h
 have ed : d.strip = d.strip1 := by rw [D.strip_nt q', D.strip2_na q]
 have ec : ∀ {d : D}, d.aggB = false -> d.strip1.cells = [d.strip1] := fun {d} h => by
  cases d with
  | sl m z xs => cases m <;> rfl
  | agg => cases h
  | _ => rfl
 rw [ed, ec q, D.cells_na q]
 have ew : w.strip.cells = [w.strip1] ∧ w.cells = [w] := by
  cases w with
  | ag ws => exact absurd rfl (h1 ws)
  | tp ws => exact absurd rfl (h2 ws)
  | u τ x => cases τ with
   | l m t => cases m <;> exact ⟨rfl, rfl⟩
   | _ => exact ⟨rfl, rfl⟩
  | _ => exact ⟨rfl, rfl⟩
 rw [ew.1, ew.2]
 exact ⟨⟨hs, trivial⟩, rfl, rfl⟩
theorem strip_cells {w : W} {d : D} (h : Rep3 c w d) (hn : w ≠ .un) : All2 (Rep2 c) w.strip.cells d.strip.cells ∧ w.strip.cells.length = w.cells.length ∧ d.strip.cells.length = d.cells.length := by
 cases w with
 | ag cs =>
  obtain ⟨ds, rfl, h2⟩ := h
  refine ⟨h2.map fun _ _ _ q => strip1_ok q, by simp [W.strip, W.strip2, W.cells], by simp [D.strip, D.strip2, D.cells]⟩
 | tp => exact False.elim (by simpa [Rep3, Rep2, Rep1, Rep0] using h)
 | un => exact absurd rfl hn
 | gd => exact False.elim (by simpa [Rep3, Rep2, Rep1, Rep0] using h)
 | _ => exact strip_cells1 (of3 h (fun _ q => by cases q)) (fun _ q => by cases q) (fun _ q => by cases q) hn
theorem opM (hc : c.ok) (hS : RepS c s e l Y) {T : Tab} {a : Ty} {x : Opd} {w : W} {s' : SU} (h : (evOpW T [] t a (.mv x) s).out (some (w, s'))) : SR c e l Y t (.mv x) w s' := by
 have h := Option.some.inj (out_r h)
 have e1 : (rdW [] x s).1 = w := congrArg Prod.fst h
 have e2 : (rdW [] x s).2 = s' := congrArg Prod.snd h
 subst e1 e2
 exact ⟨rdE e x, rdN e x, l, Y, rdW_st hS x, rdW_ok hS (act_nil e) x, fun B _ => congrArg some (Prod.ext (rd_fst x e l _) (rd_snd x e l _))⟩
theorem opE (hc : c.ok) (hS : RepS c s e l Y) {T : Tab} {a : Ty} {x : Opd} {i : Nat} {w : W} {s' : SU} (h : (evOpW T [] t a (.ext x i) s).out (some (w, s'))) : SR c e l Y t (.ext x i) w s' := by
 cases hx : x.ot with
 | true =>
  obtain ⟨e1, h2⟩ := opG hc hS (act_nil e) (op := .ext x i) hx h
  subst e1
  exact GR.sr hS h2
 | false =>
  cases x with
  | m n =>
   simp only [evOpW] at h
   split at h
   ·rename_i ws hw
    split at h
    ·rename_i w' hi
     have h := Option.some.inj (out_r h)
     injection h with h1 h2
     subst h1 h2
     have hn := hS.env n
     rw [hw] at hn
     obtain ⟨ds, hd, ha⟩ := hn
     obtain ⟨d, e1, e2⟩ := ha.get hi
     refine ⟨d, (n, .tup (ds.set i d.strip2)) :: e, l, Y, hS.put (w := .tp (ws.set i w'.strip2)) ⟨_, rfl, ha.set i (strip2_ok e2)⟩, to4 e2, fun B _ => ?_⟩
     simp only [evOp, hd, e1, Option.map_some]; rfl
    ·exact h.elim
   ·exact h.elim
  | _ => cases hx
theorem opAl (hc : c.ok) (hS : RepS c s e l Y) {T : Tab} {a : Ty} {z : List Value} {w : W} {s' : SU} (h : (evOpW T [] t a (.al z) s).out (some (w, s'))) : SR c e l Y t (.al z) w s' := by
 simp only [evOpW] at h
 split at h
 ·rename_i b _ 
  cases hb : hasN b s.m with
  | true => rw [hb] at h; exact h.elim
  | false =>
   rw [hb] at h
   have h := Option.some.inj (out_r h)
   injection h with h1 h2
   subst h1 h2
   have hz : All2 (Rep2 c) (z.map cW) (z.map zc) := by
    clear hb h
    induction z with
    | nil => trivial
    | cons v r ih => exact ⟨cW_ok v, ih⟩
   obtain ⟨hn, hS'⟩ := al_ok hS hb hz
   refine ⟨.ptr c.n b 0, e, _, Y, hS', rfl, fun B hB => ?_⟩
   simp only [evOp, hn, fam_len hB Y]; rfl
 ·exact h.elim
theorem opBx (hc : c.ok) (hS : RepS c s e l Y) {T : Tab} {a : Ty} {x : Opd} {w : W} {s' : SU} (h : (evOpW T [] t a (.bx x) s).out (some (w, s'))) : SR c e l Y t (.bx x) w s' := by
 simp only [evOpW] at h
 split at h
 ·rename_i b _
  cases hb : hasN b s.m with
  | true => rw [hb] at h; exact h.elim
  | false =>
   cases hw : (rdW [] x s).1.cells.all W.sto with
   | false => rw [hb, hw] at h; exact h.elim
   | true =>
    rw [hb, hw] at h
    have h := Option.some.inj (out_r h)
    injection h with h1 h2
    subst h1 h2
    obtain ⟨q1, q2, q3⟩ := cells_ok hc (rdW_ok hS (act_nil e) x) hw
    have hm := (rdW_sub (s := s) (x := x)).2.1
    have hS1 := rdW_st hS x
    obtain ⟨hn, hS'⟩ := al_ok hS1 (b := b) (by rw [hm]; exact hb) q1
    rw [hm] at hS'
    refine ⟨.ptr c.n b 0, _, _, Y, hS', rfl, fun B hB => ?_⟩
    have hn' : lk b l = none := hn
    simp only [evOp, hn', fam_len hB Y, rd_fst, rd_snd]
    rw [if_pos ⟨q2, q3⟩]; rfl
 ·exact h.elim
theorem opLdm (hc : c.ok) (hS : RepS c s e l Y) {T : Tab} {a : Ty} {x : Opd} {q : Option Nat} {w : W} {s' : SU} (h : (evOpW T [] t a (.ldm q x) s).out (some (w, s'))) : SR c e l Y t (.ldm q x) w s' := by
 have hx := rdW_ok hS (act_nil e) x
 simp only [evOpW] at h
 split at h
 ·rename_i pb off hq _
  rw [hq] at hx
  split at h
  ·rename_i ws hb
   split at h
   ·rename_i w' hp
    have h := out_r h
    obtain ⟨s1, h1, h2⟩ := Option.map_eq_some_iff.1 h
    injection h2 with h3 h4
    subst h3 h4
    obtain ⟨f, b, o, ys, d1, d2, d3, d4, d5⟩ := wr_ok hc hS hb hx
    obtain ⟨d, p1, p2⟩ := pick_ok d2 hp
    have hu : w' ≠ .un := by
     cases q with
     | none => exact (noUn_some hp).2
     | some n =>
      simp only [pickW] at hp
      split at hp
      ·have := Option.some.inj hp
       subst this
       intro q; cases q
      ·cases hp
    obtain ⟨c1, c2, c3⟩ := strip_cells p2 hu
    have hlen : off + w'.strip.cells.length <= ws.length := by
     rw [c2]
     cases q with
     | none =>
      have h0 := (pick_len hp).2
      have h1 : w'.cells.length = 1 := by
       obtain ⟨y, _, hy⟩ := d2.get (noUn_some hp).1
       cases w' with
       | ag => exact False.elim (by simpa [Rep2, Rep1, Rep0] using hy)
       | _ => rfl
      rw [h1]; exact h0
     | some n => obtain ⟨a1, a2⟩ := pick_len hp; simp only at a1 a2; omega
    obtain ⟨l', Y', g1, g2⟩ := d5 h1 c1 hlen
    refine ⟨d, e, l', Y', g1, to4 p2, fun B hB => ?_⟩
    obtain ⟨full, b1, b2, b3⟩ := d4 B hB
    simp only [evOp, rd_fst, d1, b1, pick_in p1 b2 b3, Option.map_some, g2 B hB full b1 e]
   ·exact h.elim
  ·exact h.elim
 ·exact h.elim
theorem stoX_1 {w : W} {d : D} (h : Rep2 c w d) (hw : w.stoX = true) (k : Nat) : d.bnd1 k = true := by
 cases w with
 | u τ x => exact (flat_u h.2 hw).bnd k
 | nil => obtain ⟨z, rfl⟩ := h; rfl
 | np => rw [show d = .v (.pointer none) from h]; rfl
 | fp => obtain ⟨_, rfl, _⟩ := h; rfl
 | _ => cases hw
theorem stoX_b {w : W} {d : D} (hw : w.cells.all W.stoX = true) (h : Rep4 c w d) (k : Nat) : d.bnd2 k = true := by
 cases w with
 | ag cs =>
  obtain ⟨ds, rfl, h2⟩ := h
  exact All2.all_r (fun w d hm q => stoX_1 q (List.all_eq_true.1 hw w hm) k) h2
 | tp => simp [W.cells, W.stoX] at hw
 | un => simp [W.cells, W.stoX] at hw
 | gd => simp [W.cells, W.stoX] at hw
 | _ =>
  have hx2 := of3 (of4 h (fun _ q => by cases q)) (fun _ q => by cases q)
  simp only [W.cells, List.all_cons, List.all_nil, Bool.and_true] at hw
  rcases ag_d hx2 (fun _ q => by cases q) with q | q | q
  ·cases q
  ·cases q
  have : ∀ {d : D}, d.aggB = false -> d.bnd2 k = d.bnd1 k := fun {d} h => by cases d <;> first | rfl | cases h
  rw [this q]; exact stoX_1 hx2 hw k
theorem rd_l {p : Path} {x : Opd} : (rdW p x s).2.l = s.l := by
 cases x with
 | m n => cases p <;> rfl
 | _ => rfl
theorem opSt (hc : c.ok) (hS : RepS c s e l Y) {T : Tab} {a : Ty} {n : Nat} {x y : Opd} {w : W} {s' : SU} (h : (evOpW T [] t a (.st n x y) s).out (some (w, s'))) : SR c e l Y t (.st n x y) w s' := by
 have hx := rdW_ok hS (act_nil e) x
 simp only [evOpW] at h
 split at h
 ·rename_i pb off hq _
  rw [hq] at hx
  split at h
  ·rename_i ws hb
   split at h
   ·rename_i hcond
    obtain ⟨k1, k2, k3, k4⟩ := hcond
    have h := out_r h
    obtain ⟨s1, h1, h2⟩ := Option.map_eq_some_iff.1 h
    injection h2 with h3 h4
    subst h3 h4
    have hS1 := rdW_st hS y
    obtain ⟨f, b, o, ys, d1, d2, d3, d4, d5⟩ := wr_ok hc hS1 (by rw [getBx_rd]; exact hb) hx
    obtain ⟨q1, q2, q3⟩ := cells_ok hc (rdW_ok hS (act_nil e) y) k3
    obtain ⟨l', Y', g1, g2⟩ := d5 h1 q1 (by omega)
    refine ⟨.u, rdN e y, l', Y', g1, trivial, fun B hB => ?_⟩
    obtain ⟨full, b1, b2, b3⟩ := d4 B hB
    have hl1 := q1.length
    have hl2 := d2.length
    simp only [evOp, rd_fst, rd_snd, d1, b1]
    have hbn : (rdE e y).bnd2 (f + 1) = true := by
     cases pb with
     | own b' =>
      rw [show rdE e x = .ptr c.n b' off from hx] at d1
      injection d1 with d1
      rw [<- d1]; exact q2
     | ext i =>
      exact stoX_b k4 (rdW_ok hS (act_nil e) y) _
    rw [if_pos ⟨by omega, by omega, hbn, q3⟩, g2 B hB full b1]
   ·exact h.elim
  ·exact h.elim
 ·rename_i b τ i off hq _
  rw [hq] at hx
  split at h
  ·rename_i τ' m xs0 hb
   split at h
   ·rename_i xs hcast
    split at h
    ·rename_i hcond
     obtain ⟨k1, k2, k3⟩ := hcond
     obtain ⟨v, o1, o2⟩ := out_b h
     obtain ⟨e1, e2⟩ := mu_cast hcast
     subst e1
     subst e2
     obtain ⟨x', p1, p2⟩ := Option.map_eq_some_iff.1 o2
     injection p2 with p2 p3
     subst p2 p3
     have hS1 := rdW_st hS y
     have hl : lkW b (rdW [] y s).2.l = some [.lb τ' m xs0] := by rw [rd_l]; exact hb
     obtain ⟨es, d, q1, q0, q2, q3, ha, hlk, hd, hr, hi⟩ := lb_at hS1 hl o1
     obtain ⟨f1, f2⟩ := flat_at (els_len q1.2 ha) hd
     have hz := el_len q1.2 hr
     obtain ⟨c1, c2, c3⟩ := cells_ok hc (rdW_ok hS (act_nil e) y) k3
     have hel : All2 (Rep2 c) (elW τ' v) d.cells := (elW_ok q1.2 hr).mono fun _ _ _ q => to2 (to1 q)
     have hov : All2 (Rep2 c) (overW (elW τ' v) off (rdW [] y s).1.cells) (over d.cells off (rdE e y).cells) := by
      unfold overW over
      rw [c1.length]
      exact ((hel.take off).app c1).app (hel.drop _)
     obtain ⟨d', r1, r2⟩ := elT_ok p1 hov q1.1
     have hlen := el_len q1.2 r1
     have hfs := flat_set (els_len q1.2 ha) hd hlen
     have hcl := c1.length
     have hfull : over (es.flatMap D.cells) (i.toNat * csz τ' + off) (rdE e y).cells = (es.set i.toNat d').flatMap D.cells := by
      have hid : over (es.flatMap D.cells) (i.toNat * csz τ') d.cells = es.flatMap D.cells := over_id (by rw [hz]; exact f2) (by rw [hz]; exact f1)
      have h1 := over_in (cs := es.flatMap D.cells) (ys := d.cells) (zs := (rdE e y).cells) (o := i.toNat * csz τ') (k := off) (by rw [hz]; exact f1) (by rw [hz]; omega)
      rw [hid] at h1
      rw [h1, hfs, r2]
     refine ⟨.u, rdN e y, sb b ((es.set i.toNat d').flatMap D.cells) l, Y, ⟨hS1.env, fun b' ws' hb' => ?_, fun b' hb' => hS1.nm b' fun q => hb' ?_, hS1.ext, hS1.wr, hS1.len, hS1.ro⟩, trivial, fun B hB => ?_⟩
     ·simp only [lkW_sbW] at hb'
      rw [lk_sb]
      by_cases e : b' = b
      ·rw [if_pos e, hl] at hb'
       rw [if_pos e, hlk]
       have := Option.some.inj hb'
       subst this
       exact (show BRep c [.lb τ' m (List.set (α := τ'.T) xs0 i.toNat x')] _ from ⟨q1, q0, by rw [List.length_set]; exact q2, by rw [List.length_set]; exact q3, _, ha.set _ r1, .inl rfl⟩)
      ·rw [if_neg e] at hb' ⊢
       exact hS1.box b' ws' hb'
     ·rw [lk_sb]
      by_cases e : b' = b
      ·rw [e] at q; rw [hlk] at q; cases q
      ·rw [if_neg e]; exact q
     ·simp only [evOp, rd_fst, rd_snd, hx.2, bx_own (fam_len hB Y), hlk]
      rw [if_pos ⟨by omega, by omega, c2, c3⟩, hfull]
      unfold sbx
      rw [if_pos (fam_len hB Y).symm]
      rfl
    ·exact h.elim
   ·exact h.elim
  ·exact h.elim
 ·exact h.elim
theorem one_csz {τ : Ty} (h : τ.one = true) : csz τ = 1 := by cases τ <;> first | rfl | cases h
theorem one_el {τ : Ty} (h : τ.one = true) (hk : eleOk τ = true) : elOk τ = true := by cases τ <;> first | exact hk | cases h
theorem one_flat {P : Caller} {F : List Fx} {τ : Ty} (hk : elOk τ = true) : ∀ {xs : List τ.T} {es : List D}, All2 (fun y e => RepL P τ F y [e]) xs es -> es.flatMap D.cells = es ∧ ∀ e ∈ es, e.rf1 = true
 | [], [], _ => ⟨rfl, fun e h => by cases h⟩
 | x :: xs, e :: es, h => by
  obtain ⟨q1, q2⟩ := elOk_rf h.1 hk
  obtain ⟨r1, r2⟩ := one_flat hk h.2
  refine ⟨by rw [List.flatMap_cons, q2, r1]; rfl, fun d hd => ?_⟩
  rcases List.mem_cons.1 hd with rfl | hd
  ·exact q1
  ·exact r2 d hd
 | [], _ :: _, h => h.elim
 | _ :: _, [], h => h.elim
theorem rf1_bnd' {k : Nat} {d : D} (h : d.rf1 = true) : d.bnd1 k = true ∧ d.sto1 = true := by
 cases d with
 | v y => exact ⟨rfl, h⟩
 | sl m z xs => exact ⟨rfl, rfl⟩
 | _ => cases h
theorem opCpy (hc : c.ok) (hS : RepS c s e l Y) {T : Tab} {a : Ty} {x y : Opd} {w : W} {s' : SU} (h : (evOpW T [] t a (.cpy x y) s).out (some (w, s'))) : SR c e l Y t (.cpy x y) w s' := by
 have hx := rdW_ok hS (act_nil e) x
 have hy := rdW_ok hS (act_nil e) y
 simp only [evOpW] at h
 split at h
 ·rename_i b τ lo n _ hq
  rw [hq] at hx
  obtain ⟨⟨n0, n1, l0⟩, hd⟩ := (show Rep4 c (.rs b τ lo n) _ from hx)
  split at h
  ·rename_i τ' m xs0 ys hb hys
   split at h
   ·rename_i xs hcast
    split at h
    ·rename_i hone
     obtain ⟨r, o1, o2⟩ := out_b h
     obtain ⟨e1, e2⟩ := mu_cast hcast
     subst e1
     subst e2
     injection Option.some.inj o2 with p2 p3
     subst p2 p3
     simp only [cpyL] at o1
     split at o1
     ·rename_i hle
      have o1 := Option.some.inj o1
      subst o1
      obtain ⟨⟨hk, hv⟩, hmk, hlen, hl, es, ha, hlk⟩ := (show BRep c [.lb τ' m xs0] (lk b l) from hS.box b _ hb)
      obtain ⟨_, hyr⟩ := oneT_ok hys hy
      obtain ⟨hyl, fs, hfa, hyd⟩ := l_d hyr
      have hcz := one_csz hone
      have hkk := one_el hone hk
      obtain ⟨f1, f2⟩ := one_flat hkk hfa
      obtain ⟨f3, f4⟩ := one_flat hkk (hfa.take n.toNat)
      obtain ⟨f5, f6⟩ := one_flat hkk ha
      have hfl := hfa.length
      have hel := ha.length
      have hyd' : ∃ mm z', rdE e y = .sl mm z' fs ∧ mm ≠ .mu ∧ mm ≠ .app ∧ (z' = 1 ∨ fs.isEmpty = true) := by
       rcases hyd with hyd | ⟨rfl, z, hyd⟩
       ·exact ⟨_, _, hyd, by decide, by decide, .inl hcz⟩
       ·exact ⟨_, _, hyd, by decide, by decide, .inr rfl⟩
      obtain ⟨mm, z', hyd', m1, m2, m3⟩ := hyd'
      have hint : Rep4 c (.u (.i .i64) ((min (List.length (α := τ'.T) ys) n.toNat : Nat) : Int)) (.v (.int .i64 ((min fs.length n.toNat : Nat) : Int))) := by
       rw [hfl]
       exact u_i (nat_in _ (by have := hyl; unfold maxLn at this; omega))
      have box : ∀ {L : Bx} {r : List τ'.T}, (∀ b', b' ≠ b -> lk b' L = lk b' l) -> BRep c [.lb τ' m r] (lk b L) -> ∀ b' ws, lkW b' (sbW b [.lb τ' m r] s.l) = some ws -> BRep c ws (lk b' L) := fun hL h0 b' ws hb' => by
       rw [lkW_sbW] at hb'
       by_cases e : b' = b
       ·rw [if_pos e, hb] at hb'
        have := Option.some.inj hb'
        subst this
        rw [e]; exact h0
       ·rw [if_neg e] at hb'
        rw [hL b' e]; exact hS.box b' ws hb'
      by_cases hn : n.toNat = 0
      ·have hr : xs0.take (lo.getD 0).toNat ++ ys.take n.toNat ++ xs0.drop ((lo.getD 0).toNat + min ys.length n.toNat) = xs0 := by simp [hn]
       refine ⟨.v (.int .i64 ((min fs.length n.toNat : Nat) : Int)), e, l, Y, ⟨hS.env, ?_, hS.nm, hS.ext, hS.wr, hS.len, hS.ro⟩, hint, fun B hB => ?_⟩
       ·rw [hr]
        exact box (fun _ _ => rfl) (hS.box b _ hb)
       ·rcases hd with hd | ⟨_, z, hd⟩
        ·simp only [evOp, rd_fst, hd, hyd']
         rw [if_pos ⟨m1, m2⟩, if_pos hn, hn]; simp
        ·simp only [evOp, rd_fst, hd, hyd']
         rw [if_pos ⟨m1, m2⟩, hn]; simp
      ·rcases hd with hd | ⟨h0, _⟩
       ·rcases hlk with hlk | ⟨h0, _⟩
        ·rw [f5] at hlk
         have hmin : ((ys.take n.toNat).length) = min ys.length n.toNat := by simp [Nat.min_comm]
         have hov : over es (lo.getD 0).toNat (fs.take n.toNat) = es.take (lo.getD 0).toNat ++ fs.take n.toNat ++ es.drop ((lo.getD 0).toNat + min ys.length n.toNat) := by
          unfold over
          rw [show (fs.take n.toNat).length = min ys.length n.toNat by simp [Nat.min_comm, hfl]]
         have hall := ((ha.take (lo.getD 0).toNat).app (hfa.take n.toNat)).app (ha.drop ((lo.getD 0).toNat + min ys.length n.toNat))
         rw [<- hov] at hall
         have hlenr : (xs0.take (lo.getD 0).toNat ++ ys.take n.toNat ++ xs0.drop ((lo.getD 0).toNat + min ys.length n.toNat)).length = xs0.length := by
          simp; omega
         generalize xs0.take (lo.getD 0).toNat ++ ys.take n.toNat ++ xs0.drop ((lo.getD 0).toNat + min ys.length n.toNat) = r at hall hlenr
         obtain ⟨g1, g2⟩ := one_flat hkk hall
         refine ⟨.v (.int .i64 ((min fs.length n.toNat : Nat) : Int)), e, sb b (over es (lo.getD 0).toNat (fs.take n.toNat)) l, Y, ⟨hS.env, ?_, fun b' hb' => hS.nm b' fun q => hb' ?_, hS.ext, hS.wr, hS.len, hS.ro⟩, hint, fun B hB => ?_⟩
         ·refine box (fun b' hb' => by rw [lk_sb, if_neg hb']) ?_
          rw [lk_sb, if_pos rfl, hlk]
          exact (show BRep c [.lb τ' m r] _ from ⟨⟨hk, hv⟩, hmk, by rw [hlenr]; exact hlen, by rw [hlenr]; exact hl, _, hall, .inl (by rw [g1]; rfl)⟩)
         ·rw [lk_sb]
          by_cases e : b' = b
          ·rw [e] at q; rw [hlk] at q; cases q
          ·rw [if_neg e]; exact q
         ·have hfull : (fs.take n.toNat).flatMap D.cells = fs.take n.toNat := f3
          simp only [evOp, rd_fst, hd, hyd']
          rw [if_pos ⟨m1, m2⟩, if_neg hn, bx_own (fam_len hB Y), hlk]
          simp only
          rw [hfull, hcz, Nat.mul_one, if_pos ⟨rfl, m3, by omega, by simp [Nat.min_comm], List.all_eq_true.2 fun d hd => (rf1_bnd' (f4 d hd)).1, List.all_eq_true.2 fun d hd => (rf1_bnd' (k := 0) (f4 d hd)).2⟩]
          unfold sbx
          rw [if_pos (fam_len hB Y).symm]
          rfl
        ·subst h0
         have := ha.length
         simp only [List.length_nil] at this
         omega
       ·omega
     ·cases o1
    ·exact h.elim
   ·exact h.elim
  ·exact h.elim
 ·exact h.elim
end
end Go.Proofs.Ytlhjdikklmkihaa.Ev.U
namespace Go.Proofs.Ytlhjdikklmkihaa.Ev.U
open Go
def c0 (P : Caller) : Cx := ⟨P, [], 0, [], fun _ => []⟩
def argWs (sg : Sg) (x : sg.aT.T) : List W := match sg.ak with
 | [] => []
 | _ => tupW sg.aT x
def ArgL (c : Cx) : List AK -> List W -> List D -> List Rg -> List (List D) -> Prop
 | [], [], [], [], [] => True
 | .v _ :: ak, w :: ws, d :: ds, rg, Y => Rep3 c w d ∧ ArgL c ak ws ds rg Y
 | .x r :: ak, w :: ws, d :: ds, q :: rg, y :: Y => (q.w = true ∧ d = .ptr q.f q.b q.o ∧ q.z = rowLen r ∧ y.length = q.z ∧ All2 (Rep2 c) w.cells y) ∧ ArgL c ak ws ds rg Y
 | .o r :: ak, w :: ws, d :: ds, q :: rg, y :: Y => (q.w = false ∧ d = .ptr q.f q.b q.o ∧ q.z = rowLen r ∧ y.length = q.z ∧ All2 (Rep2 c) w.cells y) ∧ ArgL c ak ws ds rg Y
 | _, _, _, _, _ => False
def OutL (c : Cx) : List AK -> List W -> List (List D) -> Prop
 | [], [], [] => True
 | .v _ :: ak, ws, Y => OutL c ak ws Y
 | .x r :: ak, w :: ws, y :: Y => (y.length = rowLen r ∧ All2 (Rep2 c) w.cells y) ∧ OutL c ak ws Y
 | .o r :: ak, ws, y :: Y => OutL c ak ws Y
 | _, _, _ => False
def GOK (P : Caller) (f : Nat) : TF -> Prop
 | .gen a r h => ∀ (v : r.T) (cs : List D), RepL P r [] v cs -> ∀ L : List a.T, h v = some L -> ∀ n : Nat, ∃ ds : List D, All2 (fun y d => RepL P a [] y [d.strip]) L ds ∧
   ∀ (k b rid m : Nat) (fin : Bool) (β : Nat -> List Bx), k < n -> m <= L.length -> (fin = true -> m = L.length) -> (fin = false -> 0 < m) -> (∀ i, i <= m -> (β i).length = n) ->
   (∀ i, i < m -> ∃ st jm ks caps, ((β i)[k]?).bind (lk b) = some (.rcd st jm rid ks :: caps)) ->
   (∀ i, i < m -> ∀ d, ds[i]? = some d -> ∀ lg, P rid [.yld k b, d] (β i ++ [lg]) = some (.v (.bool (decide (i + 1 < m) || fin)), β (i + 1) ++ [lg])) ->
   ∃ d, P f [.yld k b, .fptr cs 0] (β 0) = some (d, β m)
 | _ => True
def TOK (P : Caller) (k : Nat) (tf : TF) : Prop := (∀ F n rg K Y, Cx.ok ⟨P, F, n, rg, K⟩ -> (∀ (i : Nat) r ys, rg[i]? = some r -> Y[i]? = some ys -> r.w = false -> ys = K i) ->
 ∀ (x : tf.sg.aT.T) ds, ArgL ⟨P, F, n, rg, K⟩ tf.sg.ak (argWs tf.sg x) ds rg Y -> ∀ y, tf.f x = some y -> ∃ d Y', Rep4 (c0 P) (outW tf.sg.res (xsOf tf.sg.ak) y).1 d ∧ OutL (c0 P) tf.sg.ak (outW tf.sg.res (xsOf tf.sg.ak) y).2 Y' ∧
  ∀ B, Fam ⟨P, F, n, rg, K⟩ B -> (∀ (i : Nat) r ys, rg[i]? = some r -> Y[i]? = some ys -> atR r ys B) -> P k ds B = some (d, upd rg Y' B)) ∧ GOK P k tf
def TabOk (P : Caller) (T : Tab) : Prop := ∀ k tf, T k = some tf -> TOK P k tf
section
variable {c : Cx} {e : Env} {l : Bx} {Y : List (List D)} {t : Option Nat} {s : SU}
theorem pf0_up {c' : Cx} (hP : c'.P = c.P) (hF : ∀ x ∈ c.F, x ∈ c'.F) {w : W} {d : D} (h : Rep2 c w d) (hw : w.pf0 = true) : Rep2 c' w d := by
 cases w with
 | u τ x => exact ⟨h.1, by rw [hP]; exact RepL.up hF h.2⟩
 | nil => exact h
 | _ => cases hw
theorem pf1_up {c' : Cx} (hP : c'.P = c.P) (hF : ∀ x ∈ c.F, x ∈ c'.F) {w : W} {d : D} (h : Rep3 c w d) (hw : w.pf1 = true) : Rep3 c' w d := by
 cases w with
 | ag ws =>
  obtain ⟨cs, rfl, h2⟩ := h
  exact ⟨cs, rfl, h2.mono fun w d hm q => pf0_up hP hF q (List.all_eq_true.1 hw w hm)⟩
 | u τ x => exact pf0_up hP hF (w := .u τ x) h rfl
 | nil => exact h
 | _ => cases hw
theorem pf2_up {c' : Cx} (hP : c'.P = c.P) (hF : ∀ x ∈ c.F, x ∈ c'.F) {w : W} {d : D} (h : Rep4 c w d) (hw : w.pf2 = true) : Rep4 c' w d := by
 cases w with
 | tp ws =>
  obtain ⟨cs, rfl, h2⟩ := h
  exact ⟨cs, rfl, h2.mono fun w d hm q => pf1_up hP hF q (List.all_eq_true.1 hw w hm)⟩
 | ag ws => exact to4 (pf1_up hP hF (w := .ag ws) h hw)
 | u τ x => exact to4 (pf1_up hP hF (w := .u τ x) h rfl)
 | nil => exact h
 | _ => cases hw
theorem pf_cells : ∀ (r : Ty) (x : r.T), (cellsW r x).all W.pf0 = true := by
 intro r
 induction r with
 | p a r iha ihr => intro x; simp only [cellsW, List.all_cons, ihr x.2, Bool.and_true]; rfl
 | _ => intro x; rfl
theorem pf_val (τ : Ty) (x : τ.T) : (valW τ x).pf1 = true := by
 cases τ with
 | g r => exact pf_cells r x
 | _ => rfl
theorem pf_tup : ∀ (τ : Ty) (x : τ.T), (tupW τ x).all W.pf1 = true := by
 intro τ
 induction τ with
 | t a r iha ihr => intro x; simp only [tupW, List.all_cons, pf_val, ihr x.2, Bool.and_true]
 | n => intro x; rfl
 | g r => intro x; simp only [tupW, List.all_cons, List.all_nil, Bool.and_true]; exact pf_val (.g r) x
 | _ => intro x; rfl
theorem pf_res (τ : Ty) (x : τ.T) : (resW τ x).pf2 = true := by
 cases τ with
 | t a r => exact pf_tup (.t a r) x
 | n => rfl
 | g r => exact pf_val (.g r) x
 | _ => rfl
theorem pf_out (r : Ty) (l : List Ty) (y : (oTy r l).T) : (outW r l y).1.pf2 = true ∧ (outW r l y).2.all W.pf1 = true := by
 cases l with
 | nil => cases r <;> exact ⟨pf_res _ y, rfl⟩
 | cons a l =>
  cases r with
  | n => exact ⟨rfl, pf_tup _ _⟩
  | t p q => exact ⟨pf_res (.t p q) y.1, pf_tup _ _⟩
  | i k => exact ⟨pf_res (.i k) y.1, pf_tup _ _⟩
  | b => exact ⟨pf_res .b y.1, pf_tup _ _⟩
  | s => exact ⟨pf_res .s y.1, pf_tup _ _⟩
  | l m q => exact ⟨pf_res (.l m q) y.1, pf_tup _ _⟩
  | p p q => exact ⟨pf_res (.p p q) y.1, pf_tup _ _⟩
  | g q => exact ⟨pf_res (.g q) y.1, pf_tup _ _⟩
  | o p q => exact ⟨pf_res (.o p q) y.1, pf_tup _ _⟩
  | fn p q => exact ⟨pf_res (.fn p q) y.1, pf_tup _ _⟩
  | cl p q => exact ⟨pf_res (.cl p q) y.1, pf_tup _ _⟩
theorem pf_cellsW {w : W} (h : w.pf1 = true) : ∀ {c c' : Cx} {ds : List D}, c'.P = c.P -> (∀ x ∈ c.F, x ∈ c'.F) -> All2 (Rep2 c) w.cells ds -> All2 (Rep2 c') w.cells ds := by
 intro c c' ds hP hF ha
 refine ha.mono fun w' d hm q => pf0_up hP hF q ?_
 cases w with
 | ag ws => exact List.all_eq_true.1 h w' hm
 | u τ x => simp only [W.cells, List.mem_singleton] at hm; rw [hm]; rfl
 | nil => simp only [W.cells, List.mem_singleton] at hm; rw [hm]; rfl
 | _ => cases h
theorem wrR_app {r : Rg} {ys full : List D} {st : S} (hf : r.f <= st.o.length) (hb : bx r.f r.b st = some full) : wrR r ys (st.o ++ [st.l]) = (sbx r.f r.b (over full r.o ys) st).o ++ [(sbx r.f r.b (over full r.o ys) st).l] := by
 unfold bx at hb
 unfold sbx
 by_cases e : r.f = st.o.length
 ·rw [if_pos e] at hb ⊢
  apply List.ext_getElem?
  intro f
  rw [wrR_get]
  by_cases ef : r.f = f
  ·subst ef
   rw [if_pos rfl, e]
   simp only [List.getElem?_append_right (Nat.le_refl _), Nat.sub_self, S.wl]
   simp [hb]
  ·rw [if_neg ef]
   by_cases hl : f < st.o.length
   ·rw [List.getElem?_append_left hl, List.getElem?_append_left (by exact hl)]; rfl
   ·have : st.o.length < f := by omega
    rw [List.getElem?_eq_none (by simp; omega), List.getElem?_eq_none (by simp [S.wl]; omega)]
 ·rw [if_neg e] at hb ⊢
  have hlt : r.f < st.o.length := by omega
  apply List.ext_getElem?
  intro f
  rw [wrR_get]
  simp only [S.wo]
  by_cases ef : r.f = f
  ·subst ef
   rw [if_pos rfl, List.getElem?_append_left hlt, List.getElem?_append_left (by simpa using hlt), List.getElem?_modify]
   obtain ⟨l', h1, h2⟩ := Option.bind_eq_some_iff.1 hb
   rw [h1]
   simp [h2]
  ·rw [if_neg ef]
   by_cases hl : f < st.o.length
   ·rw [List.getElem?_append_left hl, List.getElem?_append_left (by simpa using hl), List.getElem?_modify]
    cases st.o[f]? <;> simp [ef]
   ·rw [List.getElem?_append_right (by omega), List.getElem?_append_right (by simp; omega)]
    simp
def rgOf : List AK -> List D -> List Rg
 | .x r :: ak, .ptr f b o :: ds => ⟨true, f, b, o, rowLen r⟩ :: rgOf ak ds
 | .o r :: ak, .ptr f b o :: ds => ⟨false, f, b, o, rowLen r⟩ :: rgOf ak ds
 | _ :: ak, _ :: ds => rgOf ak ds
 | _, _ => []
def ptL : List AK -> List W -> Bool
 | .x _ :: ak, .pt _ _ :: ws => ptL ak ws
 | .o _ :: ak, .pt _ _ :: ws => ptL ak ws
 | .v _ :: ak, _ :: ws => ptL ak ws
 | [], [] => true
 | _, _ => false
theorem pt_d {pb : PB} {off : Nat} {d : D} (h : Rep0 c (.pt pb off) d) : ∃ f b o, d = .ptr f b o := by
 cases pb with
 | own b => exact ⟨_, _, _, h⟩
 | ext i => obtain ⟨r, _, h⟩ := h; exact ⟨_, _, _, h⟩
theorem back_ok (hc : c.ok) {c1 : Cx} (hP : c1.P = c.P) (hF1 : c1.F = []) : ∀ {ak : List AK} {ws : List W} {ds : List D} {ys : List W} {s s' : SU} {l : Bx} {Y Y2 : List (List D)}, RepS c s e l Y -> All2 (Rep4 c) ws ds -> ptL ak ws = true -> backW ak ws ys s = some s' ->
  OutL c1 ak ys Y2 -> ys.all W.pf1 = true -> ∃ l' Y', RepS c s' e l' Y' ∧ ∀ B, Fam c B -> upd (rgOf ak ds) Y2 (upd c.rg Y B ++ [l]) = upd c.rg Y' B ++ [l']
 | [], ws, ds, ys, s, s', l, Y, Y2, hS, ha, hpt, hb, ho, hp => by
  simp only [backW] at hb
  have := Option.some.inj hb
  subst this
  refine ⟨l, Y, hS, fun B hB => ?_⟩
  cases Y2 <;> cases ds <;> rfl
 | .v τ :: ak, ws, ds, ys, s, s', l, Y, Y2, hS, ha, hpt, hb, ho, hp => by
  cases ws with
  | nil => simp [backW] at hb
  | cons w ws =>
   obtain ⟨d, q, rfl, a1, a2⟩ := ha.cons_l
   exact back_ok hc hP hF1 (ak := ak) (ds := q) hS a2 hpt hb ho hp
 | .o r :: ak, ws, ds, ys, s, s', l, Y, Y2, hS, ha, hpt, hb, ho, hp => by
  cases ws with
  | nil => simp [backW] at hb
  | cons w ws =>
   obtain ⟨d, q, rfl, a1, a2⟩ := ha.cons_l
   cases w with
   | pt pb off =>
    obtain ⟨f, b, o, rfl⟩ := pt_d (c := c) a1
    cases Y2 with
    | nil => cases ys <;> exact ho.elim
    | cons y Y2 =>
     have ho' : OutL c1 ak ys Y2 := by cases ys <;> exact ho
     obtain ⟨l', Y', h1, h2⟩ := back_ok hc hP hF1 (ak := ak) (ds := q) hS a2 hpt (by cases ys <;> exact hb) ho' hp
     exact ⟨l', Y', h1, h2⟩
   | _ => cases hpt
 | .x r :: ak, ws, ds, ys, s, s', l, Y, Y2, hS, ha, hpt, hb, ho, hp => by
  cases ws with
  | nil => cases ys <;> simp [backW] at hb
  | cons w ws =>
   obtain ⟨d, q, rfl, a1, a2⟩ := ha.cons_l
   cases w with
   | pt pb off =>
    cases ys with
    | nil => simp [backW] at hb
    | cons y ys =>
     cases Y2 with
     | nil => exact ho.elim
     | cons y2 Y2 =>
      simp only [backW] at hb
      obtain ⟨cs, b1, b2⟩ := Option.bind_eq_some_iff.1 hb
      split at b2
      ·rename_i hlen
       obtain ⟨s1, b3, b4⟩ := Option.bind_eq_some_iff.1 b2
       obtain ⟨⟨o1, o2⟩, o3⟩ := ho
       simp only [List.all_cons, Bool.and_eq_true] at hp
       obtain ⟨f, b, o, ys0, d1, d2, d3, d4, d5⟩ := wr_ok hc hS b1 a1
       obtain ⟨l1, Y1, g1, g2⟩ := d5 b3 (pf_cellsW hp.1 hP.symm (by rw [hF1]; intro x hx; simp at hx) o2) hlen
       obtain ⟨l', Y', h1, h2⟩ := back_ok hc hP hF1 (ak := ak) (ds := q) g1 a2 hpt b4 o3 hp.2
       refine ⟨l', Y', h1, fun B hB => ?_⟩
       rw [<- h2 B hB]
       obtain ⟨full, f1, f2, f3⟩ := d4 B hB
       subst d1
       simp only [rgOf, upd, cond_true]
       rw [wrR_app (st := ⟨e, l, upd c.rg Y B⟩) (full := full) (by simp only [fam_len hB Y]; omega) (f1 e), g2 B hB full f1 e]
      ·cases b2
   | _ => cases hpt
end
end Go.Proofs.Ytlhjdikklmkihaa.Ev.U
namespace Go.Proofs.Ytlhjdikklmkihaa.Ev.U
open Go
section
variable {c : Cx} {e : Env} {l : Bx} {Y : List (List D)} {t : Option Nat} {s : SU}
theorem cells_inv : ∀ {r : Ty} {x : r.T} {ds : List D}, r.rowk = true -> All2 (Rep2 c) (cellsW r x) ds -> RepL c.P r c.F x ds := by
 intro r
 have base : ∀ {r : Ty} {x : r.T} {ds : List D}, All2 (Rep2 c) [W.u r x] ds -> RepL c.P r c.F x ds := fun h => by
  obtain ⟨d, q, rfl, h1, h2⟩ := h.cons_l
  obtain rfl := h2.nil_l
  exact h1.2
 induction r with
 | p a r iha ihr =>
  intro x ds hk h
  obtain ⟨d, q, rfl, h1, h2⟩ := h.cons_l
  have hr : r.rowk = true := by
   have : ∀ {r : Ty} {x : r.T} {ds : List D}, All2 (Rep2 c) (cellsW r x) ds -> r.rowk = true := by
    intro r x ds h
    cases r with
    | p => rfl
    | _ => obtain ⟨d, q, _, h1, _⟩ := h.cons_l; exact one_rowk h1.1
   exact this h2
  exact ⟨⟨h1.1, hr⟩, d, q, rfl, h1.2, ihr hr h2⟩
 | _ => intro x ds hk h; exact base h
theorem val_inv {τ : Ty} {x : τ.T} {d : D} (hv : τ.val = true) (h : Rep3 c (valW τ x) d) : RepL c.P τ c.F x [d] := by
 cases τ with
 | g r =>
  obtain ⟨cs, rfl, h2⟩ := h
  have hr : r.rowk = true := by
   cases r with
   | p => rfl
   | _ => obtain ⟨d, q, _, h1, _⟩ := h2.cons_l; exact one_rowk h1.1
  exact ⟨hr, cs, rfl, cells_inv hr h2⟩
 | i => exact h.2
 | b => exact h.2
 | s => exact h.2
 | l => exact h.2
 | fn => exact h.2
 | cl => exact h.2
 | _ => cases hv
theorem tup_inv : ∀ {τ : Ty} {x : τ.T} {ds : List D}, tupOk τ = true -> All2 (Rep3 c) (tupW τ x) ds -> τ.tupk = true ∧ RepL c.P τ c.F x ds := by
 intro τ
 have base : ∀ {τ : Ty} {x : τ.T} {ds : List D}, τ.val = true -> All2 (Rep3 c) [valW τ x] ds -> τ.tupk = true ∧ RepL c.P τ c.F x ds := fun hv h => by
  obtain ⟨d, q, rfl, h1, h2⟩ := h.cons_l
  obtain rfl := h2.nil_l
  exact ⟨val_tupk hv, val_inv hv h1⟩
 induction τ with
 | t a r iha ihr =>
  intro x ds hk h
  simp only [tupOk, Bool.and_eq_true] at hk
  obtain ⟨d, q, rfl, h1, h2⟩ := h.cons_l
  obtain ⟨i1, i2⟩ := ihr hk.2 h2
  exact ⟨rfl, ⟨hk.1, i1⟩, d, q, rfl, val_inv hk.1 h1, i2⟩
 | n => intro x ds hk h; obtain rfl := h.nil_l; exact ⟨rfl, rfl⟩
 | p => intro x ds hk h; cases hk
 | o => intro x ds hk h; cases hk
 | _ => intro x ds hk h; exact base hk h
theorem res_inv {τ : Ty} {x : τ.T} {d : D} (hk : tupOk τ = true) (h : Rep4 c (resW τ x) d) : RepR c.P τ c.F x d := by
 have base : ∀ {τ : Ty} {x : τ.T} {d : D}, τ.val = true -> resD τ d [d] -> Rep4 c (valW τ x) d -> RepR c.P τ c.F x d := by
  intro τ x d hv hd h
  refine ⟨[d], hd, val_inv hv (of4 h fun ws q => ?_)⟩
  cases τ <;> cases q
 cases τ with
 | t a r =>
  obtain ⟨ds, rfl, h2⟩ := h
  exact ⟨ds, rfl, (tup_inv (τ := .t a r) hk h2).2⟩
 | n =>
  obtain ⟨ds, rfl, h2⟩ := h
  obtain rfl := h2.nil_l
  exact ⟨[], rfl, rfl⟩
 | p => cases hk
 | o => cases hk
 | _ => exact base hk rfl h
def fct (c : Cx) (l : Bx) (Y : List (List D)) : PB -> Option Fx
 | .own b => (lk b l).map fun ds => ⟨c.n, b, 0, ds⟩
 | .ext i => match c.rg[i]?, Y[i]? with
  | some r, some ys => some ⟨r.f, r.b, r.o, ys⟩
  | _, _ => none
theorem fct_sat (hc : c.ok) (hS : RepS c s e l Y) {pb : PB} {x : Fx} (h : fct c l Y pb = some x) {B : List Bx} (hB : Fam c B) : Sat [x] (upd c.rg Y B ++ [l]) := by
 intro y hy
 have hy : y = x := by simpa using hy
 subst hy
 cases pb with
 | own b =>
  obtain ⟨ds, h1, rfl⟩ := Option.map_eq_some_iff.1 h
  refine ⟨l, ds, ?_, h1, by simp, by simp⟩
  show (upd c.rg Y B ++ [l])[c.n]? = some l
  rw [List.getElem?_append_right (by rw [fam_len hB Y]; exact Nat.le_refl _), fam_len hB Y, Nat.sub_self]; rfl
 | ext i =>
  simp only [fct] at h
  split at h
  ·rename_i r ys h1 h2
   have := Option.some.inj h
   subst this
   obtain ⟨l', cs, a1, a2, a3, a4⟩ := fam_at hc hS hB h1 h2
   refine ⟨l', cs, ?_, a2, a3, a4⟩
   show (upd c.rg Y B ++ [l])[r.f]? = some l'
   rw [List.getElem?_append_left (by rw [fam_len hB Y]; exact hc.lt r (List.mem_of_getElem? h1)), a1]
  ·cases h
theorem fct_f (hc : c.ok) {pb : PB} {x : Fx} (h : fct c l Y pb = some x) : x.f < c.n + 1 := by
 cases pb with
 | own b => obtain ⟨ds, h1, rfl⟩ := Option.map_eq_some_iff.1 h; exact Nat.lt_succ_self _
 | ext i =>
  simp only [fct] at h
  split at h
  ·rename_i r ys h1 h2
   have := Option.some.inj h
   subst this
   exact Nat.lt_succ_of_lt (hc.lt r (List.mem_of_getElem? h1))
  ·cases h
def allPts : List W -> List PB := capPts
theorem capPts_app (xs ys : List W) : capPts (xs ++ ys) = capPts xs ++ capPts ys := by
 induction xs with
 | nil => rfl
 | cons x r ih => cases x <;> simp [capPts, ih]
theorem ptsX_sub : ∀ {ak : List AK} {ws : List W} {p : Bool × PB}, p ∈ ptsX ak ws -> p.2 ∈ capPts ws
 | [], ws, p, h => by cases ws <;> simp [ptsX] at h
 | a :: ak, [], p, h => by cases a <;> simp [ptsX] at h
 | a :: ak, w :: ws, p, h => by
  have up : p.2 ∈ capPts ws -> p.2 ∈ capPts (w :: ws) := fun q => by cases w <;> simp [capPts, q]
  have ih : p ∈ ptsX ak ws -> p.2 ∈ capPts (w :: ws) := fun q => up (ptsX_sub q)
  cases a with
  | v => exact ih (by cases w <;> exact h)
  | x r => cases w with
   | pt pb off =>
    rcases List.mem_cons.1 h with rfl | q
    ·simp [capPts]
    ·exact ih q
   | _ => exact ih h
  | o r => cases w with
   | pt pb off =>
    rcases List.mem_cons.1 h with rfl | q
    ·simp [capPts]
    ·exact ih q
   | _ => exact ih h
theorem pf1_nopt {ws : List W} (h : ws.all W.pf1 = true) : capPts ws = [] := by
 induction ws with
 | nil => rfl
 | cons w r ih =>
  simp only [List.all_cons, Bool.and_eq_true] at h
  cases w with
  | pt => cases h.1
  | _ => exact ih h.2
theorem chk1_some {w w' : W} (h : chk1 w = some w') : w' = w ∧ w.pf1 = true := by
 unfold chk1 at h
 cases hw : w.pf1 with
 | true => rw [hw] at h; exact ⟨(Option.some.inj h).symm, rfl⟩
 | false => rw [hw] at h; cases h
theorem fct_ok (hc : c.ok) (hS : RepS c s e l Y) {pb : PB} {off : Nat} {d : D} (hd : Rep4 c (.pt pb off) d) {ws : List W} (h1 : getBx pb s = some ws) : ∃ x, fct c l Y pb = some x ∧ d = .ptr x.f x.b (x.o + off) ∧ All2 (Rep2 c) ws x.ys ∧ x.f < c.n + 1 := by
 cases pb with
 | own b =>
  obtain ⟨hb0, ys, g1, g2⟩ := own_box hS h1
  exact ⟨⟨c.n, b, 0, ys⟩, by simp only [fct, g1, Option.map_some], (show d = .ptr c.n b (0 + off) by rw [Nat.zero_add]; exact hd), g2, Nat.lt_succ_self _⟩
 | ext i =>
  obtain ⟨r, g1, g2⟩ := hd
  obtain ⟨ys, g3, g4⟩ := hS.ext.get (i := i) h1
  exact ⟨⟨r.f, r.b, r.o, ys⟩, by simp only [fct, g1, g3], g2, g4, Nat.lt_succ_of_lt (hc.lt r (List.mem_of_getElem? g1))⟩
theorem ptr_ok (hc : c.ok) (hS : RepS c s e l Y) {pb : PB} {off : Nat} {d : D} (hd : Rep4 c (.pt pb off) d) {ws : List W} {w : W} {r : Ty} (h1 : getBx pb s = some ws) (h2 : pickW (some (rowLen r)) ws off = some w) (h3 : w.pf1 = true) :
  ∃ x y, fct c l Y pb = some x ∧ d = .ptr x.f x.b (x.o + off) ∧ y.length = rowLen r ∧ (∀ (c' : Cx), c'.P = c.P -> (∀ x ∈ c.F, x ∈ c'.F) -> All2 (Rep2 c') w.cells y) ∧ x.f < c.n + 1 ∧ (∀ B', Sat [x] B' -> ∀ q, atR ⟨q, x.f, x.b, x.o + off, rowLen r⟩ y B') := by
 obtain ⟨x, x1, x2, d2, x5⟩ := fct_ok hc hS hd h1
 simp only [pickW] at h2
 split at h2
 ·rename_i hl
  have := Option.some.inj h2
  subst this
  have hly := d2.length
  have hy : ((x.ys.drop off).take (rowLen r)).length = rowLen r := by simp; omega
  refine ⟨x, (x.ys.drop off).take (rowLen r), x1, x2, hy, fun c' hP hF => pf_cellsW h3 hP hF ((d2.drop off).take _), x5, fun B' hB' q => ?_⟩
  obtain ⟨l', cs, a1, a2, a3, a4⟩ := hB' x (by simp)
  refine ⟨l', cs, a1, a2, ?_, ?_⟩
  ·rw [hy]; show x.o + off + rowLen r <= cs.length; omega
  ·rw [hy]
   show (cs.drop (x.o + off)).take (rowLen r) = _
   rw [<- List.drop_drop, <- a4, List.drop_take, List.take_take, Nat.min_eq_left (by omega)]
 ·cases h2
theorem args0_ok (hc : c.ok) (hS : RepS c s e l Y) : ∀ {ak : List AK} {ws ws' : List W} {ds : List D}, args0 s ak ws = some ws' -> All2 (Rep4 c) ws ds ->
  ptL ak ws = true ∧ ∃ Yc, (∀ (c' : Cx), c'.P = c.P -> (∀ x ∈ c.F, x ∈ c'.F) -> ArgL c' ak ws' ds (rgOf ak ds) Yc) ∧
   (∀ r ∈ rgOf ak ds, r.f < c.n + 1 ∧ ∃ p x, p ∈ ptsX ak ws ∧ p.1 = r.w ∧ fct c l Y p.2 = some x ∧ (r.f, r.b) = (x.f, x.b)) ∧
   (∀ B', (∀ p x, p ∈ ptsX ak ws -> fct c l Y p.2 = some x -> Sat [x] B') -> ∀ (j : Nat) r y, (rgOf ak ds)[j]? = some r -> Yc[j]? = some y -> atR r y B')
 | [], [], ws', ds, h, ha => by
  have := Option.some.inj h
  subst this
  obtain rfl := ha.nil_l
  exact ⟨rfl, [], (fun _ _ _ => trivial), (fun r hr => by cases hr), fun _ _ j r y hj => by simp [rgOf] at hj⟩
 | [], _ :: _, ws', ds, h, ha => by simp [args0] at h
 | a :: ak, [], ws', ds, h, ha => by simp [args0] at h
 | a :: ak, w :: ws, ws', ds, h, ha => by
  obtain ⟨d, q, rfl, a1, a2⟩ := ha.cons_l
  simp only [args0] at h
  obtain ⟨w', h1, h2⟩ := Option.bind_eq_some_iff.1 h
  obtain ⟨ws2, h3, h4⟩ := Option.map_eq_some_iff.1 h2
  subst h4
  obtain ⟨i0, Yc, i1, i2, i3⟩ := args0_ok hc hS h3 a2
  cases a with
  | v τ =>
   obtain ⟨rfl, hp⟩ := chk1_some h1
   have hpt : ∀ {ak : List AK} {ws : List W}, ptsX (.v τ :: ak) (w' :: ws) = ptsX ak ws := by
    intro ak ws; cases w' <;> rfl
   have hrg : rgOf (.v τ :: ak) (d :: q) = rgOf ak q := by cases d <;> rfl
   rw [hrg, hpt]
   refine ⟨by cases w' <;> exact i0, Yc, fun c' hP hF => ⟨pf1_up hP hF (of4 a1 fun ws q => by subst q; cases hp) hp, i1 c' hP hF⟩, i2, i3⟩
  | x r =>
   cases w with
   | pt pb off =>
    simp only [arg0] at h1
    cases hw : wrB s pb with
    | false => rw [hw] at h1; cases h1
    | true =>
     rw [hw, cond_true] at h1
     obtain ⟨cs, g1, g2⟩ := Option.bind_eq_some_iff.1 h1
     obtain ⟨w2, g3, g4⟩ := Option.bind_eq_some_iff.1 g2
     obtain ⟨rfl, hp⟩ := chk1_some g4
     obtain ⟨x, y, p1, p2, p3, p4, p5, p6⟩ := ptr_ok hc hS a1 g1 g3 hp
     subst p2
     refine ⟨i0, y :: Yc, fun c' hP hF => ⟨⟨rfl, rfl, rfl, p3, p4 c' hP hF⟩, i1 c' hP hF⟩, fun r' hr' => ?_, fun B' hB' j r' y' hj hy => ?_⟩
     ·rcases List.mem_cons.1 hr' with rfl | hr'
      ·exact ⟨p5, (true, pb), x, by simp [ptsX], rfl, p1, rfl⟩
      ·obtain ⟨k1, p, x', k2, k3, k4, k5⟩ := i2 r' hr'
       exact ⟨k1, p, x', by simp [ptsX, k2], k3, k4, k5⟩
     ·cases j with
      | zero =>
       simp only [rgOf, List.getElem?_cons_zero] at hj hy
       have e1 := Option.some.inj hj; have e2 := Option.some.inj hy
       subst e1 e2
       exact p6 B' (hB' (true, pb) x (by simp [ptsX]) p1) true
      | succ j => exact i3 B' (fun p x hp => hB' p x (by simp [ptsX, hp])) j r' y' (by simpa [rgOf] using hj) (by simpa using hy)
   | _ => simp [arg0] at h1
  | o r =>
   cases w with
   | pt pb off =>
    simp only [arg0] at h1
    obtain ⟨cs, g1, g2⟩ := Option.bind_eq_some_iff.1 h1
    obtain ⟨w2, g3, g4⟩ := Option.bind_eq_some_iff.1 g2
    obtain ⟨rfl, hp⟩ := chk1_some g4
    obtain ⟨x, y, p1, p2, p3, p4, p5, p6⟩ := ptr_ok hc hS a1 g1 g3 hp
    subst p2
    refine ⟨i0, y :: Yc, fun c' hP hF => ⟨⟨rfl, rfl, rfl, p3, p4 c' hP hF⟩, i1 c' hP hF⟩, fun r' hr' => ?_, fun B' hB' j r' y' hj hy => ?_⟩
    ·rcases List.mem_cons.1 hr' with rfl | hr'
     ·exact ⟨p5, (false, pb), x, by simp [ptsX], rfl, p1, rfl⟩
     ·obtain ⟨k1, p, x', k2, k3, k4, k5⟩ := i2 r' hr'
      exact ⟨k1, p, x', by simp [ptsX, k2], k3, k4, k5⟩
    ·cases j with
     | zero =>
      simp only [rgOf, List.getElem?_cons_zero] at hj hy
      have e1 := Option.some.inj hj; have e2 := Option.some.inj hy
      subst e1 e2
      exact p6 B' (hB' (false, pb) x (by simp [ptsX]) p1) false
     | succ j => exact i3 B' (fun p x hp => hB' p x (by simp [ptsX, hp])) j r' y' (by simpa [rgOf] using hj) (by simpa using hy)
   | _ => simp [arg0] at h1
theorem repack {c' : Cx} : ∀ {ak : List AK} {ws : List W} {ds : List D} {rg : List Rg} {Yc : List (List D)} {x : (tyOf (ak.map AK.ty)).T}, ak ≠ [] -> (∀ a ∈ ak, a.ty.val = true) -> ArgL c' ak ws ds rg Yc -> tupT (tyOf (ak.map AK.ty)) ws = some x -> ArgL c' ak (tupW (tyOf (ak.map AK.ty)) x) ds rg Yc
 := by
 have one : ∀ {a : AK} {w : W} {y : a.ty.T} {d : D} {rg : List Rg} {Yc : List (List D)} {ak : List AK} {ws ws2 : List W} {ds : List D}, a.ty.val = true -> valT a.ty w = some y -> ArgL c' (a :: ak) (w :: ws) (d :: ds) rg Yc ->
   (∀ {rg : List Rg} {Yc : List (List D)}, ArgL c' ak ws ds rg Yc -> ArgL c' ak ws2 ds rg Yc) -> ArgL c' (a :: ak) (valW a.ty y :: ws2) (d :: ds) rg Yc := by
  intro a w y d rg Yc ak ws ws2 ds hv h ha ih
  have cells : ∀ {r : Ty} {y : (Ty.g r).T} {z : List D}, valT (.g r) w = some y -> All2 (Rep2 c') w.cells z -> All2 (Rep2 c') (valW (.g r) y).cells z := by
   intro r y z h hz
   cases w with
   | ag ws =>
    obtain ⟨k1, k2⟩ := rowT_ok (c := c') (r := r) h hz
    exact (cellsW_ok k1 k2).mono fun _ _ _ q => to2 (to1 q)
   | _ =>
    simp only [valT, oneT] at h; first | cases h | skip
    all_goals first | (obtain ⟨e, _⟩ := castT_eq h; subst e; cases (All2.cons_l hz).choose_spec.choose_spec.2.1.1) | cases h
  cases a with
  | v τ =>
   cases rg with
   | nil => cases Yc with
    | nil => obtain ⟨h1, h2⟩ := ha; exact ⟨valW_ok hv (valT_ok h (to4 h1)).2, ih h2⟩
    | cons => obtain ⟨h1, h2⟩ := ha; exact ⟨valW_ok hv (valT_ok h (to4 h1)).2, ih h2⟩
   | cons => cases Yc with
    | nil => obtain ⟨h1, h2⟩ := ha; exact ⟨valW_ok hv (valT_ok h (to4 h1)).2, ih h2⟩
    | cons => obtain ⟨h1, h2⟩ := ha; exact ⟨valW_ok hv (valT_ok h (to4 h1)).2, ih h2⟩
  | x r =>
   cases rg with
   | nil => cases Yc <;> exact ha.elim
   | cons q rg => cases Yc with
    | nil => exact ha.elim
    | cons z Yc => obtain ⟨⟨h1, h2, h3, h4, h5⟩, h6⟩ := ha; exact ⟨⟨h1, h2, h3, h4, cells h h5⟩, ih h6⟩
  | o r =>
   cases rg with
   | nil => cases Yc <;> exact ha.elim
   | cons q rg => cases Yc with
    | nil => exact ha.elim
    | cons z Yc => obtain ⟨⟨h1, h2, h3, h4, h5⟩, h6⟩ := ha; exact ⟨⟨h1, h2, h3, h4, cells h h5⟩, ih h6⟩
 have nils : ∀ {a : AK} {ak : List AK} {ws : List W} {rg : List Rg} {Yc : List (List D)}, ¬ ArgL c' (a :: ak) ws [] rg Yc := by
  intro a ak ws rg Yc h
  cases a <;> cases ws <;> cases rg <;> cases Yc <;> exact h
 have nilw : ∀ {a : AK} {ak : List AK} {ds : List D} {rg : List Rg} {Yc : List (List D)}, ¬ ArgL c' (a :: ak) [] ds rg Yc := by
  intro a ak ws rg Yc h
  cases a <;> cases ws <;> cases rg <;> cases Yc <;> exact h
 intro ak
 induction ak with
 | nil => intro ws ds rg Yc x h; exact absurd rfl h
 | cons a ak ih =>
  intro ws ds rg Yc x _ hv ha h
  cases ds with
  | nil => exact (nils ha).elim
  | cons d ds =>
  cases ws with
  | nil => exact (nilw ha).elim
  | cons w ws =>
  have hva := hv a (by simp)
  cases ak with
  | nil =>
   have hw : ws = [] := by
    cases ws with
    | nil => rfl
    | cons w2 ws =>
     exfalso
     cases a <;> cases ds <;> cases rg <;> cases Yc <;> first | exact ha.2 | exact ha | skip
     all_goals (rename_i r1 r2; first | (cases r1 <;> cases r2 <;> exact ha.2) | exact ha.2)
   subst hw
   have hk : ∀ {τ : Ty} {x : τ.T}, τ.val = true -> tupT τ [w] = some x -> valT τ w = some x ∧ tupW τ x = [valW τ x] := by
    intro τ x hτ h
    cases τ with
    | t => cases hτ
    | n => cases hτ
    | _ => exact ⟨h, rfl⟩
   obtain ⟨k1, k2⟩ := hk hva h
   show ArgL c' [a] (tupW a.ty x) (d :: ds) rg Yc
   rw [k2]
   exact one hva k1 ha fun h => h
  | cons b ak =>
   obtain ⟨y, h1, h2⟩ := Option.bind_eq_some_iff.1 (show (valT a.ty w).bind (fun y => (tupT (tyOf ((b :: ak).map AK.ty)) ws).map fun z => (y, z)) = some x from h)
   obtain ⟨z, h3, h4⟩ := Option.map_eq_some_iff.1 h2
   subst h4
   exact one hva h1 ha fun h => ih (by simp) (fun q hq => hv q (by simp [hq])) h h3
end
end Go.Proofs.Ytlhjdikklmkihaa.Ev.U
