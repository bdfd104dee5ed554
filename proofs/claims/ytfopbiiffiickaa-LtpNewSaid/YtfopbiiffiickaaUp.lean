/- The gaps that a function hands out one by one: a loop over claims, and what is behind the last. Conditions: none. -/
import Derived.Test.YtfopbiiffiickaaUn
import Derived.Test.YtfopbiiffiickaaUk
set_option linter.all false
namespace Go.Proofs.Ytfopbiiffiickaa.Ev.U
open Go
def gpB : Cd := (.sq (.rg [s_ 11 (.bin .lss (.t 10) (.t 9))]) (.sq (.ff (.t 11) .sk (.ex 0)) (.sq (.bl 1 (.sq (.rg [s_ 12 (.ia (.t 8) (.t 10) 2), s_ 13 (.ld (some 2) (.t 12)), s_ 5 (.al [.int .i64 0, .int .i64 0]), n_ (.st 2 (.t 5) (.t 13))]) (.sq (.sq (.rg [s_ 14 (.fa (.t 5) 0), s_ 15 (.ld none (.t 14)), s_ 16 (.mv (.t 3)), s_ 17 (.bin .gtr (.t 15) (.t 16)), s_ 18 (.mv (.t 17)), g_ 18 true 19 (.mv (.t 0)), g_ 18 true 20 (.mv (.t 3)), g_ 18 true 21 (.fa (.t 5) 0), g_ 18 true 22 (.ld none (.t 21)), g_ 18 true 23 (.mv (.t 3)), g_ 18 true 24 (.bin .sub (.t 22) (.t 23)), g_ 18 true 25 (.bd [.int .i64 0, .int .i64 0] [(0, 1, (.t 20)), (1, 1, (.t 24))]), g_ 18 true 26 (.cv (.t 19) [(.t 25)]), g_ 18 true 27 (.no (.t 26)), s_ 28 (.pk (.t 18) (.t 27) (.c (.bool false)))]) (.ff (.t 28) .rt .sk)) (.rg [s_ 29 (.fa (.t 5) 0), s_ 30 (.ld none (.t 29)), s_ 31 (.fa (.t 5) 1), s_ 32 (.ld none (.t 31)), s_ 33 (.bin .add (.t 30) (.t 32)), s_ 3 (.mv (.t 33))])))) (.rg [s_ 34 (.bin .add (.t 10) (I 1)), s_ 10 (.mv (.t 34))]))))
def gpC : Cd := (.sq (.rg [s_ 3 (.mv (I 0))]) (.sq (.sq (.rg [s_ 7 (.fa (.t 1) 6), s_ 8 (.ld none (.t 7)), s_ 9 (.len (.t 8)), s_ 10 (.mv (I 0))]) (.bl 0 (.lp [0, 1, 3, 8, 9, 10] [] gpB))) (.sq (.rg [s_ 35 (.fa (.t 1) 0), s_ 36 (.fa (.t 35) 2), s_ 37 (.ld none (.t 36)), s_ 38 (.len (.t 37)), s_ 6 (.mv (.t 38))]) (.sq (.rg [s_ 39 (.mv (.t 3)), s_ 40 (.mv (.t 6)), s_ 41 (.bin .lss (.t 39) (.t 40))]) (.ff (.t 41) (.rg [s_ 42 (.mv (.t 0)), s_ 43 (.mv (.t 3)), s_ 44 (.mv (.t 6)), s_ 45 (.mv (.t 3)), s_ 46 (.bin .sub (.t 44) (.t 45)), s_ 47 (.bd [.int .i64 0, .int .i64 0] [(0, 1, (.t 43)), (1, 1, (.t 46))]), s_ 48 (.cv (.t 42) [(.t 47)])]) .sk)))))
section
variable {P : Caller} {k b : Nat} {cs : List D} {X : D} {n i at_ x y : Int} {o : List Bx}
/-- A step, and the rest. -/
theorem ev_cons {p : Stp} {r : List Stp} {s s1 : S} (h : evStp P p s = some s1) : evOps P (p :: r) s = evOps P r s1 := by simp only [evOps, h, Option.bind_some]
theorem stp_n {t : Nat} {op : Op} {s s1 : S} {d : D} (h : evOp P (some t) op s = some (d, s1)) : evStp P (s_ t op) s = some (put t d s1) := by
  unfold evStp
  simp only [s_, h, Option.map_some]
  rfl
theorem stp_g {q t : Nat} {op : Op} {s s1 : S} {d : D} (hq : get q s.e = .v (.bool true)) (h : evOp P (some t) op s = some (d, s1)) : evStp P (g_ q true t op) s = some (put t d s1) := by
  unfold evStp
  simp only [g_, hq, h, Option.map_some, if_true]
  rfl
theorem stp_f {q t : Nat} {op : Op} {s : S} (hq : get q s.e = .v (.bool false)) : evStp P (g_ q true t op) s = some (put t (.v undef) s) := by
  unfold evStp
  simp only [g_, hq, Bool.false_eq_true, if_false]
  rfl
theorem bx_here {N b : Nat} {s : S} (hN : s.o.length = N) : bx N b s = lk b s.l := if_pos hN.symm
theorem op_ld {t : Option Nat} {N p c : Nat} {off : Nat} {s : S} {ds : List D} {d : D} (hN : s.o.length = N) (hp : (get p s.e).strip = .ptr N c off) (hl : lk c s.l = some ds) (hd : ds[off]? = some d) : evOp P t (.ld none (.t p)) s = some (d.strip, s) := by
  simp only [evOp, rd, hp, bx_here hN, hl, pick, hd, Option.map_some]
theorem op_st {t : Option Nat} {N z p q c : Nat} {off : Nat} {s : S} {ds : List D} {d : D} (hN : s.o.length = N) (hp : (get p s.e).strip = .ptr N c off) (hq : (get q s.e).strip = d) (hl : lk c s.l = some ds) (hc : d.cells.length = z ∧ off + z ≤ ds.length ∧ d.bnd2 (N + 1) = true ∧ d.cells.all D.sto1 = true) : evOp P t (.st z (.t p) (.t q)) s = some (.u, s.wl (sb c (over ds off d.cells) s.l)) := by
  simp only [evOp, rd, hp, bx_here hN, hl, hq]
  rw [if_pos hc]
  unfold sbx
  rw [if_pos hN.symm]
/-- A round: so far without a gap. -/
def gpS (k b : Nat) (cs : List D) (X : D) (n i at_ : Int) (o : List Bx) : S := ⟨[(0, .yld k b), (1, .fptr cs 0), (3, .v (.int .i64 at_)), (8, X), (9, .v (.int .i64 n)), (10, .v (.int .i64 i))], [], o⟩
theorem gp_carry {s : S} (h0 : get 0 s.e = .yld k b) (h1 : get 1 s.e = .fptr cs 0) (h3 : get 3 s.e = .v (.int .i64 at_)) (h8 : get 8 s.e = X) (h9 : get 9 s.e = .v (.int .i64 n)) (h10 : get 10 s.e = .v (.int .i64 i)) (hX : ∃ m z xs, X = .sl m z xs) (hk : k < s.o.length) : carry [0, 1, 3, 8, 9, 10] [] s = some (gpS k b cs X n i at_ s.o) := by
  obtain ⟨m, z, xs, rfl⟩ := hX
  unfold carry
  have hk' : decide (k < s.o.length) = true := decide_eq_true hk
  simp only [carE, carL, h0, h1, h3, h8, h9, h10, D.inn, D.in2, D.in1, hk', Option.map_some, if_true]
  rfl
theorem gp_end (h : ¬ i < n) : evC P gpB (gpS k b cs X n i at_ o) = some (.ex 0, put 11 (.v (.bool false)) (gpS k b cs X n i at_ o)) := by
  have e1 : evOps P [s_ 11 (.bin .lss (.t 10) (.t 9))] (gpS k b cs X n i at_ o) = some (put 11 (.v (.bool (decide (i < n)))) (gpS k b cs X n i at_ o)) := rfl
  unfold gpB
  simp only [evC, e1, Option.map_some]
  rw [decide_eq_false h]
  rfl
abbrev vi (x : Int) : D := .v (.int .i64 x)
/-- A round that has its claim. -/
def gpE (k b : Nat) (cs : List D) (X : D) (n i at_ x y : Int) (N : Nat) : Env := (5, .ptr N 5 0) :: (13, .agg [vi x, vi y]) :: (12, .fptr [vi x, vi y] 0) :: (11, .v (.bool true)) :: [(0, .yld k b), (1, .fptr cs 0), (3, .v (.int .i64 at_)), (8, X), (9, .v (.int .i64 n)), (10, .v (.int .i64 i))]
section
variable {N : Nat} {es : List D}
theorem gp_claim (hlt : i < n) (h0 : 0 ≤ i) (he : es[i.toNat]? = some (.agg [vi x, vi y])) (hN : o.length = N) :
    evOps P [s_ 12 (.ia (.t 8) (.t 10) 2), s_ 13 (.ld (some 2) (.t 12)), s_ 5 (.al [.int .i64 0, .int .i64 0]), n_ (.st 2 (.t 5) (.t 13))] (put 11 (.v (.bool true)) (gpS k b cs (.sl .ro 2 es) n i at_ o)) = some ⟨gpE k b cs (.sl .ro 2 es) n i at_ x y N, [(5, [vi x, vi y])], o⟩ := by
  have e1 : evOp P (some 12) (.ia (.t 8) (.t 10) 2) (put 11 (.v (.bool true)) (gpS k b cs (.sl .ro 2 es) n i at_ o)) = some (.fptr [vi x, vi y] 0, put 11 (.v (.bool true)) (gpS k b cs (.sl .ro 2 es) n i at_ o)) := by
    have : evOp P (some 12) (.ia (.t 8) (.t 10) 2) (put 11 (.v (.bool true)) (gpS k b cs (.sl .ro 2 es) n i at_ o)) = (if 2 = 2 ∧ 0 ≤ i ∧ Mode.ro ≠ .mu then (es[i.toNat]?).map fun d => (D.fptr d.cells 0, put 11 (.v (.bool true)) (gpS k b cs (.sl .ro 2 es) n i at_ o)) else none) := rfl
    rw [this, if_pos ⟨rfl, h0, by simp⟩, he]
    rfl
  rw [ev_cons (stp_n e1)]
  have e2 : evOps P [s_ 13 (.ld (some 2) (.t 12)), s_ 5 (.al [.int .i64 0, .int .i64 0]), n_ (.st 2 (.t 5) (.t 13))] (put 12 (.fptr [vi x, vi y] 0) (put 11 (.v (.bool true)) (gpS k b cs (.sl .ro 2 es) n i at_ o))) = evOps P [n_ (.st 2 (.t 5) (.t 13))] ⟨gpE k b cs (.sl .ro 2 es) n i at_ x y o.length, [(5, [vi 0, vi 0])], o⟩ := rfl
  rw [e2, hN]
  have e3 := op_st (P := P) (t := none) (z := 2) (p := 5) (q := 13) (c := 5) (off := 0) (ds := [vi 0, vi 0]) (d := .agg [vi x, vi y]) (s := ⟨gpE k b cs (.sl .ro 2 es) n i at_ x y N, [(5, [vi 0, vi 0])], o⟩) hN rfl rfl rfl ⟨rfl, by decide, rfl, rfl⟩
  have e4 : evStp P (n_ (.st 2 (.t 5) (.t 13))) ⟨gpE k b cs (.sl .ro 2 es) n i at_ x y N, [(5, [vi 0, vi 0])], o⟩ = some ⟨gpE k b cs (.sl .ro 2 es) n i at_ x y N, [(5, [vi x, vi y])], o⟩ := by
    unfold evStp
    simp only [n_, e3, Option.map_some]
    rfl
  rw [ev_cons e4]
  rfl
/-- Behind the gap, if there was one. -/
theorem gp_next {e : Env} {o : List Bx} (hN : o.length = N) (h5 : get 5 e = .ptr N 5 0) (h0 : get 0 e = .yld k b) (h1 : get 1 e = .fptr cs 0) (h8 : get 8 e = X) (h9 : get 9 e = vi n) (h10 : get 10 e = vi i) : ∃ e', evC P (.rg [s_ 29 (.fa (.t 5) 0), s_ 30 (.ld none (.t 29)), s_ 31 (.fa (.t 5) 1), s_ 32 (.ld none (.t 31)), s_ 33 (.bin .add (.t 30) (.t 32)), s_ 3 (.mv (.t 33))]) ⟨e, [(5, [vi x, vi y])], o⟩ = some (.nm, ⟨e', [(5, [vi x, vi y])], o⟩) ∧
    get 0 e' = .yld k b ∧ get 1 e' = .fptr cs 0 ∧ get 3 e' = vi (IntKind.i64.wrap (x + y)) ∧ get 8 e' = X ∧ get 9 e' = vi n ∧ get 10 e' = vi i := by
  have a1 : evOp P (some 29) (.fa (.t 5) 0) ⟨e, [(5, [vi x, vi y])], o⟩ = some (.ptr N 5 0, ⟨e, [(5, [vi x, vi y])], o⟩) := by simp only [evOp, rd, h5]; rfl
  have a2 : evOp P (some 30) (.ld none (.t 29)) ⟨(29, .ptr N 5 0) :: e, [(5, [vi x, vi y])], o⟩ = some (vi x, ⟨(29, .ptr N 5 0) :: e, [(5, [vi x, vi y])], o⟩) := op_ld (N := N) (c := 5) (off := 0) (ds := [vi x, vi y]) hN rfl rfl rfl
  have a3 : evOp P (some 31) (.fa (.t 5) 1) ⟨(30, vi x) :: (29, .ptr N 5 0) :: e, [(5, [vi x, vi y])], o⟩ = some (.ptr N 5 1, ⟨(30, vi x) :: (29, .ptr N 5 0) :: e, [(5, [vi x, vi y])], o⟩) := by
    simp only [evOp, rd, show get 5 ((30, vi x) :: (29, .ptr N 5 0) :: e) = get 5 e from rfl, h5]; rfl
  have a4 : evOp P (some 32) (.ld none (.t 31)) ⟨(31, .ptr N 5 1) :: (30, vi x) :: (29, .ptr N 5 0) :: e, [(5, [vi x, vi y])], o⟩ = some (vi y, ⟨(31, .ptr N 5 1) :: (30, vi x) :: (29, .ptr N 5 0) :: e, [(5, [vi x, vi y])], o⟩) := op_ld (N := N) (c := 5) (off := 1) (ds := [vi x, vi y]) hN rfl rfl rfl
  refine ⟨(3, vi (IntKind.i64.wrap (x + y))) :: (33, vi (IntKind.i64.wrap (x + y))) :: (32, vi y) :: (31, .ptr N 5 1) :: (30, vi x) :: (29, .ptr N 5 0) :: e, ?_, h0, h1, rfl, h8, h9, h10⟩
  refine (congrArg (Option.map fun s => (Ex.nm, s)) ((ev_cons (stp_n a1)).trans ((ev_cons (stp_n a2)).trans ((ev_cons (stp_n a3)).trans (ev_cons (stp_n a4)))))).trans rfl
end
variable {N : Nat} {es : List D}
theorem sq_nm {a b : Cd} {s s1 : S} (h : evC P a s = some (.nm, s1)) : evC P (.sq a b) s = evC P b s1 := by simp only [evC, h]
theorem sq_rt {a b : Cd} {s s1 : S} (h : evC P a s = some (.rt, s1)) : evC P (.sq a b) s = some (.rt, s1) := by simp only [evC, h]
theorem bl_nm {id : Nat} {a : Cd} {s s1 : S} (h : evC P a s = some (.nm, s1)) : evC P (.bl id a) s = some (.nm, s1) := by simp only [evC, h]
theorem bl_rt {id : Nat} {a : Cd} {s s1 : S} (h : evC P a s = some (.rt, s1)) : evC P (.bl id a) s = some (.rt, s1) := by simp only [evC, h]
theorem rg_nm {l : List Stp} {s s1 : S} (h : evOps P l s = some s1) : evC P (.rg l) s = some (.nm, s1) := by simp only [evC, h, Option.map_some]
def gpG : List Stp := [g_ 18 true 19 (.mv (.t 0)), g_ 18 true 20 (.mv (.t 3)), g_ 18 true 21 (.fa (.t 5) 0), g_ 18 true 22 (.ld none (.t 21)), g_ 18 true 23 (.mv (.t 3)), g_ 18 true 24 (.bin .sub (.t 22) (.t 23)), g_ 18 true 25 (.bd [.int .i64 0, .int .i64 0] [(0, 1, (.t 20)), (1, 1, (.t 24))]), g_ 18 true 26 (.cv (.t 19) [(.t 25)]), g_ 18 true 27 (.no (.t 26)), s_ 28 (.pk (.t 18) (.t 27) (.c (.bool false)))]
def gpE2 (k b : Nat) (cs : List D) (X : D) (n i at_ x y : Int) (N : Nat) (q : Bool) : Env := (18, .v (.bool q)) :: (17, .v (.bool q)) :: (16, vi at_) :: (15, vi x) :: (14, .ptr N 5 0) :: gpE k b cs X n i at_ x y N
theorem gp_ask (hN : o.length = N) (rest : List Stp) : evOps P (s_ 14 (.fa (.t 5) 0) :: s_ 15 (.ld none (.t 14)) :: s_ 16 (.mv (.t 3)) :: s_ 17 (.bin .gtr (.t 15) (.t 16)) :: s_ 18 (.mv (.t 17)) :: rest) ⟨gpE k b cs X n i at_ x y N, [(5, [vi x, vi y])], o⟩ = evOps P rest ⟨gpE2 k b cs X n i at_ x y N (decide (x > at_)), [(5, [vi x, vi y])], o⟩ := by
  have a1 : evOp P (some 14) (.fa (.t 5) 0) ⟨gpE k b cs X n i at_ x y N, [(5, [vi x, vi y])], o⟩ = some (.ptr N 5 0, ⟨gpE k b cs X n i at_ x y N, [(5, [vi x, vi y])], o⟩) := rfl
  have a2 : evOp P (some 15) (.ld none (.t 14)) ⟨(14, .ptr N 5 0) :: gpE k b cs X n i at_ x y N, [(5, [vi x, vi y])], o⟩ = some (vi x, ⟨(14, .ptr N 5 0) :: gpE k b cs X n i at_ x y N, [(5, [vi x, vi y])], o⟩) := op_ld (N := N) (c := 5) (off := 0) (ds := [vi x, vi y]) hN rfl rfl rfl
  exact (ev_cons (stp_n a1)).trans ((ev_cons (stp_n a2)).trans rfl)
theorem gp_no : evOps P gpG ⟨gpE2 k b cs X n i at_ x y N false, [(5, [vi x, vi y])], o⟩ = some ⟨(28, .v (.bool false)) :: (27, .v undef) :: (26, .v undef) :: (25, .v undef) :: (24, .v undef) :: (23, .v undef) :: (22, .v undef) :: (21, .v undef) :: (20, .v undef) :: (19, .v undef) :: gpE2 k b cs X n i at_ x y N false, [(5, [vi x, vi y])], o⟩ := rfl
def gpE3 (k b : Nat) (cs : List D) (X : D) (n i at_ x y : Int) (N : Nat) : Env := (25, .agg [vi at_, vi (IntKind.i64.wrap (x - at_))]) :: (24, vi (IntKind.i64.wrap (x - at_))) :: (23, vi at_) :: (22, vi x) :: (21, .ptr N 5 0) :: (20, vi at_) :: (19, .yld k b) :: gpE2 k b cs X n i at_ x y N true
/-- The call of what takes the values. -/
theorem op_yld {t : Option Nat} {p q rid : Nat} {s : S} {d r : D} {o' : List Bx} {st jm : Nat} {ks : List Nat} {caps : List D} (hp : (get p s.e).strip = .yld k b) (hq : (get q s.e).strip = d) (hk : k < s.o.length) (hr : (s.o[k]?).bind (lk b) = some (.rcd st jm rid ks :: caps)) (hc : P rid [.yld k b, d] (s.o ++ [s.l]) = some (r, o' ++ [s.l])) : evOp P t (.cv (.t p) [.t q]) s = some (r, ⟨s.e, s.l, o'⟩) := by
  have hb : bx k b s = some (.rcd st jm rid ks :: caps) := by
    unfold bx
    rw [if_neg (by omega)]
    exact hr
  simp only [evOp, rd, rdL, hp, hq, hb, doCall, hc, unsnoc_append]
  rfl
theorem gp_yes {rid st jm : Nat} {ks : List Nat} {caps : List D} {r : Bool} {o' : List Bx} (hN : o.length = N) (hk : k < N) (hr : (o[k]?).bind (lk b) = some (.rcd st jm rid ks :: caps))
    (hc : P rid [.yld k b, .agg [vi at_, vi (IntKind.i64.wrap (x - at_))]] (o ++ [[(5, [vi x, vi y])]]) = some (.v (.bool r), o' ++ [[(5, [vi x, vi y])]])) :
    evOps P gpG ⟨gpE2 k b cs X n i at_ x y N true, [(5, [vi x, vi y])], o⟩ = some ⟨(28, .v (.bool (!r))) :: (27, .v (.bool (!r))) :: (26, .v (.bool r)) :: gpE3 k b cs X n i at_ x y N, [(5, [vi x, vi y])], o'⟩ := by
  have a2 : evOp P (some 22) (.ld none (.t 21)) ⟨(21, .ptr N 5 0) :: (20, vi at_) :: (19, .yld k b) :: gpE2 k b cs X n i at_ x y N true, [(5, [vi x, vi y])], o⟩ = some (vi x, ⟨(21, .ptr N 5 0) :: (20, vi at_) :: (19, .yld k b) :: gpE2 k b cs X n i at_ x y N true, [(5, [vi x, vi y])], o⟩) := op_ld (N := N) (c := 5) (off := 0) (ds := [vi x, vi y]) hN rfl rfl rfl
  have a3 : evOp P (some 26) (.cv (.t 19) [.t 25]) ⟨gpE3 k b cs X n i at_ x y N, [(5, [vi x, vi y])], o⟩ = some (.v (.bool r), ⟨gpE3 k b cs X n i at_ x y N, [(5, [vi x, vi y])], o'⟩) := op_yld (k := k) (b := b) (rid := rid) rfl rfl (by rw [hN]; exact hk) hr hc
  have e1 : evOps P gpG ⟨gpE2 k b cs X n i at_ x y N true, [(5, [vi x, vi y])], o⟩ = evOps P (g_ 18 true 22 (.ld none (.t 21)) :: g_ 18 true 23 (.mv (.t 3)) :: g_ 18 true 24 (.bin .sub (.t 22) (.t 23)) :: g_ 18 true 25 (.bd [.int .i64 0, .int .i64 0] [(0, 1, (.t 20)), (1, 1, (.t 24))]) :: g_ 18 true 26 (.cv (.t 19) [(.t 25)]) :: [g_ 18 true 27 (.no (.t 26)), s_ 28 (.pk (.t 18) (.t 27) (.c (.bool false)))]) ⟨(21, .ptr N 5 0) :: (20, vi at_) :: (19, .yld k b) :: gpE2 k b cs X n i at_ x y N true, [(5, [vi x, vi y])], o⟩ := rfl
  rw [e1, ev_cons (stp_g rfl a2)]
  have e2 : evOps P (g_ 18 true 23 (.mv (.t 3)) :: g_ 18 true 24 (.bin .sub (.t 22) (.t 23)) :: g_ 18 true 25 (.bd [.int .i64 0, .int .i64 0] [(0, 1, (.t 20)), (1, 1, (.t 24))]) :: g_ 18 true 26 (.cv (.t 19) [(.t 25)]) :: [g_ 18 true 27 (.no (.t 26)), s_ 28 (.pk (.t 18) (.t 27) (.c (.bool false)))]) (put 22 (vi x) ⟨(21, .ptr N 5 0) :: (20, vi at_) :: (19, .yld k b) :: gpE2 k b cs X n i at_ x y N true, [(5, [vi x, vi y])], o⟩) = evOps P (g_ 18 true 26 (.cv (.t 19) [(.t 25)]) :: [g_ 18 true 27 (.no (.t 26)), s_ 28 (.pk (.t 18) (.t 27) (.c (.bool false)))]) ⟨gpE3 k b cs X n i at_ x y N, [(5, [vi x, vi y])], o⟩ := rfl
  rw [e2, ev_cons (stp_g rfl a3)]
  rfl
/-- What a round leaves to the next one. -/
structure GpH (k b : Nat) (cs : List D) (X : D) (n i at_ : Int) (e : Env) : Prop where
  h0 : get 0 e = .yld k b
  h1 : get 1 e = .fptr cs 0
  h3 : get 3 e = vi at_
  h8 : get 8 e = X
  h9 : get 9 e = vi n
  h10 : get 10 e = vi i
theorem gp_step {e : Env} {l : Bx} {o : List Bx} {at' : Int} (h : GpH k b cs X n i at' e) : ∃ e', evC P (.rg [s_ 34 (.bin .add (.t 10) (I 1)), s_ 10 (.mv (.t 34))]) ⟨e, l, o⟩ = some (.nm, ⟨e', l, o⟩) ∧ GpH k b cs X n (IntKind.i64.wrap (i + 1)) at' e' := by
  have a1 : evOp P (some 34) (.bin .add (.t 10) (I 1)) ⟨e, l, o⟩ = some (vi (IntKind.i64.wrap (i + 1)), ⟨e, l, o⟩) := by simp only [evOp, rd, h.h10]; rfl
  refine ⟨(10, vi (IntKind.i64.wrap (i + 1))) :: (34, vi (IntKind.i64.wrap (i + 1))) :: e, ?_, h.h0, h.h1, h.h3, h.h8, h.h9, rfl⟩
  exact rg_nm ((ev_cons (stp_n a1)).trans rfl)
theorem gp_head (hlt : i < n) (h0 : 0 ≤ i) (he : es[i.toNat]? = some (.agg [vi x, vi y])) (hN : o.length = N) {R : Option (Ex × S)}
    (h : evC P (.sq (.bl 1 (.sq (.sq (.rg (s_ 14 (.fa (.t 5) 0) :: s_ 15 (.ld none (.t 14)) :: s_ 16 (.mv (.t 3)) :: s_ 17 (.bin .gtr (.t 15) (.t 16)) :: s_ 18 (.mv (.t 17)) :: gpG)) (.ff (.t 28) .rt .sk)) (.rg [s_ 29 (.fa (.t 5) 0), s_ 30 (.ld none (.t 29)), s_ 31 (.fa (.t 5) 1), s_ 32 (.ld none (.t 31)), s_ 33 (.bin .add (.t 30) (.t 32)), s_ 3 (.mv (.t 33))]))) (.rg [s_ 34 (.bin .add (.t 10) (I 1)), s_ 10 (.mv (.t 34))])) ⟨gpE k b cs (.sl .ro 2 es) n i at_ x y N, [(5, [vi x, vi y])], o⟩ = R) : evC P gpB (gpS k b cs (.sl .ro 2 es) n i at_ o) = R := by
  have h1 : evC P (.rg [s_ 11 (.bin .lss (.t 10) (.t 9))]) (gpS k b cs (.sl .ro 2 es) n i at_ o) = some (.nm, put 11 (.v (.bool true)) (gpS k b cs (.sl .ro 2 es) n i at_ o)) := by
    have := rg_nm (P := P) (l := [s_ 11 (.bin .lss (.t 10) (.t 9))]) (s := gpS k b cs (.sl .ro 2 es) n i at_ o) (s1 := put 11 (.v (.bool (decide (i < n)))) (gpS k b cs (.sl .ro 2 es) n i at_ o)) rfl
    rwa [decide_eq_true hlt] at this
  have h2 : evC P (.ff (.t 11) .sk (.ex 0)) (put 11 (.v (.bool true)) (gpS k b cs (.sl .ro 2 es) n i at_ o)) = some (.nm, put 11 (.v (.bool true)) (gpS k b cs (.sl .ro 2 es) n i at_ o)) := rfl
  have h3 := rg_nm (gp_claim (P := P) (k := k) (b := b) (cs := cs) (at_ := at_) hlt h0 he hN)
  refine (sq_nm h1).trans ((sq_nm h2).trans ?_)
  rw [← h]
  have hb : ∀ (c : Cd), evC P (.bl 1 (.sq (.rg [s_ 12 (.ia (.t 8) (.t 10) 2), s_ 13 (.ld (some 2) (.t 12)), s_ 5 (.al [.int .i64 0, .int .i64 0]), n_ (.st 2 (.t 5) (.t 13))]) c)) (put 11 (.v (.bool true)) (gpS k b cs (.sl .ro 2 es) n i at_ o)) = evC P (.bl 1 c) ⟨gpE k b cs (.sl .ro 2 es) n i at_ x y N, [(5, [vi x, vi y])], o⟩ := by
    intro c
    simp only [evC.eq_5, sq_nm h3]
  simp only [evC.eq_3, hb]
  rfl
/-- A claim with no gap ahead of it. -/
theorem gp_round0 (hlt : i < n) (h0 : 0 ≤ i) (he : es[i.toNat]? = some (.agg [vi x, vi y])) (hN : o.length = N) (hx : ¬ x > at_) :
    ∃ e' l', evC P gpB (gpS k b cs (.sl .ro 2 es) n i at_ o) = some (.nm, ⟨e', l', o⟩) ∧ GpH k b cs (.sl .ro 2 es) n (IntKind.i64.wrap (i + 1)) (IntKind.i64.wrap (x + y)) e' := by
  have h4 := rg_nm ((gp_ask (P := P) (k := k) (b := b) (cs := cs) (X := .sl .ro 2 es) (n := n) (i := i) (at_ := at_) (x := x) (y := y) hN gpG).trans (by rw [decide_eq_false hx]; exact gp_no))
  obtain ⟨e1, h6, q0, q1, q3, q8, q9, q10⟩ := gp_next (P := P) (k := k) (b := b) (cs := cs) (X := .sl .ro 2 es) (n := n) (i := i) (x := x) (y := y) (e := (28, .v (.bool false)) :: (27, .v undef) :: (26, .v undef) :: (25, .v undef) :: (24, .v undef) :: (23, .v undef) :: (22, .v undef) :: (21, .v undef) :: (20, .v undef) :: (19, .v undef) :: gpE2 k b cs (.sl .ro 2 es) n i at_ x y N false) hN rfl rfl rfl rfl rfl rfl
  obtain ⟨e2, h7, h8⟩ := gp_step (P := P) (l := [(5, [vi x, vi y])]) (o := o) (e := e1) ⟨q0, q1, q3, q8, q9, q10⟩
  refine ⟨e2, [(5, [vi x, vi y])], gp_head hlt h0 he hN ?_, h8⟩
  exact (sq_nm (bl_nm ((sq_nm ((sq_nm h4).trans rfl)).trans h6))).trans h7
/-- A claim with a gap ahead of it. -/
theorem gp_round1 (hlt : i < n) (h0 : 0 ≤ i) (he : es[i.toNat]? = some (.agg [vi x, vi y])) (hN : o.length = N) (hx : x > at_) {rid st jm : Nat} {ks : List Nat} {caps : List D} {r : Bool} {o' : List Bx} (hk : k < N) (hr : (o[k]?).bind (lk b) = some (.rcd st jm rid ks :: caps))
    (hc : ∀ lg, P rid [.yld k b, .agg [vi at_, vi (IntKind.i64.wrap (x - at_))]] (o ++ [lg]) = some (.v (.bool r), o' ++ [lg])) (hN' : o'.length = N) :
    (r = true ∧ ∃ e' l', evC P gpB (gpS k b cs (.sl .ro 2 es) n i at_ o) = some (.nm, ⟨e', l', o'⟩) ∧ GpH k b cs (.sl .ro 2 es) n (IntKind.i64.wrap (i + 1)) (IntKind.i64.wrap (x + y)) e') ∨ (r = false ∧ ∃ e' l', evC P gpB (gpS k b cs (.sl .ro 2 es) n i at_ o) = some (.rt, ⟨e', l', o'⟩)) := by
  have h4 := rg_nm ((gp_ask (P := P) (k := k) (b := b) (cs := cs) (X := .sl .ro 2 es) (n := n) (i := i) (at_ := at_) (x := x) (y := y) hN gpG).trans (by rw [decide_eq_true hx]; exact gp_yes hN hk hr (hc _)))
  cases r with
  | true =>
    left
    refine ⟨rfl, ?_⟩
    obtain ⟨e1, h6, q0, q1, q3, q8, q9, q10⟩ := gp_next (P := P) (k := k) (b := b) (cs := cs) (X := .sl .ro 2 es) (n := n) (i := i) (x := x) (y := y) (o := o') (e := (28, .v (.bool (!true))) :: (27, .v (.bool (!true))) :: (26, .v (.bool true)) :: gpE3 k b cs (.sl .ro 2 es) n i at_ x y N) hN' rfl rfl rfl rfl rfl rfl
    obtain ⟨e2, h7, h8⟩ := gp_step (P := P) (l := [(5, [vi x, vi y])]) (o := o') (e := e1) ⟨q0, q1, q3, q8, q9, q10⟩
    refine ⟨e2, [(5, [vi x, vi y])], gp_head hlt h0 he hN ?_, h8⟩
    exact (sq_nm (bl_nm ((sq_nm ((sq_nm h4).trans rfl)).trans h6))).trans h7
  | false =>
    right
    refine ⟨rfl, (28, .v (.bool (!false))) :: (27, .v (.bool (!false))) :: (26, .v (.bool false)) :: gpE3 k b cs (.sl .ro 2 es) n i at_ x y N, [(5, [vi x, vi y])], gp_head hlt h0 he hN ?_⟩
    exact sq_rt (bl_rt (sq_rt ((sq_nm h4).trans rfl)))

/-- The gaps, in order. -/
def gapF (tot : Int) : List (Int × Int) → Int → List (Int × Int)
  | [], at_ => if at_ < tot then [(at_, IntKind.i64.wrap (tot - at_))] else []
  | c :: r, at_ => (if c.1 > at_ then [(at_, IntKind.i64.wrap (c.1 - at_))] else []) ++ gapF tot r (IntKind.i64.wrap (c.1 + c.2))
abbrev clD (c : Int × Int) : D := .agg [vi c.1, vi c.2]
/-- What takes the values, as long as it wants more. -/
structure Wants (P : Caller) (k b rid m : Nat) (fin : Bool) (L : List (Int × Int)) (β : Nat → List Bx) (N : Nat) : Prop where
  hk : k < N
  hm : m ≤ L.length
  hf : fin = true → m = L.length
  hn : fin = false → 0 < m
  len : ∀ i, i ≤ m → (β i).length = N
  rcd : ∀ i, i < m → ∃ st jm ks caps, ((β i)[k]?).bind (lk b) = some (.rcd st jm rid ks :: caps)
  call : ∀ i, i < m → ∀ c, L[i]? = some c → ∀ lg, P rid [.yld k b, clD c] (β i ++ [lg]) = some (.v (.bool (decide (i + 1 < m) || fin)), β (i + 1) ++ [lg])
variable {rid m : Nat} {fin : Bool} {L : List (Int × Int)} {β : Nat → List Bx}
theorem drop_head {α : Type} {L r : List α} {j : Nat} {c : α} (h : L.drop j = c :: r) : L[j]? = some c ∧ L.drop (j + 1) = r ∧ j < L.length := by
  have hj : j < L.length := by
    rcases Nat.lt_or_ge j L.length with h1 | h1
    · exact h1
    · rw [List.drop_of_length_le h1] at h; cases h
  rw [List.drop_eq_getElem_cons hj] at h
  injection h with h1 h2
  exact ⟨by rw [List.getElem?_eq_getElem hj, h1], h2, hj⟩
theorem gp_loop (hw : Wants P k b rid m fin L β N) {got : List (Int × Int)} {es : List D} (hX : X = .sl .ro 2 es ∨ (got = [] ∧ ∃ z, X = .sl .nl z [])) (hes : ∀ (i : Nat) c, got[i]? = some c → es[i]? = some (clD c)) (hb : got.length < 1000000000) {tot : Int} :
    ∀ (w i j : Nat) (at_ : Int) (e : Env) (l : Bx), i + w = got.length → j ≤ m → (j < m ∨ fin = true) → L.drop j = gapF tot (got.drop i) at_ → GpH k b cs X (got.length : Int) (i : Int) at_ e →
    (∃ j' at' e', evC P (.lp [0, 1, 3, 8, 9, 10] [] gpB) ⟨e, l, β j⟩ = some (.ex 0, ⟨e', [], β j'⟩) ∧ j' ≤ m ∧ (j' < m ∨ fin = true) ∧ L.drop j' = gapF tot [] at' ∧ get 0 e' = .yld k b ∧ get 1 e' = .fptr cs 0 ∧ get 3 e' = vi at') ∨
    (∃ e' l', evC P (.lp [0, 1, 3, 8, 9, 10] [] gpB) ⟨e, l, β j⟩ = some (.rt, ⟨e', l', β m⟩)) := by
  intro w
  induction w with
  | zero =>
    intro i j at_ e l hi hj hlive hL h
    left
    have hcar := gp_carry (s := ⟨e, l, β j⟩) h.h0 h.h1 h.h3 h.h8 h.h9 h.h10 (by rcases hX with h | ⟨_, _, h⟩ <;> exact ⟨_, _, _, h⟩) (by show k < (β j).length; rw [hw.len j hj]; exact hw.hk)
    rw [evC_lp, hcar]
    simp only [gp_end (P := P) (k := k) (b := b) (cs := cs) (X := X) (at_ := at_) (o := β j) (show ¬ ((i : Int) < (got.length : Int)) by omega)]
    refine ⟨j, at_, _, rfl, hj, hlive, ?_, rfl, rfl, rfl⟩
    rw [hL, List.drop_of_length_le (by omega)]
  | succ w IH =>
    intro i j at_ e l hi hj hlive hL h
    have hil : i < got.length := by omega
    have hX' : X = .sl .ro 2 es := by
      rcases hX with h | ⟨h, _⟩
      · exact h
      · rw [h] at hil; simp at hil
    subst hX'
    clear hX
    have hcar := gp_carry (s := ⟨e, l, β j⟩) h.h0 h.h1 h.h3 h.h8 h.h9 h.h10 ⟨_, _, _, rfl⟩ (by show k < (β j).length; rw [hw.len j hj]; exact hw.hk)
    obtain ⟨x, y, hc⟩ : ∃ x y, got[i] = (x, y) := ⟨_, _, rfl⟩
    have hg : got[i]? = some (x, y) := by rw [List.getElem?_eq_getElem hil, hc]
    have he : es[((i : Int)).toNat]? = some (.agg [vi x, vi y]) := by rw [Int.toNat_natCast]; exact hes i _ hg
    rw [drop_cons' hil, hc] at hL
    have hwn : IntKind.i64.wrap ((i : Int) + 1) = ((i + 1 : Nat) : Int) := wnext (by omega)
    by_cases hx : x > at_
    · have hL' : L.drop j = (at_, IntKind.i64.wrap (x - at_)) :: gapF tot (got.drop (i + 1)) (IntKind.i64.wrap (x + y)) := by
        rw [hL]; show (if x > at_ then _ else _) ++ _ = _; rw [if_pos hx]; rfl
      obtain ⟨d1, d2, d3⟩ := drop_head hL'
      have hjm : j < m := by
        rcases hlive with h | h
        · exact h
        · have := hw.hf h; omega
      obtain ⟨st, jm, ks, caps, hr⟩ := hw.rcd j hjm
      have hround := gp_round1 (P := P) (k := k) (b := b) (cs := cs) (n := (got.length : Int)) (i := (i : Int)) (at_ := at_) (o := β j) (by omega) (by omega) he (hw.len j hj) hx hw.hk hr (hw.call j hjm _ d1) (hw.len (j + 1) hjm)
      rcases hround with ⟨hrt, e', l', hev, hh⟩ | ⟨hrf, e', l', hev⟩
      · rw [hwn] at hh
        have hlive' : j + 1 < m ∨ fin = true := by simpa using hrt
        have ih := IH (i + 1) (j + 1) _ e' l' (by omega) hjm hlive' d2 hh
        rw [evC_lp, hcar]
        simp only [hev]
        exact ih
      · right
        have hjm' : j + 1 = m ∧ fin = false := by
          simp only [Bool.or_eq_false_iff, decide_eq_false_iff_not] at hrf
          exact ⟨by omega, hrf.2⟩
        rw [evC_lp, hcar]
        simp only [hev]
        exact ⟨e', l', by rw [hjm'.1]⟩
    · have hL' : L.drop j = gapF tot (got.drop (i + 1)) (IntKind.i64.wrap (x + y)) := by
        rw [hL]; show (if x > at_ then _ else _) ++ _ = _; rw [if_neg hx]; rfl
      obtain ⟨e', l', hev, hh⟩ := gp_round0 (P := P) (k := k) (b := b) (cs := cs) (n := (got.length : Int)) (i := (i : Int)) (at_ := at_) (o := β j) (by omega) (by omega) he (hw.len j hj) hx
      rw [hwn] at hh
      have ih := IH (i + 1) j _ e' l' (by omega) hj hlive hL' hh
      rw [evC_lp, hcar]
      simp only [hev]
      exact ih
def gpT : Cd := (.sq (.rg [s_ 35 (.fa (.t 1) 0), s_ 36 (.fa (.t 35) 2), s_ 37 (.ld none (.t 36)), s_ 38 (.len (.t 37)), s_ 6 (.mv (.t 38))]) (.sq (.rg [s_ 39 (.mv (.t 3)), s_ 40 (.mv (.t 6)), s_ 41 (.bin .lss (.t 39) (.t 40))]) (.ff (.t 41) (.rg [s_ 42 (.mv (.t 0)), s_ 43 (.mv (.t 3)), s_ 44 (.mv (.t 6)), s_ 45 (.mv (.t 3)), s_ 46 (.bin .sub (.t 44) (.t 45)), s_ 47 (.bd [.int .i64 0, .int .i64 0] [(0, 1, (.t 43)), (1, 1, (.t 46))]), s_ 48 (.cv (.t 42) [(.t 47)])]) .sk)))
def gpE6 (cs : List D) (mm : Mode) (z : Nat) (bs : List D) (tot : Int) (e : Env) : Env := (6, vi tot) :: (38, vi tot) :: (37, .sl mm z bs) :: (36, .fptr cs 2) :: (35, .fptr cs 0) :: e
def gpE41 (cs : List D) (mm : Mode) (z : Nat) (bs : List D) (tot at_ : Int) (e : Env) (q : Bool) : Env := (41, .v (.bool q)) :: (40, vi tot) :: (39, vi at_) :: gpE6 cs mm z bs tot e
def gpE47 (k b : Nat) (cs : List D) (mm : Mode) (z : Nat) (bs : List D) (tot at_ : Int) (e : Env) : Env := (47, clD (at_, IntKind.i64.wrap (tot - at_))) :: (46, vi (IntKind.i64.wrap (tot - at_))) :: (45, vi at_) :: (44, vi tot) :: (43, vi at_) :: (42, .yld k b) :: gpE41 cs mm z bs tot at_ e true
theorem gp_tail (hw : Wants P k b rid m fin L β N) {tot at_ : Int} {j : Nat} {e : Env} {l : Bx} {mm : Mode} {z : Nat} {bs : List D} (hcs : cs[2]? = some (.sl mm z bs)) (hs : (D.sl mm z bs).strip = .sl mm z bs) (ht : (bs.length : Int) = tot) (hj : j ≤ m) (hlive : j < m ∨ fin = true) (hL : L.drop j = gapF tot [] at_)
    (h0 : get 0 e = .yld k b) (h1 : get 1 e = .fptr cs 0) (h3 : get 3 e = vi at_) : ∃ e', evC P gpT ⟨e, l, β j⟩ = some (.nm, ⟨e', l, β m⟩) := by
  have a1 : evOp P (some 35) (.fa (.t 1) 0) ⟨e, l, β j⟩ = some (.fptr cs 0, ⟨e, l, β j⟩) := by simp only [evOp, rd, h1]; rfl
  have a2 : evOp P (some 36) (.fa (.t 35) 2) ⟨(35, .fptr cs 0) :: e, l, β j⟩ = some (.fptr cs 2, ⟨(35, .fptr cs 0) :: e, l, β j⟩) := rfl
  have a3 : evOp P (some 37) (.ld none (.t 36)) ⟨(36, .fptr cs 2) :: (35, .fptr cs 0) :: e, l, β j⟩ = some (.sl mm z bs, ⟨(36, .fptr cs 2) :: (35, .fptr cs 0) :: e, l, β j⟩) := by
    have : evOp P (some 37) (.ld none (.t 36)) ⟨(36, .fptr cs 2) :: (35, .fptr cs 0) :: e, l, β j⟩ = (cs[2]?).map fun d => (d, ⟨(36, .fptr cs 2) :: (35, .fptr cs 0) :: e, l, β j⟩) := rfl
    rw [this, hcs]; rfl
  have a4 : evOp P (some 38) (.len (.t 37)) ⟨(37, .sl mm z bs) :: (36, .fptr cs 2) :: (35, .fptr cs 0) :: e, l, β j⟩ = some (vi tot, ⟨(37, .sl mm z bs) :: (36, .fptr cs 2) :: (35, .fptr cs 0) :: e, l, β j⟩) := by
    simp only [evOp, rd, show get 37 ((37, D.sl mm z bs) :: (36, .fptr cs 2) :: (35, .fptr cs 0) :: e) = .sl mm z bs from rfl, hs, ht]
  have r1 : evC P (.rg [s_ 35 (.fa (.t 1) 0), s_ 36 (.fa (.t 35) 2), s_ 37 (.ld none (.t 36)), s_ 38 (.len (.t 37)), s_ 6 (.mv (.t 38))]) ⟨e, l, β j⟩ = some (.nm, ⟨gpE6 cs mm z bs tot e, l, β j⟩) :=
    rg_nm ((ev_cons (stp_n a1)).trans ((ev_cons (stp_n a2)).trans ((ev_cons (stp_n a3)).trans ((ev_cons (stp_n a4)).trans rfl))))
  have a5 : evOp P (some 39) (.mv (.t 3)) ⟨gpE6 cs mm z bs tot e, l, β j⟩ = some (vi at_, ⟨gpE6 cs mm z bs tot e, l, β j⟩) := by
    simp only [evOp, rd, show get 3 (gpE6 cs mm z bs tot e) = get 3 e from rfl, h3]; rfl
  have r2 : evC P (.rg [s_ 39 (.mv (.t 3)), s_ 40 (.mv (.t 6)), s_ 41 (.bin .lss (.t 39) (.t 40))]) ⟨gpE6 cs mm z bs tot e, l, β j⟩ = some (.nm, ⟨gpE41 cs mm z bs tot at_ e (decide (at_ < tot)), l, β j⟩) := rg_nm ((ev_cons (stp_n a5)).trans rfl)
  by_cases hx : at_ < tot
  · have hL' : L.drop j = [(at_, IntKind.i64.wrap (tot - at_))] := by rw [hL]; exact if_pos hx
    obtain ⟨d1, d2, d3⟩ := drop_head hL'
    have hlen : L.length = j + 1 := by
      have := congrArg List.length hL'
      simp at this
      omega
    have hjm : j < m := by
      rcases hlive with h | h
      · exact h
      · have := hw.hf h; omega
    have hm : m = j + 1 := by have := hw.hm; omega
    obtain ⟨st, jm, ks, caps, hr⟩ := hw.rcd j hjm
    rw [decide_eq_true hx] at r2
    have b1 : evOp P (some 42) (.mv (.t 0)) ⟨gpE41 cs mm z bs tot at_ e true, l, β j⟩ = some (.yld k b, ⟨gpE41 cs mm z bs tot at_ e true, l, β j⟩) := by
      simp only [evOp, rd, show get 0 (gpE41 cs mm z bs tot at_ e true) = get 0 e from rfl, h0]; rfl
    have b2 : evOp P (some 43) (.mv (.t 3)) ⟨(42, .yld k b) :: gpE41 cs mm z bs tot at_ e true, l, β j⟩ = some (vi at_, ⟨(42, .yld k b) :: gpE41 cs mm z bs tot at_ e true, l, β j⟩) := by
      simp only [evOp, rd, show get 3 ((42, .yld k b) :: gpE41 cs mm z bs tot at_ e true) = get 3 e from rfl, h3]; rfl
    have b3 : evOp P (some 44) (.mv (.t 6)) ⟨(43, vi at_) :: (42, .yld k b) :: gpE41 cs mm z bs tot at_ e true, l, β j⟩ = some (vi tot, ⟨(43, vi at_) :: (42, .yld k b) :: gpE41 cs mm z bs tot at_ e true, l, β j⟩) := rfl
    have b4 : evOp P (some 45) (.mv (.t 3)) ⟨(44, vi tot) :: (43, vi at_) :: (42, .yld k b) :: gpE41 cs mm z bs tot at_ e true, l, β j⟩ = some (vi at_, ⟨(44, vi tot) :: (43, vi at_) :: (42, .yld k b) :: gpE41 cs mm z bs tot at_ e true, l, β j⟩) := by
      simp only [evOp, rd, show get 3 ((44, vi tot) :: (43, vi at_) :: (42, .yld k b) :: gpE41 cs mm z bs tot at_ e true) = get 3 e from rfl, h3]; rfl
    have b5 : evOp P (some 48) (.cv (.t 42) [.t 47]) ⟨gpE47 k b cs mm z bs tot at_ e, l, β j⟩ = some (.v (.bool (decide (j + 1 < m) || fin)), ⟨gpE47 k b cs mm z bs tot at_ e, l, β (j + 1)⟩) :=
      op_yld (k := k) (b := b) (rid := rid) rfl rfl (by show k < (β j).length; rw [hw.len j hj]; exact hw.hk) hr (hw.call j hjm _ d1 l)
    have r3 : evC P (.rg [s_ 42 (.mv (.t 0)), s_ 43 (.mv (.t 3)), s_ 44 (.mv (.t 6)), s_ 45 (.mv (.t 3)), s_ 46 (.bin .sub (.t 44) (.t 45)), s_ 47 (.bd [.int .i64 0, .int .i64 0] [(0, 1, (.t 43)), (1, 1, (.t 46))]), s_ 48 (.cv (.t 42) [(.t 47)])]) ⟨gpE41 cs mm z bs tot at_ e true, l, β j⟩ = some (.nm, put 48 (.v (.bool (decide (j + 1 < m) || fin))) ⟨gpE47 k b cs mm z bs tot at_ e, l, β (j + 1)⟩) := by
      have c1 : evOps P [s_ 46 (.bin .sub (.t 44) (.t 45)), s_ 47 (.bd [.int .i64 0, .int .i64 0] [(0, 1, (.t 43)), (1, 1, (.t 46))]), s_ 48 (.cv (.t 42) [(.t 47)])] ⟨(45, vi at_) :: (44, vi tot) :: (43, vi at_) :: (42, .yld k b) :: gpE41 cs mm z bs tot at_ e true, l, β j⟩ = evOps P [s_ 48 (.cv (.t 42) [(.t 47)])] ⟨gpE47 k b cs mm z bs tot at_ e, l, β j⟩ := rfl
      exact rg_nm ((ev_cons (stp_n b1)).trans ((ev_cons (stp_n b2)).trans ((ev_cons (stp_n b3)).trans ((ev_cons (stp_n b4)).trans (c1.trans ((ev_cons (stp_n b5)).trans rfl))))))
    refine ⟨(48, .v (.bool (decide (j + 1 < m) || fin))) :: gpE47 k b cs mm z bs tot at_ e, ?_⟩
    rw [hm]
    rw [hm] at r3
    exact (sq_nm r1).trans ((sq_nm r2).trans r3)
  · have hL' : L.drop j = [] := by rw [hL]; exact if_neg hx
    have hm : m = j := by
      have := congrArg List.length hL'
      simp at this
      have := hw.hm
      omega
    rw [decide_eq_false hx] at r2
    refine ⟨gpE41 cs mm z bs tot at_ e false, ?_⟩
    rw [hm]
    exact (sq_nm r1).trans ((sq_nm r2).trans rfl)
/-- The whole function. -/
theorem gp_all (hw : Wants P k b rid m fin L β N) {got : List (Int × Int)} {es : List D} (hX : X = .sl .ro 2 es ∨ (got = [] ∧ es = [] ∧ ∃ z, X = .sl .nl z [])) (hlen : es.length = got.length) (hes : ∀ (i : Nat) c, got[i]? = some c → es[i]? = some (clD c)) (hb : got.length < 1000000000) {tot : Int}
    {mm : Mode} {z : Nat} {bs : List D} (hcs : cs[2]? = some (.sl mm z bs)) (hs : (D.sl mm z bs).strip = .sl mm z bs) (ht : (bs.length : Int) = tot) (hcx : cs[6]? = some X) (hL : L = gapF tot got 0) :
    ∃ x s', evC P gpC ⟨argE 0 [.yld k b, .fptr cs 0], [], β 0⟩ = some (x, s') ∧ (x = .nm ∨ x = .rt) ∧ s'.o = β m := by
  have hXs : X.strip = X := by rcases hX with h | ⟨_, _, _, h⟩ <;> (subst h; rfl)
  have hXl : ∃ m' z', X = .sl m' z' es := by
    rcases hX with h | ⟨_, h2, h⟩
    · exact ⟨_, _, h⟩
    · obtain ⟨z0, h⟩ := h
      exact ⟨_, _, by rw [h, h2]⟩
  have r0 : evC P (.rg [s_ 3 (.mv (I 0))]) ⟨argE 0 [.yld k b, .fptr cs 0], [], β 0⟩ = some (.nm, ⟨(3, vi 0) :: argE 0 [.yld k b, .fptr cs 0], [], β 0⟩) := rfl
  have a2 : evOp P (some 8) (.ld none (.t 7)) ⟨(7, .fptr cs 6) :: (3, vi 0) :: argE 0 [.yld k b, .fptr cs 0], [], β 0⟩ = some (X, ⟨(7, .fptr cs 6) :: (3, vi 0) :: argE 0 [.yld k b, .fptr cs 0], [], β 0⟩) := by
    have : evOp P (some 8) (.ld none (.t 7)) ⟨(7, .fptr cs 6) :: (3, vi 0) :: argE 0 [.yld k b, .fptr cs 0], [], β 0⟩ = (cs[6]?).map fun d => (d, ⟨(7, .fptr cs 6) :: (3, vi 0) :: argE 0 [.yld k b, .fptr cs 0], [], β 0⟩) := rfl
    rw [this, hcx]; rfl
  have a3 : evOp P (some 9) (.len (.t 8)) ⟨(8, X) :: (7, .fptr cs 6) :: (3, vi 0) :: argE 0 [.yld k b, .fptr cs 0], [], β 0⟩ = some (vi got.length, ⟨(8, X) :: (7, .fptr cs 6) :: (3, vi 0) :: argE 0 [.yld k b, .fptr cs 0], [], β 0⟩) := by
    obtain ⟨m', z', hX'⟩ := hXl
    simp only [evOp, rd, show get 8 ((8, X) :: (7, D.fptr cs 6) :: (3, vi 0) :: argE 0 [.yld k b, .fptr cs 0]) = X from rfl, hXs]
    rw [hX']
    simp only [hlen]
  have r1 : evC P (.rg [s_ 7 (.fa (.t 1) 6), s_ 8 (.ld none (.t 7)), s_ 9 (.len (.t 8)), s_ 10 (.mv (I 0))]) ⟨(3, vi 0) :: argE 0 [.yld k b, .fptr cs 0], [], β 0⟩ = some (.nm, ⟨(10, vi 0) :: (9, vi got.length) :: (8, X) :: (7, .fptr cs 6) :: (3, vi 0) :: argE 0 [.yld k b, .fptr cs 0], [], β 0⟩) := by
    have c1 : evOps P [s_ 7 (.fa (.t 1) 6), s_ 8 (.ld none (.t 7)), s_ 9 (.len (.t 8)), s_ 10 (.mv (I 0))] ⟨(3, vi 0) :: argE 0 [.yld k b, .fptr cs 0], [], β 0⟩ = evOps P [s_ 8 (.ld none (.t 7)), s_ 9 (.len (.t 8)), s_ 10 (.mv (I 0))] ⟨(7, .fptr cs 6) :: (3, vi 0) :: argE 0 [.yld k b, .fptr cs 0], [], β 0⟩ := rfl
    exact rg_nm (c1.trans ((ev_cons (stp_n a2)).trans ((ev_cons (stp_n a3)).trans rfl)))
  have h00 : 0 < m ∨ fin = true := by
    cases hf : fin with
    | true => exact .inr rfl
    | false => exact .inl (hw.hn hf)
  rcases gp_loop hw (hX.imp id fun h => ⟨h.1, h.2.2⟩) hes hb (tot := tot) got.length 0 0 0 ((10, vi 0) :: (9, vi got.length) :: (8, X) :: (7, .fptr cs 6) :: (3, vi 0) :: argE 0 [.yld k b, .fptr cs 0]) [] (by omega) (Nat.zero_le _) h00 (by rw [List.drop_zero, List.drop_zero, hL]) ⟨rfl, rfl, rfl, rfl, rfl, rfl⟩ with ⟨j', at', e', hev, q1, q2, q3, q4, q5, q6⟩ | ⟨e', l', hev⟩
  · obtain ⟨e2, ht2⟩ := gp_tail hw (P := P) (l := []) hcs hs ht q1 q2 q3 q4 q5 q6
    refine ⟨.nm, ⟨e2, [], β m⟩, ?_, .inl rfl, rfl⟩
    · have hbl : evC P (.bl 0 (.lp [0, 1, 3, 8, 9, 10] [] gpB)) ⟨(10, vi 0) :: (9, vi got.length) :: (8, X) :: (7, .fptr cs 6) :: (3, vi 0) :: argE 0 [.yld k b, .fptr cs 0], [], β 0⟩ = some (.nm, ⟨e', [], β j'⟩) := by
        have : evC P (.bl 0 (.lp [0, 1, 3, 8, 9, 10] [] gpB)) ⟨(10, vi 0) :: (9, vi got.length) :: (8, X) :: (7, .fptr cs 6) :: (3, vi 0) :: argE 0 [.yld k b, .fptr cs 0], [], β 0⟩ = (match evC P (.lp [0, 1, 3, 8, 9, 10] [] gpB) ⟨(10, vi 0) :: (9, vi got.length) :: (8, X) :: (7, .fptr cs 6) :: (3, vi 0) :: argE 0 [.yld k b, .fptr cs 0], [], β 0⟩ with | some (.ex i, s) => if i = 0 then some (.nm, s) else some (.ex i, s) | r => r) := rfl
        rw [this, hev]; rfl
      exact (sq_nm r0).trans ((sq_nm ((sq_nm r1).trans hbl)).trans ht2)
  · refine ⟨.rt, ⟨e', l', β m⟩, ?_, .inr rfl, rfl⟩
    exact (sq_nm r0).trans (sq_rt ((sq_nm r1).trans (bl_rt hev)))
/-! ### As a function that is gone over -/
/-- A session's row. -/
abbrev gpR : Ty := .p (.i .i64) (.p (.i .u32) (.p (.l .ro (.i .u8)) (.p (.i .i64) (.p (.i .i64) (.p (.i .i64) (.p (.l .ro (.g (.p (.i .i64) (.i .i64)))) (.p (.i .i64) (.p (.i .i64) (.p (.i .u32) (.p (.i .u32) (.p (.i .u32) (.p (.i .i64) (.p (.i .i64) (.p (.i .i64) (.p (.i .i64) (.p (.i .i64) (.p .b (.p (.l .ro (.i .u8)) (.p (.l .ro (.g (.p (.i .i64) (.i .i64)))) (.p (.i .i64) (.p (.i .i64) (.p (.l .ro (.i .u32)) (.i .i64)))))))))))))))))))))))
abbrev gpA : Ty := .g (.p (.i .i64) (.i .i64))
/-- What the gaps of a session are. -/
def gapH (v : gpR.T) : Option (List gpA.T) := if List.length (α := Int × Int) v.2.2.2.2.2.2.1 < 1000000000 then some (gapF (List.length (α := Int) v.2.2.1 : Int) v.2.2.2.2.2.2.1 0) else none
theorem gap_in (tot : Int) : ∀ (got : List (Int × Int)) (at_ : Int), inK .i64 at_ = true → ∀ c ∈ gapF tot got at_, inK .i64 c.1 = true ∧ inK .i64 c.2 = true
  | [], at_, h, c, hc => by
    unfold gapF at hc
    split at hc
    · simp at hc; subst hc; exact ⟨h, wrap_in _ _⟩
    · simp at hc
  | d :: r, at_, h, c, hc => by
    unfold gapF at hc
    rcases List.mem_append.1 hc with hc | hc
    · split at hc
      · simp at hc; subst hc; exact ⟨h, wrap_in _ _⟩
      · simp at hc
    · exact gap_in tot r _ (wrap_in _ _) c hc
theorem rep_cl {F : List Fx} {y : gpA.T} {d : D} (h : RepL P gpA F y [d]) : d = clD y := by
  obtain ⟨_, cs, h1, _, d1, q, rfl, ⟨h2, _⟩, ⟨h3, _⟩⟩ := h
  injection h1 with h1
  injection h2 with h2
  subst h1 h2 h3
  rfl
theorem cl_rep {y : gpA.T} (h : inK .i64 y.1 = true ∧ inK .i64 y.2 = true) : RepL P gpA [] y [clD y] := ⟨rfl, _, rfl, ⟨rfl, rfl⟩, _, _, rfl, ⟨rfl, h.1⟩, ⟨rfl, h.2⟩⟩
theorem all2_map {L : List gpA.T} (h : ∀ y ∈ L, RepL P gpA [] y [clD y]) : All2 (fun (y : gpA.T) d => RepL P gpA [] y [d.strip]) L (L.map clD) := by
  induction L with
  | nil => trivial
  | cons y L ih => exact ⟨h y (List.mem_cons_self ..), ih fun z hz => h z (List.mem_cons_of_mem _ hz)⟩
theorem gok_gaps {pg : Nat → Option Fn} {f : Nat} (hp : pg f = some ⟨49, false, [], none, gpC⟩) : GOK (EF pg) f (.gen gpA gpR gapH) := by
  intro v cs hrep L hL n
  unfold gapH at hL
  split at hL
  · rename_i hb
    obtain rfl := Option.some.inj hL
    obtain ⟨_, d1, q1, rfl, h1, _, d2, q2, rfl, h2, _, d3, q3, rfl, h3, _, d4, q4, rfl, h4, _, d5, q5, rfl, h5, _, d6, q6, rfl, h6, _, d7, q7, rfl, h7, _⟩ := hrep
    obtain ⟨l3, es3, a3, c3⟩ := l_d h3
    obtain ⟨l7, es7, a7, c7⟩ := l_d h7
    have hle3 := a3.length
    have hle7 := a7.length
    have hin := gap_in (List.length (α := Int) v.2.2.1 : Int) v.2.2.2.2.2.2.1 0 rfl
    refine ⟨(gapF (List.length (α := Int) v.2.2.1 : Int) v.2.2.2.2.2.2.1 0).map clD, all2_map fun y hy => cl_rep (hin y hy), ?_⟩
    intro k b rid m fin β hk hm hf hn hlen hrcd hcall
    have hw : Wants (EF pg) k b rid m fin (gapF (List.length (α := Int) v.2.2.1 : Int) v.2.2.2.2.2.2.1 0) β n := ⟨hk, hm, hf, hn, hlen, hrcd, fun i hi c hc lg => hcall i hi _ (by rw [List.getElem?_map, hc]; rfl) lg⟩
    have hes : ∀ (i : Nat) (c : Int × Int), (show List (Int × Int) from v.2.2.2.2.2.2.1)[i]? = some c → es7[i]? = some (clD c) := by
      intro i c hc
      obtain ⟨e, e1, e2⟩ := a7.get hc
      rw [e1, rep_cl e2]
    have hX : d7 = .sl .ro 2 es7 ∨ ((show List (Int × Int) from v.2.2.2.2.2.2.1) = [] ∧ es7 = [] ∧ ∃ z, d7 = .sl .nl z []) := by
      rcases c7 with h | ⟨h, z, hz⟩
      · exact .inl h
      · exact .inr ⟨List.length_eq_zero_iff.1 (by rw [h] at hle7; exact hle7), h, z, hz⟩
    have key : ∀ (mm : Mode) (z : Nat) (bs : List D), d3 = .sl mm z bs → (D.sl mm z bs).strip = .sl mm z bs → (bs.length : Int) = (List.length (α := Int) v.2.2.1 : Int) → ∃ d, EF pg f [.yld k b, .fptr (d1 :: d2 :: d3 :: d4 :: d5 :: d6 :: d7 :: q7) 0] (β 0) = some (d, β m) := by
      intro mm z bs hd hs ht
      obtain ⟨x, s', e1, e2, e3⟩ := gp_all (P := EF pg) hw (X := d7) (cs := d1 :: d2 :: d3 :: d4 :: d5 :: d6 :: d7 :: q7) (got := v.2.2.2.2.2.2.1) (es := es7) hX hle7.symm hes hb (mm := mm) (z := z) (bs := bs) (by rw [← hd]; rfl) hs ht rfl rfl
      have hr : run1 ⟨49, false, [], none, gpC⟩ (EF pg) [.yld k b, .fptr (d1 :: d2 :: d3 :: d4 :: d5 :: d6 :: d7 :: q7) 0] (β 0) = some ((mkRes []).strip, s'.o) := by
        unfold run1
        rw [if_pos ⟨by simp, rfl⟩]
        simp only [e1]
        rcases e2 with rfl | rfl <;> rfl
      exact ⟨_, by rw [EF_run1 hp rfl, hr, e3]⟩
    rcases c3 with h | ⟨h, z, hz⟩
    · exact key _ _ _ h rfl (by rw [← hle3])
    · exact key .nl z [] hz rfl (by rw [show List.length (α := Int) v.2.2.1 = 0 from hle3.trans (by rw [h]; rfl)]; rfl)
  · cases hL
end
end Go.Proofs.Ytfopbiiffiickaa.Ev.U
