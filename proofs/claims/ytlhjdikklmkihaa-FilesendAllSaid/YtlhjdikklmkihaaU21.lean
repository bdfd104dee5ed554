/- The law FilesendAll at the evaluator: one sending's messages. Conditions: none. -/
import Derived.Test.YtlhjdikklmkihaaT21
set_option linter.all false
namespace Go.Proofs.Ytlhjdikklmkihaa.Ev
open Go
def tot (x : Og) : Nat := nData x + 2
theorem datas_s (x : Og) (k' : Int) : ∀ k i, datas { x with s := k' } i k = datas x i k
  | 0, _ => rfl
  | k + 1, i => by rw [datas, datas, datas_s x k' k]; rfl
theorem msgs_s (x : Og) (k : Int) : msgs { x with s := k } = msgs x := by
  show mMeta { x with s := k } :: (datas { x with s := k } 0 (nData x) ++ [mEnd { x with s := k }]) = _
  rw [datas_s]; rfl
section
variable (B : List Bx)
def L6 (nx : Int) (L : List Og) (x : Og) : Bx := [(3, [vu nx, lst .ro 6 true (L.map Og.D), .sl .nl 0 []]), (11, [vu x.n, vi x.d, vs x.nm, lst .ro 1 x.q (x.b.map un), vi x.s, vi x.u])]
structure R6 (nx : Int) (L G : List Og) (j : Nat) (x : Og) (k : Nat) (s : S) : Prop where
  o : s.o = B
  g3 : get 3 s.e = .ptr B.length 3 0
  g4 : get 4 s.e = lst .app 6 true (G.map Og.D)
  g11 : get 11 s.e = .ptr B.length 11 0
  g12 : get 12 s.e = lst .app 1 true ((x.b.take (256 * (k - 1))).map un)
  g13 : get 13 s.e = vi k
  g57 : get 57 s.e = lst .ro 6 true (G.map Og.D)
  g58 : get 58 s.e = vi G.length
  g59 : get 59 s.e = vi j
  k3 : lk 3 s.l = some [vu nx, lst .ro 6 true (L.map Og.D), .sl .nl 0 []]
  k11 : lk 11 s.l = some [vu x.n, vi x.d, vs x.nm, lst .ro 1 x.q (x.b.map un), vi x.s, vi x.u]
/-- What holds of what is sent, the sending at hand being at its message k. -/
structure P6 (nx : Int) (L : List Og) (j : Nat) (x : Og) (k : Nat) : Prop where
  out : outB nx L [] = true
  hc : ∀ y ∈ L, ∀ c ∈ y.b, c < 256
  at_ : L[j]? = some { x with s := k }
  fst : ∀ i, i < j → ∀ y, L[i]? = some y → more y = false
  lt : k < tot x
theorem P6.step {nx : Int} {L : List Og} {j : Nat} {x : Og} {k : Nat} (h : P6 nx L j x k) {m : Mg} (hm : (msgs x)[k]? = some m) (B : List Bx) :
    EF pg 12 [.agg [vu nx, lst .ro 6 true (L.map Og.D), .sl .nl 0 []]] B = some (.tup [.agg [vu nx, .sl .ro 6 ((L.set j { x with s := (k + 1 : Nat) }).map Og.D), .sl .nl 0 []], vi x.d, m.D, vb true], B) := by
  obtain ⟨h1, h2, h3⟩ := out_iff.1 h.out
  have hb : ∀ y ∈ L, y.b.length < 1000000 := fun y hy => by
    obtain ⟨i, hi⟩ := List.mem_iff_getElem?.1 hy
    have := (beg_b (snd_beg (h3 i y hi)).1).1
    omega
  have hmo : more { x with s := (k : Int) } = true := by
    have := h.lt
    simp only [tot, nData] at this
    exact decide_eq_true (show (k : Int) < 2 + ((x.b.length : Int) + 255) / 256 by omega)
  have hi := idxO_first (i := 0) hmo h.fst h.at_
  rw [Nat.zero_add] at hi
  have := w12d nx L B j { x with s := (k : Int) } true true [] (by omega) hb h.hc (by simp) h.out hi h.at_ k rfl m (by rw [msgs_s]; exact hm)
  exact this
theorem P6.next {nx : Int} {L : List Og} {j : Nat} {x : Og} {k : Nat} (h : P6 nx L j x k) : outB nx (L.set j { x with s := (k + 1 : Nat) }) [] = true := by
  have := h.lt
  simp only [tot, nData] at this
  exact out_set (y := { x with s := (k : Int) }) (s := ((k + 1 : Nat) : Int)) h.out h.at_ ⟨by omega, by show ((k + 1 : Nat) : Int) ≤ 2 + ((x.b.length : Int) + 255) / 256; omega⟩
theorem P6.succ {nx : Int} {L : List Og} {j : Nat} {x : Og} {k : Nat} (h : P6 nx L j x k) (hk : k + 1 < tot x) : P6 nx (L.set j { x with s := (k + 1 : Nat) }) j x (k + 1) where
  out := h.next
  hc := fun y hy => by
    rcases List.mem_or_eq_of_mem_set hy with hy | rfl
    · exact h.hc y hy
    · exact h.hc { x with s := (k : Int) } (List.mem_of_getElem? h.at_)
  at_ := by rw [List.getElem?_set_self (getq_lt h.at_)]
  fst := fun i hi y hy => by rw [List.getElem?_set_ne (by omega)] at hy; exact h.fst i hi y hy
  lt := hk
theorem P6.beg {nx : Int} {L : List Og} {j : Nat} {x : Og} {k : Nat} (h : P6 nx L j x k) : x.b.length ≤ 2048 ∧ nmB x.nm = true ∧ 0 < x.n ∧ ∀ c ∈ x.b, c < 256 := by
  have := snd_beg ((out_iff.1 h.out).2.2 j _ h.at_)
  exact ⟨(beg_b this.1).1, (beg_b this.1).2, this.2.1, h.hc { x with s := (k : Int) } (List.mem_of_getElem? h.at_)⟩
theorem P6.chk {nx : Int} {L : List Og} {j : Nat} {x : Og} {k : Nat} (h : P6 nx L j x k) (B : List Bx) : EF pg 20 [.agg [vu nx, .sl .ro 6 ((L.set j { x with s := (k + 1 : Nat) }).map Og.D), .sl .nl 0 []]] B = some (vi 0, B) := by
  have hn := h.next
  obtain ⟨h1, h2, h3⟩ := out_iff.1 hn
  have := w20 nx (L.set j { x with s := (k + 1 : Nat) }) false true B [] (by omega) (fun y hy => by
    obtain ⟨i, hi⟩ := List.mem_iff_getElem?.1 hy
    have := (beg_b (snd_beg (h3 i y hi)).1).1
    omega) (by simp)
  rw [hn] at this
  simp only [lst_f, List.map_nil, lst_nil, if_true] at this
  exact this
theorem set_ne {L : List Og} {j : Nat} {x y : Og} (h : L[j]? = some x) : (true && ((L.set j y).map Og.D).isEmpty) = false := by
  have := getq_lt h
  cases L with
  | nil => simp at this
  | cons a L => cases j <;> rfl
theorem r6_meta {nx : Int} {L G : List Og} {j : Nat} {x : Og} (h : P6 nx L j x 0) {s : S} {r : Option (Ex × S)} (hr : evC (EF pg) l6x1 s = r) (hs : R6 B nx L G j x 0 s) : ∃ s', evC (EF pg) l6x1 s' = r ∧ R6 B nx (L.set j { x with s := (1 : Nat) }) G j x 1 s' := by
  obtain ⟨ho, g3, g4, g11, g12, g13, g57, g58, g59, k3, k11⟩ := hs
  obtain ⟨hb, hnm, hn, hxc⟩ := h.beg
  have h12 := h.step (msgs_0 x)
  have h20 := h.chk
  have h25 := w25m x hn hnm hb
  rw [mMeta_D] at h12 h25
  have hw : IntKind.i64.wrap (((0 : Nat) : Int) + 1) = ((1 : Nat) : Int) := rfl
  have n0 : ((0 : Nat) : Int) = 0 := rfl
  have n1 : 0 + 1 = 1 := rfl
  simp only [Nat.zero_sub, Nat.mul_zero, List.take_zero, List.map_nil, lst_nil, n1] at g12 h12 h20
  rw [lp_n (L := l6x1) rfl] at hr
  simp (maxSteps := 1000000) +contextual -implicitDefEqProofs only [go_sem, R_c, G_c, D_c, DG_c, G_cf, G_cv, D_cf, DG_cf, E_c, E_cf, E_a, D_ap, D_mm, D_al, D_ldm, E_ap, E_mm, Nat.reduceEqDiff, Nat.reduceAdd, Nat.reduceLeDiff, Nat.reduceSub, Nat.reduceLT, Nat.reduceMul, Int.reduceToNat, Int.reduceEq, ↓reduceIte, reduceCtorEq, Bool.false_and, Bool.and_false, Bool.false_eq_true, Bool.true_or, Bool.or_true, Bool.false_or, Bool.or_false, Nat.reduceBEq, Int.reduceBEq, Int.reduceBNe, Int.reduceLT, Int.reduceLE, Int.reduceMul, Int.reduceAdd, Int.toNat_natCast, List.isEmpty_map, b6x1, g3, g4, g11, g12, g13, g57, g58, g59, k3, k11, ho, h12, h20, h25, hw, n0, bne_self_eq_false, Bool.bne_true, Bool.bne_false] at hr
  refine ⟨_, hr, ⟨rfl, rfl, rfl, rfl, ?_, rfl, rfl, rfl, rfl, ?_, rfl⟩⟩
  · simp only [Nat.sub_self, Nat.mul_zero, List.take_zero, List.map_nil, lst_nil]; rfl
  · rw [lst_ne (set_ne h.at_)]; rfl
theorem r6_data {nx : Int} {L G : List Og} {j i : Nat} {x : Og} (hi : i < nData x) (h : P6 nx L j x (i + 1)) {s : S} {r : Option (Ex × S)} (hr : evC (EF pg) l6x1 s = r) (hs : R6 B nx L G j x (i + 1) s) : ∃ s', evC (EF pg) l6x1 s' = r ∧ R6 B nx (L.set j { x with s := (i + 2 : Nat) }) G j x (i + 2) s' := by
  obtain ⟨ho, g3, g4, g11, g12, g13, g57, g58, g59, k3, k11⟩ := hs
  obtain ⟨hb, hnm, hn, hxc⟩ := h.beg
  have hlt : 256 * i < x.b.length := by simp only [nData] at hi; omega
  have h12 := h.step (msgs_d x i hi)
  have h20 := h.chk
  have h25 := w25d x i hn hb hlt
  rw [mData_D] at h12 h25
  have hw : IntKind.i64.wrap (((i + 1 : Nat) : Int) + 1) = ((i + 2 : Nat) : Int) := by rw [wi64 (by simp only [nData] at hi; omega)]; omega
  have hk0 : (((i + 1 : Nat) : Int) == 0) = false := by simp; omega
  have hln : ((List.take (256 * i) x.b).length : Int) = ((256 * i : Nat) : Int) := by rw [List.length_take, Nat.min_eq_left (by omega)]
  have hch := take_chunk x.b i
  have hlc : ((x.b.take (min (256 * i + 256) x.b.length)).drop (256 * i)).length ≤ 2048 := by simp; omega
  have hle : ((List.take (256 * i) x.b).length + ((x.b.take (min (256 * i + 256) x.b.length)).drop (256 * i)).length) * 1 ≤ 140737488355328 := by rw [List.length_take]; omega
  simp only [Nat.add_sub_cancel] at g12
  generalize (x.b.take (min (256 * i + 256) x.b.length)).drop (256 * i) = z at h12 h25 hch hlc hle
  obtain ⟨L', hL'⟩ : ∃ L', L.set j { x with s := ((i + 1 + 1 : Nat) : Int) } = L' := ⟨_, rfl⟩
  rw [hL'] at h12 h20
  rw [lp_n (L := l6x1) rfl] at hr
  simp (maxSteps := 1000000) +contextual -implicitDefEqProofs only [go_sem, R_c, G_c, D_c, DG_c, G_cf, G_cv, D_cf, DG_cf, E_c, E_cf, E_a, D_ap, D_mm, D_al, D_ldm, E_ap, E_mm, Nat.reduceEqDiff, Nat.reduceAdd, Nat.reduceLeDiff, Nat.reduceSub, Nat.reduceLT, Nat.reduceMul, Int.reduceToNat, Int.reduceEq, ↓reduceIte, reduceCtorEq, Bool.false_and, Bool.and_false, Bool.false_eq_true, Bool.true_or, Bool.or_true, Bool.false_or, Bool.or_false, Nat.reduceBEq, Int.reduceBEq, Int.reduceBNe, Int.reduceLT, Int.reduceLE, Int.reduceMul, Int.reduceAdd, Int.toNat_natCast, List.isEmpty_map, b6x1, g3, g4, g11, g12, g13, g57, g58, g59, k3, k11, ho, h12, h20, h25, hw, hk0, hln, hle, List.length_map, bne_self_eq_false, Bool.bne_true, Bool.bne_false, ← List.map_append, hch] at hr
  subst hL'
  refine ⟨_, hr, ⟨rfl, rfl, rfl, rfl, rfl, rfl, rfl, rfl, rfl, ?_, rfl⟩⟩
  rw [lst_ne (set_ne h.at_)]; rfl
theorem r6_end {nx : Int} {L G : List Og} {j : Nat} {x : Og} (h : P6 nx L j x (nData x + 1)) {s : S} {r : Option (Ex × S)} (hr : evC (EF pg) l6x1 s = r) (hs : R6 B nx L G j x (nData x + 1) s) : ∃ s', r = some (.ex 4, s') ∧ s'.o = B ∧ get 3 s'.e = .ptr B.length 3 0 ∧ get 4 s'.e = lst .app 6 true (G.map Og.D) ∧ get 57 s'.e = lst .ro 6 true (G.map Og.D) ∧ get 58 s'.e = vi G.length ∧ get 59 s'.e = vi j ∧ lk 3 s'.l = some [vu nx, lst .ro 6 true ((L.set j { x with s := (nData x + 2 : Nat) }).map Og.D), .sl .nl 0 []] := by
  obtain ⟨ho, g3, g4, g11, g12, g13, g57, g58, g59, k3, k11⟩ := hs
  obtain ⟨hb, hnm, hn, hxc⟩ := h.beg
  have h12 := h.step (msgs_e x)
  have h20 := h.chk
  have h25 := w25e x hn hb
  have h26 := q26 x.q x.b (by omega) hxc
  have h27 := qv_of fun B => w27 x.b x.b (by omega) true x.q B
  have htk : x.b.take (256 * (nData x + 1 - 1)) = x.b := List.take_of_length_le (by simp only [nData]; omega)
  rw [htk] at g12
  rw [mEnd_D] at h12 h25
  have hdd : decide (x.b = x.b) = true := decide_eq_true rfl
  obtain ⟨L', hL'⟩ : ∃ L', L.set j { x with s := ((nData x + 1 + 1 : Nat) : Int) } = L' := ⟨_, rfl⟩
  rw [hL'] at h12 h20
  rw [lp_n (L := l6x1) rfl] at hr
  simp (maxSteps := 1000000) +contextual -implicitDefEqProofs only [go_sem, R_c, G_c, D_c, DG_c, G_cf, G_cv, D_cf, DG_cf, E_c, E_cf, E_a, D_ap, D_mm, D_al, D_ldm, E_ap, E_mm, Nat.reduceEqDiff, Nat.reduceAdd, Nat.reduceLeDiff, Nat.reduceSub, Nat.reduceLT, Nat.reduceMul, Int.reduceToNat, Int.reduceEq, ↓reduceIte, reduceCtorEq, Bool.false_and, Bool.and_false, Bool.false_eq_true, Bool.true_or, Bool.or_true, Bool.false_or, Bool.or_false, Nat.reduceBEq, Int.reduceBEq, Int.reduceBNe, Int.reduceLT, Int.reduceLE, Int.reduceMul, Int.reduceAdd, Int.toNat_natCast, List.isEmpty_map, b6x1, g3, g4, g11, g12, g13, g57, g58, g59, k3, k11, ho, h12, h20, h25, h26, h27, hdd, bne_self_eq_false, Bool.bne_true, Bool.bne_false] at hr
  subst hr hL'
  refine ⟨_, rfl, rfl, rfl, rfl, rfl, rfl, rfl, ?_⟩
  rw [lst_ne (set_ne h.at_)]; rfl
end
end Go.Proofs.Ytlhjdikklmkihaa.Ev
