/- 'FilesendSteps'. Conditions: none. -/
import Derived.Test.YtlhjdikklmkihaaK21
set_option linter.all false
namespace Go.Proofs.Ytlhjdikklmkihaa.Ev
open Go
theorem prevN_cp (l : List Og) : ∀ i, prevN (l.map Og.cp) i = prevN l i
  | 0 => rfl
  | j + 1 => by simp only [prevN, List.getElem?_map]; cases l[j]? <;> rfl
theorem sndsB_cp (nx : Int) (l : List Og) : ∀ k i, sndsB nx (l.map Og.cp) i k = sndsB nx l i k
  | 0, i => rfl
  | k + 1, i => by
    simp only [sndsB, sndsB_cp nx l k, prevN_cp, List.getElem?_map]
    cases l[i]? <;> rfl
theorem outB_cp (nx : Int) (l : List Og) (e : List En) : outB nx (l.map Og.cp) e = outB nx l e := by
  simp only [outB, List.length_map, sndsB_cp]
theorem idxO_cp : ∀ (l : List Og) (i : Nat), idxO (l.map Og.cp) i = idxO l i
  | [], i => rfl
  | x :: l, i => by simp only [List.map_cons, idxO, idxO_cp l]; rfl
theorem cp_cp (l : List Og) : (l.map Og.cp).map Og.cp = l.map Og.cp := by rw [List.map_map]; rfl
theorem datas_cp (x : Og) : ∀ k i, datas x.cp i k = datas x i k
  | 0, _ => rfl
  | k + 1, i => by rw [datas, datas, datas_cp x k]; rfl
theorem msgs_cp (x : Og) : msgs x.cp = msgs x := by
  show mMeta x.cp :: (datas x.cp 0 (nData x) ++ [mEnd x.cp]) = _
  rw [datas_cp]; rfl
theorem idxO_ge : ∀ (l : List Og) (i : Nat), idxO l i = -1 ∨ ∃ j : Nat, idxO l i = j ∧ i ≤ j ∧ ∃ x, l[j - i]? = some x ∧ more x = true
  | [], i => .inl rfl
  | x :: l, i => by
    simp only [idxO]
    by_cases h : more x = true
    · rw [if_pos h]; exact .inr ⟨i, rfl, Nat.le_refl i, x, by simp, h⟩
    · rw [if_neg h]
      rcases idxO_ge l (i + 1) with h | ⟨j, h1, h2, y, h3, h4⟩
      · exact .inl h
      · exact .inr ⟨j, h1, by omega, y, by rw [show j - i = (j - (i + 1)) + 1 by omega]; simpa using h3, h4⟩
theorem datas_b (x : Og) : ∀ (k i : Nat) (m : Mg), m ∈ datas x i k → m.b.length ≤ x.b.length
  | 0, i, m, h => by simp [datas] at h
  | k + 1, i, m, h => by
    simp only [datas, List.mem_cons] at h
    rcases h with rfl | h
    · simp only [mData, List.length_drop, List.length_take]; omega
    · exact datas_b x k (i + 1) m h
theorem msgs_b {x : Og} {m : Mg} (h : m ∈ msgs x) : m.b.length ≤ x.b.length := by
  simp only [msgs, List.mem_cons, List.mem_append, List.not_mem_nil, or_false] at h
  rcases h with rfl | h | rfl
  · exact Nat.zero_le _
  · exact datas_b x _ _ m h
  · exact Nat.zero_le _
section
variable (B : List Bx)
/-- Both rows of messages are the same. -/
theorem l3a (x : Og) (ms : List Mg) (hb : ∀ m ∈ ms, m.b.length < 1000000) (hms : ms.length < 1000000) (b2 : List D) (h2 : b2.all (D.in1 B.length [2]) = true) : ∀ (k i : Nat) {s : S} {r : Option (Ex × S)}, evC (EF pg) l3x0 s = r → s.o = B → i + k = ms.length → get 2 s.e = .ptr B.length 2 0 → get 5 s.e = .sl .ro 8 (ms.map Mg.D) → get 6 s.e = .sl .ro 8 (ms.map Mg.D) → get 56 s.e = vi ms.length → get 57 s.e = vi i → lk 2 s.l = some b2 →
    ∃ s', r = some (.ex 0, s') ∧ s'.o = B ∧ get 2 s'.e = .ptr B.length 2 0 ∧ s'.l = [(2, b2)] := by
  intro k
  induction k with
  | zero =>
    intro i s r hr ho hi g2 g5 g6 g56 g57 k2
    have hd : decide ((i : Int) < (ms.length : Int)) = false := decide_eq_false (by omega)
    rw [lp_n (L := l3x0) rfl] at hr
    simp (maxSteps := 1000000) +contextual -implicitDefEqProofs only [go_sem, R_c, G_c, D_c, DG_c, G_cf, G_cv, D_cf, DG_cf, E_c, E_cf, E_a, D_ap, D_mm, D_al, D_ldm, E_ap, E_mm, Nat.reduceEqDiff, Nat.reduceAdd, Nat.reduceLeDiff, Nat.reduceSub, Nat.reduceLT, Nat.reduceMul, Int.reduceToNat, Int.reduceEq, ↓reduceIte, reduceCtorEq, Bool.false_and, Bool.and_false, Bool.false_eq_true, Bool.true_or, Bool.or_true, Bool.false_or, Bool.or_false, Nat.reduceBEq, Int.reduceBEq, Int.reduceBNe, Int.reduceLT, Int.reduceLE, Int.reduceMul, Int.reduceAdd, Int.toNat_natCast, List.isEmpty_map, b3x0, g2, g5, g6, g56, g57, k2, h2, ho, hd] at hr
    subst hr
    exact ⟨_, rfl, rfl, rfl, rfl⟩
  | succ k ih =>
    intro i s r hr ho hi g2 g5 g6 g56 g57 k2
    have hd : decide ((i : Int) < (ms.length : Int)) = true := decide_eq_true (by omega)
    have hw : IntKind.i64.wrap ((i : Int) + 1) = ((i + 1 : Nat) : Int) := by rw [wi64 (by omega)]; omega
    obtain ⟨m, hm⟩ : ∃ m, ms[i]? = some m := ⟨_, List.getElem?_eq_getElem (by omega)⟩
    have h11 := qv_of fun B => w11 m.k m.n m.nm m.sz m.off m.sum m.code m.q m.q m.b (hb m (List.mem_of_getElem? hm)) B
    rw [lp_n (L := l3x0) rfl] at hr
    simp (maxSteps := 1000000) +contextual -implicitDefEqProofs only [go_sem, R_c, G_c, D_c, DG_c, G_cf, G_cv, D_cf, DG_cf, E_c, E_cf, E_a, D_ap, D_mm, D_al, D_ldm, E_ap, E_mm, Nat.reduceEqDiff, Nat.reduceAdd, Nat.reduceLeDiff, Nat.reduceSub, Nat.reduceLT, Nat.reduceMul, Int.reduceToNat, Int.reduceEq, ↓reduceIte, reduceCtorEq, Bool.false_and, Bool.and_false, Bool.false_eq_true, Bool.true_or, Bool.or_true, Bool.false_or, Bool.or_false, Nat.reduceBEq, Int.reduceBEq, Int.reduceBNe, Int.reduceLT, Int.reduceLE, Int.reduceMul, Int.reduceAdd, Int.toNat_natCast, List.isEmpty_map, b3x0, g2, g5, g6, g56, g57, k2, h2, ho, hd, hm, hw, List.getElem?_map, Mg.D, h11] at hr
    exact ih (i + 1) hr rfl (by omega) rfl rfl rfl rfl rfl rfl
end
section
variable (B : List Bx) (nx : Int) (l : List Og) (e : List En) (q q2 : Bool)
theorem l3b (hl : l.length < 1000000) (hb : ∀ x ∈ l, x.b.length < 1000000) (hc : ∀ x ∈ l, ∀ c ∈ x.b, c < 256) (he : e.length < 1000000) (hs : ∀ x ∈ l, x.s ≤ 2 + (x.b.length + 255) / 256 ∧ 0 ≤ x.s)
    (b8 b10 : List D) (h8 : b8.all (D.in1 B.length [2, 8, 10]) = true) (h10 : b10.all (D.in1 B.length [2, 8, 10]) = true) (to : Int) (ok : Bool)
    (hok : ∀ i x, idxO l 0 = (i : Nat) → l[i]? = some x → ok = true ∧ to = x.d ∧ b8 = [vu nx, .sl .ro 6 (((l.map Og.cp).set i { x.cp with s := x.s + 1 }).map Og.D), .sl .ro 2 (e.map En.D)] ∧ ∃ (t : Nat) (m : Mg), (t : Int) = x.s ∧ (msgs x)[t]? = some m ∧ b10 = m.c) :
    ∀ (k i : Nat) {s : S} {r : Option (Ex × S)}, evC (EF pg) l3x1 s = r → s.o = B → i + k = l.length → idxO (l.drop i) i = idxO l 0 → get 2 s.e = .ptr B.length 2 0 → get 8 s.e = .ptr B.length 8 0 → get 9 s.e = vi to → get 10 s.e = .ptr B.length 10 0 → get 11 s.e = vb ok → get 82 s.e = lst .ro 6 q (l.map Og.D) → get 83 s.e = vi l.length → get 84 s.e = vi i →
    lk 2 s.l = some [vu nx, lst .ro 6 q (l.map Og.D), lst .ro 2 q2 (e.map En.D)] → lk 8 s.l = some b8 → lk 10 s.l = some b10 →
    ∃ s', r = some (if idxO l 0 = -1 then .ex 2 else .rt, s') ∧ s'.o = B ∧ (idxO l 0 ≠ -1 → get 4 s'.e = vb true) ∧ (idxO l 0 = -1 → get 2 s'.e = .ptr B.length 2 0 ∧ get 8 s'.e = .ptr B.length 8 0 ∧ get 9 s'.e = vi to ∧ get 10 s'.e = .ptr B.length 10 0 ∧ get 11 s'.e = vb ok ∧ s'.l = [(2, [vu nx, lst .ro 6 q (l.map Og.D), lst .ro 2 q2 (e.map En.D)]), (8, b8), (10, b10)]) := by
  intro k
  induction k with
  | zero =>
    intro i s r hr ho hi hidx g2 g8 g9 g10 g11 g82 g83 g84 k2 k8 k10
    have hd : decide ((i : Int) < (l.length : Int)) = false := decide_eq_false (by omega)
    rw [List.drop_of_length_le (by omega)] at hidx
    rw [lp_n (L := l3x1) rfl] at hr
    simp (maxSteps := 1000000) +contextual -implicitDefEqProofs only [go_sem, R_c, G_c, D_c, DG_c, G_cf, G_cv, D_cf, DG_cf, E_c, E_cf, E_a, D_ap, D_mm, D_al, D_ldm, E_ap, E_mm, Nat.reduceEqDiff, Nat.reduceAdd, Nat.reduceLeDiff, Nat.reduceSub, Nat.reduceLT, Nat.reduceMul, Int.reduceToNat, Int.reduceEq, ↓reduceIte, reduceCtorEq, Bool.false_and, Bool.and_false, Bool.false_eq_true, Bool.true_or, Bool.or_true, Bool.false_or, Bool.or_false, Nat.reduceBEq, Int.reduceBEq, Int.reduceBNe, Int.reduceLT, Int.reduceLE, Int.reduceMul, Int.reduceAdd, Int.toNat_natCast, List.isEmpty_map, b3x1, g2, g8, g9, g10, g11, g82, g83, g84, k2, k8, k10, h8, h10, ho, hd] at hr
    subst hr
    rw [← hidx]
    exact ⟨_, rfl, rfl, fun h => absurd rfl h, fun _ => ⟨rfl, rfl, rfl, rfl, rfl, rfl⟩⟩
  | succ k ih =>
    intro i s r hr ho hi hidx g2 g8 g9 g10 g11 g82 g83 g84 k2 k8 k10
    have hd : decide ((i : Int) < (l.length : Int)) = true := decide_eq_true (by omega)
    have hw : IntKind.i64.wrap ((i : Int) + 1) = ((i + 1 : Nat) : Int) := by rw [wi64 (by omega)]; omega
    obtain ⟨x, hx⟩ : ∃ x, l[i]? = some x := ⟨_, List.getElem?_eq_getElem (by omega)⟩
    have hm := List.mem_of_getElem? hx
    have hdr : l.drop i = x :: l.drop (i + 1) := (List.drop_eq_getElem_cons (by omega)).trans (by rw [(List.getElem?_eq_some_iff.1 hx).2])
    rw [hdr] at hidx
    simp only [idxO] at hidx
    have hxb := hb x hm
    obtain ⟨hs1, hs2⟩ := hs x hm
    have h10' := fun B => w10 x hxb (hc x hm) B
    have hml : ((msgs x).length : Int) = 2 + (x.b.length + 255) / 256 := by rw [msgs_len]; simp only [nData]; omega
    rw [lp_n (L := l3x1) rfl] at hr
    cases hmo : more x with
    | false =>
      rw [hmo] at hidx
      simp only [Bool.false_eq_true, if_false] at hidx
      have heq : (x.s == ((msgs x).length : Int)) = true := by
        have := of_decide_eq_false hmo
        rw [hml]; simp; omega
      simp (maxSteps := 1000000) +contextual -implicitDefEqProofs only [go_sem, R_c, G_c, D_c, DG_c, G_cf, G_cv, D_cf, DG_cf, E_c, E_cf, E_a, D_ap, D_mm, D_al, D_ldm, E_ap, E_mm, Nat.reduceEqDiff, Nat.reduceAdd, Nat.reduceLeDiff, Nat.reduceSub, Nat.reduceLT, Nat.reduceMul, Int.reduceToNat, Int.reduceEq, ↓reduceIte, reduceCtorEq, Bool.false_and, Bool.and_false, Bool.false_eq_true, Bool.true_or, Bool.or_true, Bool.false_or, Bool.or_false, Nat.reduceBEq, Int.reduceBEq, Int.reduceBNe, Int.reduceLT, Int.reduceLE, Int.reduceMul, Int.reduceAdd, Int.toNat_natCast, List.isEmpty_map, b3x1, g2, g8, g9, g10, g11, g82, g83, g84, k2, k8, k10, h8, h10, ho, hd, hx, hw, List.getElem?_map, Og.D, h10', heq] at hr
      exact ih (i + 1) hr rfl (by omega) hidx rfl rfl rfl rfl rfl rfl rfl rfl rfl rfl rfl
    | true =>
      rw [hmo] at hidx
      simp only [if_true] at hidx
      have heq : (x.s == ((msgs x).length : Int)) = false := by
        have := of_decide_eq_true hmo
        rw [hml]; simp; omega
      obtain ⟨rfl, rfl, rfl, t, m, ht, hmt, rfl⟩ := hok i x hidx.symm hx
      have hne : ¬ idxO l 0 = -1 := by rw [← hidx]; omega
      rw [if_neg hne]
      have hlt := (List.getElem?_eq_some_iff.1 hx).1
      have h13 := fun B => w13 nx l hl (fun x hx => by have := hb x hx; omega) q q2 (e.map En.D) (by simpa using he) B
      have hlen0 : (l.map Og.cp).length = l.length := List.length_map ..
      have hxC : (l.map Og.cp)[i]? = some x.cp := by simp [hx]
      have hmu : lst .mu 6 true ((l.map Og.cp).map Og.D) = .sl .mu 6 ((l.map Og.cp).map Og.D) := lst_ne (by cases l with | nil => simp at hlt | cons y r => rfl)
      have hall := cellsO_all (l.map Og.cp)
      have hcs : ((l.map Og.cp).map Og.D).flatMap D.cells = cellsO (l.map Og.cp) := rfl
      have hia : ∀ k : IntKind, iaO 6 (.ref B.length 501501 0 l.length 6) (.v (.int k (i : Int))) = some (.ptr B.length 501501 (0 + i * 6)) := fun k => ia_r hlt
      have h4 := cellsO_get (j := 4) hxC (by omega)
      simp only [List.getElem?_cons_succ, List.getElem?_cons_zero] at h4
      have h4 : (cellsO (l.map Og.cp))[i * 6 + 4]? = some (vi x.s) := h4
      have hw2 : IntKind.i64.wrap (x.s + 1) = x.s + 1 := wi64 (by omega)
      have hset := cellsO_set (x.s + 1) hxC
      have hlen1 : i * 6 + 4 + 1 ≤ (cellsO (l.map Og.cp)).length := by rw [cellsO_len, hlen0]; omega
      have hbC : ∀ y ∈ (l.map Og.cp).set i { x.cp with s := x.s + 1 }, y.b.length < 1000000 := fun y hy => by
        rcases List.mem_or_eq_of_mem_set hy with h | h
        · obtain ⟨z, hz, rfl⟩ := List.mem_map.1 h
          exact hb z hz
        · rw [h]; exact hxb
      have hlC : ((l.map Og.cp).set i { x.cp with s := x.s + 1 }).length = l.length := by rw [List.length_set, hlen0]
      generalize (l.map Og.cp).set i { x.cp with s := x.s + 1 } = C at hset hbC hlC h8 k8
      have h15 := qv_of fun B => w15 B nx C C e false false false false (by omega) hbC he rfl
      simp only [lst_f] at h15
      have hrf := cellsO_rf C
      have hch := chunksO C
      rw [hlC] at hch
      have hlen2 : l.length * 6 ≤ (cellsO C).length := by rw [cellsO_len, hlC]; omega
      have hia2 : ∀ k : IntKind, iaO 8 (.sl .ro 8 ((msgs x).map Mg.D)) (.v (.int k x.s)) = some (.fptr m.D.cells 0) := fun k => by rw [← ht, ia_sr]; simp [hmt]
      have h11 := qv_of fun B => w11 m.k m.n m.nm m.sz m.off m.sum m.code m.q m.q m.b (by have := msgs_b (List.mem_of_getElem? hmt); omega) B
      simp (maxSteps := 1000000) +contextual -implicitDefEqProofs only [go_sem, R_c, G_c, D_c, DG_c, G_cf, G_cv, D_cf, DG_cf, E_c, E_cf, E_a, D_ap, D_mm, D_al, D_ldm, E_ap, E_mm, Nat.reduceEqDiff, Nat.reduceAdd, Nat.reduceLeDiff, Nat.reduceSub, Nat.reduceLT, Nat.reduceMul, Int.reduceToNat, Int.reduceEq, ↓reduceIte, reduceCtorEq, Bool.false_and, Bool.and_false, Bool.false_eq_true, Bool.true_or, Bool.or_true, Bool.false_or, Bool.or_false, Nat.reduceBEq, Int.reduceBEq, Int.reduceBNe, Int.reduceLT, Int.reduceLE, Int.reduceMul, Int.reduceAdd, Int.toNat_natCast, List.isEmpty_map, b3x1, g2, g8, g9, g10, g11, g82, g83, g84, k2, k8, k10, h8, h10, ho, hd, hx, hw, List.getElem?_map, Og.D, h10', heq, h13, hmu, hall, hcs, hia, h4, hw2, hset, hlen1, h15, hrf, hch, hlen2, hia2, h11, Mg.D, Mg.c, G_th, G_fz, Option.isNone_none] at hr
      exact ⟨_, hr.symm, rfl, (fun _ => rfl), fun h => absurd h hne⟩
end
/-- What Step gives of a copy: as data. -/
theorem out_s {nx : Int} {l : List Og} {e : List En} (h : outB nx l e = true) : ∀ x ∈ l, x.s ≤ 2 + (x.b.length + 255) / 256 ∧ 0 ≤ x.s := by
  have key : ∀ (k i : Nat), sndsB nx l i k = true → ∀ j, i ≤ j → j < i + k → ∀ x, l[j]? = some x → x.s ≤ 2 + (x.b.length + 255) / 256 ∧ 0 ≤ x.s := by
    intro k
    induction k with
    | zero => intro i _ j h1 h2; omega
    | succ k ih =>
      intro i hs j h1 h2 x hx
      simp only [sndsB, Bool.and_eq_true] at hs
      by_cases e : j = i
      · subst e
        rw [hx] at hs
        have := hs.1
        simp only [sndB, Bool.and_eq_true, inR, decide_eq_true_eq] at this
        omega
      · exact ih (i + 1) hs.2 j (by omega) (by omega) x hx
  simp only [outB, Bool.and_eq_true] at h
  intro x hx
  obtain ⟨j, hj⟩ := List.mem_iff_getElem?.1 hx
  exact key l.length 0 h.1.2 j (Nat.zero_le _) (by have := getq_lt hj; omega) x hj
theorem large_no {l : List Og} {n : Nat} {x : Og} (h : largeB l n x = false) : l.length ≤ 20 ∧ n ≤ 100 ∧ (∀ y ∈ l, y.b.length ≤ 5000) ∧ x.b.length ≤ 5000 := by
  simp only [largeB, Bool.or_eq_false_iff, decide_eq_false_iff_not, List.any_append, List.any_cons, List.any_nil, Bool.or_false] at h
  obtain ⟨⟨h1, h2⟩, h3, h4⟩ := h
  refine ⟨by omega, by omega, fun y hy => ?_, ?_⟩
  · have := List.any_eq_false.1 h3 y hy
    simp only [bigB, Bool.or_eq_true, decide_eq_true_eq, not_or] at this
    omega
  · simp only [bigB, Bool.or_eq_false_iff, decide_eq_false_iff_not] at h4
    omega
/-- What comes behind the messages. -/
def t3 : Cd := (.sq (.rg [s_ 72 (.ld (some 3) (.t 2)), s_ 73 (.calf 13 [(.t 72)]), s_ 74 (.call 12 [(.t 73)]), s_ 71 (.mv (.m 74)), s_ 75 (.ext (.t 71) 0), s_ 76 (.ext (.t 71) 1), s_ 77 (.ext (.t 71) 2), s_ 78 (.ext (.t 71) 3), s_ 8 (.al [.int .u32 0, .slice none 0 0, .slice none 0 0]), s_ 10 (.al [.int .i64 0, .int .u32 0, .string ⟨#[]⟩, .int .i64 0, .int .i64 0, .int .u32 0, .int .i64 0, .slice none 0 0]), n_ (.st 3 (.t 8) (.m 75)), s_ 9 (.mv (.t 76)), n_ (.st 8 (.t 10) (.m 77)), s_ 11 (.mv (.t 78))]) (.sq (.sq (.rg [s_ 79 (.ld (some 3) (.t 2)), s_ 80 (.call 14 [(.t 79)])]) (.ff (.t 80) (.sq (.rg [s_ 81 (.fa (.t 2) 1), s_ 82 (.ld none (.t 81)), s_ 83 (.len (.t 82)), s_ 84 (.mv (I 0))]) (.bl 2 l3x1)) .sk)) (.sq (.rg [s_ 129 (.mv (.t 11)), s_ 130 (.no (.t 129)), s_ 131 (.mv (.t 130)), g_ 131 true 132 (.mv (.t 9)), g_ 131 true 133 (.bin .eql (.t 132) (I 0)), s_ 134 (.pk (.t 131) (.t 133) (.c (.bool false))), s_ 135 (.mv (.t 134)), g_ 135 true 136 (.ld (some 8) (.t 10)), g_ 135 true 137 (.bd [.int .i64 0, .int .u32 0, .string ⟨#[]⟩, .int .i64 0, .int .i64 0, .int .u32 0, .int .i64 0, .slice none 0 0] []), g_ 135 true 138 (.call 11 [(.t 136), (.t 137)]), s_ 139 (.pk (.t 135) (.t 138) (.c (.bool false))), s_ 140 (.mv (.t 139)), g_ 140 true 141 (.ld (some 3) (.t 8)), g_ 140 true 142 (.ld (some 3) (.t 2)), g_ 140 true 143 (.call 15 [(.t 141), (.t 142)]), s_ 144 (.pk (.t 140) (.t 143) (.c (.bool false))), s_ 4 (.mv (.t 144))]) .rt)))
theorem c3_t : c3 = (.sq (.rg [s_ 2 (.bx (.t 0)), s_ 3 (.bx (.t 1)), s_ 4 (.mv (.c (.bool false)))]) (.sq (.sq (.rg [s_ 16 (.call 7 []), s_ 17 (.no (.t 16))]) (.ff (.t 17) (.sq (.rg [s_ 4 (.mv (.c (.bool false)))]) .rt) .sk)) (.sq (.sq (.rg [s_ 18 (.ld (some 3) (.t 2)), s_ 19 (.ld (some 6) (.t 3)), s_ 20 (.bs 6 [(.t 19)]), s_ 21 (.call 8 [(.t 18), (.t 20)])]) (.ff (.t 21) (.sq (.rg [s_ 4 (.mv (.c (.bool true)))]) .rt) .sk)) (.sq (.rg [s_ 22 (.ld (some 6) (.t 3)), s_ 23 (.call 9 [(.t 22)]), s_ 5 (.mv (.m 23))]) (.sq (.sq (.rg [s_ 24 (.fa (.t 3) 0), s_ 25 (.ld none (.t 24)), s_ 26 (.bin .eql (.t 25) (.c (.int .u32 0))), s_ 27 (.mv (.t 26)), g_ 27 false 28 (.fa (.t 3) 2), g_ 27 false 29 (.ld none (.t 28)), g_ 27 false 30 (.lns (.t 29)), g_ 27 false 31 (.bin .lss (.t 30) (I 1)), s_ 32 (.pk (.t 27) (.c (.bool true)) (.t 31)), s_ 33 (.mv (.t 32)), g_ 33 false 34 (.fa (.t 3) 2), g_ 33 false 35 (.ld none (.t 34)), g_ 33 false 36 (.lns (.t 35)), g_ 33 false 37 (.bin .gtr (.t 36) (I 24)), s_ 38 (.pk (.t 33) (.c (.bool true)) (.t 37)), s_ 39 (.mv (.t 38)), g_ 39 false 40 (.fa (.t 3) 3), g_ 39 false 41 (.ld none (.t 40)), g_ 39 false 42 (.len (.t 41)), g_ 39 false 43 (.bin .gtr (.t 42) (I 2048)), s_ 44 (.pk (.t 39) (.c (.bool true)) (.t 43))]) (.ff (.t 44) (.sq (.rg [s_ 45 (.mv (.t 5)), s_ 46 (.len (.t 45)), s_ 47 (.bin .neq (.t 46) (I 0))]) (.ff (.t 47) (.sq (.rg [s_ 4 (.mv (.c (.bool false)))]) .rt) .sk)) (.sq (.rg [s_ 48 (.ld (some 6) (.t 3)), s_ 49 (.call 10 [(.t 48)]), s_ 6 (.mv (.m 49))]) (.sq (.sq (.rg [s_ 50 (.mv (.t 5)), s_ 51 (.len (.t 50)), s_ 52 (.mv (.t 6)), s_ 53 (.len (.t 52)), s_ 54 (.bin .neq (.t 51) (.t 53))]) (.ff (.t 54) (.sq (.rg [s_ 4 (.mv (.c (.bool false)))]) .rt) .sk)) (.sq (.rg [s_ 55 (.mv (.t 5)), s_ 56 (.len (.t 55)), s_ 57 (.mv (I 0))]) (.bl 0 l3x0)))))) t3))))) := rfl
theorem w3t (B : List Bx) (nx : Int) (l : List Og) (e : List En) (q q2 : Bool) (h0 : 0 ≤ nx) (hn : ∀ y ∈ l, 0 ≤ y.n) (hc : ∀ y ∈ l, ∀ c ∈ y.b, c < 256) (hne : ∀ y ∈ e, 0 ≤ y.n) (hl : l.length ≤ 20) (he : e.length ≤ 100) (hb : ∀ y ∈ l, y.b.length ≤ 5000) (b3 : List D) {s : S} (ho : s.o = B) (g2 : get 2 s.e = .ptr B.length 2 0)
    (hsl : s.l = [(2, [vu nx, lst .ro 6 q (l.map Og.D), lst .ro 2 q2 (e.map En.D)])] ∨ s.l = [(2, [vu nx, lst .ro 6 q (l.map Og.D), lst .ro 2 q2 (e.map En.D)]), (3, b3)]) : fC F3 B (evC (EF pg) t3 s) = some (vb true, B) := by
  have hb' : ∀ y ∈ l, y.b.length < 1000000 := fun y hy => by have := hb y hy; omega
  have hbC : ∀ y ∈ l.map Og.cp, y.b.length < 1000000 := fun y hy => by
    obtain ⟨z, hz, rfl⟩ := List.mem_map.1 hy
    exact hb' z hz
  have hcC : ∀ y ∈ l.map Og.cp, ∀ c ∈ y.b, c < 256 := fun y hy => by
    obtain ⟨z, hz, rfl⟩ := List.mem_map.1 hy
    exact hc z hz
  have hlC : (l.map Og.cp).length < 1000000 := by rw [List.length_map]; omega
  have h13 := fun B => w13 nx l (by omega) (fun y hy => by have := hb y hy; omega) q q2 (e.map En.D) (by rw [List.length_map]; omega) B
  have h14 := fun B => w14 nx l q q2 B e h0 (by omega) hb' hc hn (by omega) hne
  have h11 := fun B => w11 0 0 ⟨#[]⟩ 0 0 0 0 true true [] (by simp) B
  simp only [List.map_nil, lst_nil] at h11
  cases hout : outB nx l e with
  | false =>
    have houtC : outB nx (l.map Og.cp) e = false := by rw [outB_cp]; exact hout
    have h12 := fun B => w12a nx (l.map Og.cp) true false e B hlC hbC (by omega) houtC
    have h15 := fun B => w15 B nx (l.map Og.cp) l e true q false q2 hlC hbC (by omega) (cp_cp l)
    simp only [lst_f] at h12 h15
    rw [hout] at h14
    rcases hsl with hsl | hsl
    · simp (maxSteps := 1000000) +contextual -implicitDefEqProofs only [go_sem, R_c, G_c, D_c, DG_c, G_cf, G_cv, D_cf, DG_cf, E_c, E_cf, E_a, D_ap, D_mm, D_al, D_ldm, E_ap, E_mm, Nat.reduceEqDiff, Nat.reduceAdd, Nat.reduceLeDiff, Nat.reduceSub, Nat.reduceLT, Nat.reduceMul, Int.reduceToNat, Int.reduceEq, ↓reduceIte, reduceCtorEq, Bool.false_and, Bool.and_false, Bool.false_eq_true, Bool.true_or, Bool.or_true, Bool.false_or, Bool.or_false, Nat.reduceBEq, Int.reduceBEq, Int.reduceBNe, Int.reduceLT, Int.reduceLE, Int.reduceMul, Int.reduceAdd, Int.toNat_natCast, List.isEmpty_map, t3, F3, ho, g2, hsl, h13, h14, h12, h11, h15, Z8]
    · simp (maxSteps := 1000000) +contextual -implicitDefEqProofs only [go_sem, R_c, G_c, D_c, DG_c, G_cf, G_cv, D_cf, DG_cf, E_c, E_cf, E_a, D_ap, D_mm, D_al, D_ldm, E_ap, E_mm, Nat.reduceEqDiff, Nat.reduceAdd, Nat.reduceLeDiff, Nat.reduceSub, Nat.reduceLT, Nat.reduceMul, Int.reduceToNat, Int.reduceEq, ↓reduceIte, reduceCtorEq, Bool.false_and, Bool.and_false, Bool.false_eq_true, Bool.true_or, Bool.or_true, Bool.false_or, Bool.or_false, Nat.reduceBEq, Int.reduceBEq, Int.reduceBNe, Int.reduceLT, Int.reduceLE, Int.reduceMul, Int.reduceAdd, Int.toNat_natCast, List.isEmpty_map, t3, F3, ho, g2, hsl, h13, h14, h12, h11, h15, Z8]
  | true =>
    have houtC : outB nx (l.map Og.cp) e = true := by rw [outB_cp]; exact hout
    have hs := out_s hout
    rw [hout] at h14
    rcases idxO_ge l 0 with hidx | ⟨j, hidx, _, y, hy, hmo⟩
    · -- all is sent
      have h12 : ∀ B, EF pg 12 [.agg [vu nx, lst .ro 6 true ((l.map Og.cp).map Og.D), .sl .ro 2 (e.map En.D)]] B = some (.tup [.agg [vu nx, lst .ro 6 true ((l.map Og.cp).map Og.D), .sl .ro 2 (e.map En.D)], vi 0, Z8, vb false], B) := fun B => by
        cases l with
        | nil =>
          have := w12b nx true false e B (by omega) hout
          simp only [lst_f] at this
          exact this
        | cons y r =>
          have := w12c nx ((y :: r).map Og.cp) true false e B (by simp) hlC hbC (by omega) houtC (by rw [idxO_cp]; exact hidx)
          simp only [lst_f] at this
          rw [this, lst_ne (by simp)]
      have h15 := fun B => w15 B nx (l.map Og.cp) l e true q false q2 hlC hbC (by omega) (cp_cp l)
      simp only [lst_f] at h15
      have hno : ∀ (i : Nat) (x : Og), idxO l 0 = (i : Nat) → l[i]? = some x → False := fun i x h _ => by rw [hidx] at h; omega
      have main : ∀ {s0 : S} {z : Option (Ex × S)}, evC (EF pg) l3x1 s0 = z → s0.o = B → get 2 s0.e = .ptr B.length 2 0 → get 8 s0.e = .ptr B.length 8 0 → get 9 s0.e = vi 0 → get 10 s0.e = .ptr B.length 10 0 → get 11 s0.e = vb false → get 82 s0.e = lst .ro 6 q (l.map Og.D) → get 83 s0.e = vi l.length → get 84 s0.e = vi (0 : Nat) →
          lk 2 s0.l = some [vu nx, lst .ro 6 q (l.map Og.D), lst .ro 2 q2 (e.map En.D)] → lk 8 s0.l = some [vu nx, lst .ro 6 true ((l.map Og.cp).map Og.D), .sl .ro 2 (e.map En.D)] → lk 10 s0.l = some z4 →
          ∃ s', z = some (.ex 2, s') ∧ s'.o = B ∧ get 2 s'.e = .ptr B.length 2 0 ∧ get 8 s'.e = .ptr B.length 8 0 ∧ get 9 s'.e = vi 0 ∧ get 10 s'.e = .ptr B.length 10 0 ∧ get 11 s'.e = vb false ∧ s'.l = [(2, [vu nx, lst .ro 6 q (l.map Og.D), lst .ro 2 q2 (e.map En.D)]), (8, [vu nx, lst .ro 6 true ((l.map Og.cp).map Og.D), .sl .ro 2 (e.map En.D)]), (10, z4)] := by
        intro s0 z a0 a1 a2 a3 a4 a5 a6 a7 a8 a9 a10 a11 a12
        obtain ⟨s', k1, k2, _, k4⟩ := l3b B nx l e q q2 (by omega) hb' hc (by omega) hs _ _ (by simp (maxSteps := 1000000) +contextual -implicitDefEqProofs only [go_sem, R_c, G_c, D_c, DG_c, G_cf, G_cv, D_cf, DG_cf, E_c, E_cf, E_a, D_ap, D_mm, D_al, D_ldm, E_ap, E_mm, Nat.reduceEqDiff, Nat.reduceAdd, Nat.reduceLeDiff, Nat.reduceSub, Nat.reduceLT, Nat.reduceMul, Int.reduceToNat, Int.reduceEq, ↓reduceIte, reduceCtorEq, Bool.false_and, Bool.and_false, Bool.false_eq_true, Bool.true_or, Bool.or_true, Bool.false_or, Bool.or_false, Nat.reduceBEq, Int.reduceBEq, Int.reduceBNe, Int.reduceLT, Int.reduceLE, Int.reduceMul, Int.reduceAdd, Int.toNat_natCast, List.isEmpty_map, ]) (by simp (maxSteps := 1000000) +contextual -implicitDefEqProofs only [go_sem, R_c, G_c, D_c, DG_c, G_cf, G_cv, D_cf, DG_cf, E_c, E_cf, E_a, D_ap, D_mm, D_al, D_ldm, E_ap, E_mm, Nat.reduceEqDiff, Nat.reduceAdd, Nat.reduceLeDiff, Nat.reduceSub, Nat.reduceLT, Nat.reduceMul, Int.reduceToNat, Int.reduceEq, ↓reduceIte, reduceCtorEq, Bool.false_and, Bool.and_false, Bool.false_eq_true, Bool.true_or, Bool.or_true, Bool.false_or, Bool.or_false, Nat.reduceBEq, Int.reduceBEq, Int.reduceBNe, Int.reduceLT, Int.reduceLE, Int.reduceMul, Int.reduceAdd, Int.toNat_natCast, List.isEmpty_map, z4]) 0 false (fun i x h hx => (hno i x h hx).elim) l.length 0 a0 a1 (by omega) (by rw [List.drop_zero]) a2 a3 a4 a5 a6 a7 a8 a9 a10 a11 a12
        rw [if_pos hidx] at k1
        exact ⟨s', k1, k2, k4 hidx⟩
      rcases hsl with hsl | hsl
      · simp (maxSteps := 1000000) +contextual -implicitDefEqProofs only [go_sem, R_c, G_c, D_c, DG_c, G_cf, G_cv, D_cf, DG_cf, E_c, E_cf, E_a, D_ap, D_mm, D_al, D_ldm, E_ap, E_mm, Nat.reduceEqDiff, Nat.reduceAdd, Nat.reduceLeDiff, Nat.reduceSub, Nat.reduceLT, Nat.reduceMul, Int.reduceToNat, Int.reduceEq, ↓reduceIte, reduceCtorEq, Bool.false_and, Bool.and_false, Bool.false_eq_true, Bool.true_or, Bool.or_true, Bool.false_or, Bool.or_false, Nat.reduceBEq, Int.reduceBEq, Int.reduceBNe, Int.reduceLT, Int.reduceLE, Int.reduceMul, Int.reduceAdd, Int.toNat_natCast, List.isEmpty_map, t3, F3, ho, g2, hsl, h13, h14, h12, h11, h15, Z8]
        generalize hz : evC (EF pg) l3x1 _ = z
        obtain ⟨s', rfl, k2, f1, f2, f3, f4, f5, f6⟩ := main hz (by first | rfl | simp (maxSteps := 1000000) +contextual -implicitDefEqProofs only [go_sem, R_c, G_c, D_c, DG_c, G_cf, G_cv, D_cf, DG_cf, E_c, E_cf, E_a, D_ap, D_mm, D_al, D_ldm, E_ap, E_mm, Nat.reduceEqDiff, Nat.reduceAdd, Nat.reduceLeDiff, Nat.reduceSub, Nat.reduceLT, Nat.reduceMul, Int.reduceToNat, Int.reduceEq, ↓reduceIte, reduceCtorEq, Bool.false_and, Bool.and_false, Bool.false_eq_true, Bool.true_or, Bool.or_true, Bool.false_or, Bool.or_false, Nat.reduceBEq, Int.reduceBEq, Int.reduceBNe, Int.reduceLT, Int.reduceLE, Int.reduceMul, Int.reduceAdd, Int.toNat_natCast, List.isEmpty_map, ho]) (by first | rfl | simp (maxSteps := 1000000) +contextual -implicitDefEqProofs only [go_sem, R_c, G_c, D_c, DG_c, G_cf, G_cv, D_cf, DG_cf, E_c, E_cf, E_a, D_ap, D_mm, D_al, D_ldm, E_ap, E_mm, Nat.reduceEqDiff, Nat.reduceAdd, Nat.reduceLeDiff, Nat.reduceSub, Nat.reduceLT, Nat.reduceMul, Int.reduceToNat, Int.reduceEq, ↓reduceIte, reduceCtorEq, Bool.false_and, Bool.and_false, Bool.false_eq_true, Bool.true_or, Bool.or_true, Bool.false_or, Bool.or_false, Nat.reduceBEq, Int.reduceBEq, Int.reduceBNe, Int.reduceLT, Int.reduceLE, Int.reduceMul, Int.reduceAdd, Int.toNat_natCast, List.isEmpty_map, g2]) rfl rfl rfl rfl rfl rfl rfl (by first | rfl | simp (maxSteps := 1000000) +contextual -implicitDefEqProofs only [go_sem, R_c, G_c, D_c, DG_c, G_cf, G_cv, D_cf, DG_cf, E_c, E_cf, E_a, D_ap, D_mm, D_al, D_ldm, E_ap, E_mm, Nat.reduceEqDiff, Nat.reduceAdd, Nat.reduceLeDiff, Nat.reduceSub, Nat.reduceLT, Nat.reduceMul, Int.reduceToNat, Int.reduceEq, ↓reduceIte, reduceCtorEq, Bool.false_and, Bool.and_false, Bool.false_eq_true, Bool.true_or, Bool.or_true, Bool.false_or, Bool.or_false, Nat.reduceBEq, Int.reduceBEq, Int.reduceBNe, Int.reduceLT, Int.reduceLE, Int.reduceMul, Int.reduceAdd, Int.toNat_natCast, List.isEmpty_map, hsl]) (by first | rfl | simp (maxSteps := 1000000) +contextual -implicitDefEqProofs only [go_sem, R_c, G_c, D_c, DG_c, G_cf, G_cv, D_cf, DG_cf, E_c, E_cf, E_a, D_ap, D_mm, D_al, D_ldm, E_ap, E_mm, Nat.reduceEqDiff, Nat.reduceAdd, Nat.reduceLeDiff, Nat.reduceSub, Nat.reduceLT, Nat.reduceMul, Int.reduceToNat, Int.reduceEq, ↓reduceIte, reduceCtorEq, Bool.false_and, Bool.and_false, Bool.false_eq_true, Bool.true_or, Bool.or_true, Bool.false_or, Bool.or_false, Nat.reduceBEq, Int.reduceBEq, Int.reduceBNe, Int.reduceLT, Int.reduceLE, Int.reduceMul, Int.reduceAdd, Int.toNat_natCast, List.isEmpty_map, hsl]) (by first | rfl | simp (maxSteps := 1000000) +contextual -implicitDefEqProofs only [go_sem, R_c, G_c, D_c, DG_c, G_cf, G_cv, D_cf, DG_cf, E_c, E_cf, E_a, D_ap, D_mm, D_al, D_ldm, E_ap, E_mm, Nat.reduceEqDiff, Nat.reduceAdd, Nat.reduceLeDiff, Nat.reduceSub, Nat.reduceLT, Nat.reduceMul, Int.reduceToNat, Int.reduceEq, ↓reduceIte, reduceCtorEq, Bool.false_and, Bool.and_false, Bool.false_eq_true, Bool.true_or, Bool.or_true, Bool.false_or, Bool.or_false, Nat.reduceBEq, Int.reduceBEq, Int.reduceBNe, Int.reduceLT, Int.reduceLE, Int.reduceMul, Int.reduceAdd, Int.toNat_natCast, List.isEmpty_map, hsl, z4])
        simp (maxSteps := 1000000) +contextual -implicitDefEqProofs only [go_sem, R_c, G_c, D_c, DG_c, G_cf, G_cv, D_cf, DG_cf, E_c, E_cf, E_a, D_ap, D_mm, D_al, D_ldm, E_ap, E_mm, Nat.reduceEqDiff, Nat.reduceAdd, Nat.reduceLeDiff, Nat.reduceSub, Nat.reduceLT, Nat.reduceMul, Int.reduceToNat, Int.reduceEq, ↓reduceIte, reduceCtorEq, Bool.false_and, Bool.and_false, Bool.false_eq_true, Bool.true_or, Bool.or_true, Bool.false_or, Bool.or_false, Nat.reduceBEq, Int.reduceBEq, Int.reduceBNe, Int.reduceLT, Int.reduceLE, Int.reduceMul, Int.reduceAdd, Int.toNat_natCast, List.isEmpty_map, k2, f1, f2, f3, f4, f5, f6, z4, h11, h15]
      · simp (maxSteps := 1000000) +contextual -implicitDefEqProofs only [go_sem, R_c, G_c, D_c, DG_c, G_cf, G_cv, D_cf, DG_cf, E_c, E_cf, E_a, D_ap, D_mm, D_al, D_ldm, E_ap, E_mm, Nat.reduceEqDiff, Nat.reduceAdd, Nat.reduceLeDiff, Nat.reduceSub, Nat.reduceLT, Nat.reduceMul, Int.reduceToNat, Int.reduceEq, ↓reduceIte, reduceCtorEq, Bool.false_and, Bool.and_false, Bool.false_eq_true, Bool.true_or, Bool.or_true, Bool.false_or, Bool.or_false, Nat.reduceBEq, Int.reduceBEq, Int.reduceBNe, Int.reduceLT, Int.reduceLE, Int.reduceMul, Int.reduceAdd, Int.toNat_natCast, List.isEmpty_map, t3, F3, ho, g2, hsl, h13, h14, h12, h11, h15, Z8]
        generalize hz : evC (EF pg) l3x1 _ = z
        obtain ⟨s', rfl, k2, f1, f2, f3, f4, f5, f6⟩ := main hz (by first | rfl | simp (maxSteps := 1000000) +contextual -implicitDefEqProofs only [go_sem, R_c, G_c, D_c, DG_c, G_cf, G_cv, D_cf, DG_cf, E_c, E_cf, E_a, D_ap, D_mm, D_al, D_ldm, E_ap, E_mm, Nat.reduceEqDiff, Nat.reduceAdd, Nat.reduceLeDiff, Nat.reduceSub, Nat.reduceLT, Nat.reduceMul, Int.reduceToNat, Int.reduceEq, ↓reduceIte, reduceCtorEq, Bool.false_and, Bool.and_false, Bool.false_eq_true, Bool.true_or, Bool.or_true, Bool.false_or, Bool.or_false, Nat.reduceBEq, Int.reduceBEq, Int.reduceBNe, Int.reduceLT, Int.reduceLE, Int.reduceMul, Int.reduceAdd, Int.toNat_natCast, List.isEmpty_map, ho]) (by first | rfl | simp (maxSteps := 1000000) +contextual -implicitDefEqProofs only [go_sem, R_c, G_c, D_c, DG_c, G_cf, G_cv, D_cf, DG_cf, E_c, E_cf, E_a, D_ap, D_mm, D_al, D_ldm, E_ap, E_mm, Nat.reduceEqDiff, Nat.reduceAdd, Nat.reduceLeDiff, Nat.reduceSub, Nat.reduceLT, Nat.reduceMul, Int.reduceToNat, Int.reduceEq, ↓reduceIte, reduceCtorEq, Bool.false_and, Bool.and_false, Bool.false_eq_true, Bool.true_or, Bool.or_true, Bool.false_or, Bool.or_false, Nat.reduceBEq, Int.reduceBEq, Int.reduceBNe, Int.reduceLT, Int.reduceLE, Int.reduceMul, Int.reduceAdd, Int.toNat_natCast, List.isEmpty_map, g2]) rfl rfl rfl rfl rfl rfl rfl (by first | rfl | simp (maxSteps := 1000000) +contextual -implicitDefEqProofs only [go_sem, R_c, G_c, D_c, DG_c, G_cf, G_cv, D_cf, DG_cf, E_c, E_cf, E_a, D_ap, D_mm, D_al, D_ldm, E_ap, E_mm, Nat.reduceEqDiff, Nat.reduceAdd, Nat.reduceLeDiff, Nat.reduceSub, Nat.reduceLT, Nat.reduceMul, Int.reduceToNat, Int.reduceEq, ↓reduceIte, reduceCtorEq, Bool.false_and, Bool.and_false, Bool.false_eq_true, Bool.true_or, Bool.or_true, Bool.false_or, Bool.or_false, Nat.reduceBEq, Int.reduceBEq, Int.reduceBNe, Int.reduceLT, Int.reduceLE, Int.reduceMul, Int.reduceAdd, Int.toNat_natCast, List.isEmpty_map, hsl]) (by first | rfl | simp (maxSteps := 1000000) +contextual -implicitDefEqProofs only [go_sem, R_c, G_c, D_c, DG_c, G_cf, G_cv, D_cf, DG_cf, E_c, E_cf, E_a, D_ap, D_mm, D_al, D_ldm, E_ap, E_mm, Nat.reduceEqDiff, Nat.reduceAdd, Nat.reduceLeDiff, Nat.reduceSub, Nat.reduceLT, Nat.reduceMul, Int.reduceToNat, Int.reduceEq, ↓reduceIte, reduceCtorEq, Bool.false_and, Bool.and_false, Bool.false_eq_true, Bool.true_or, Bool.or_true, Bool.false_or, Bool.or_false, Nat.reduceBEq, Int.reduceBEq, Int.reduceBNe, Int.reduceLT, Int.reduceLE, Int.reduceMul, Int.reduceAdd, Int.toNat_natCast, List.isEmpty_map, hsl]) (by first | rfl | simp (maxSteps := 1000000) +contextual -implicitDefEqProofs only [go_sem, R_c, G_c, D_c, DG_c, G_cf, G_cv, D_cf, DG_cf, E_c, E_cf, E_a, D_ap, D_mm, D_al, D_ldm, E_ap, E_mm, Nat.reduceEqDiff, Nat.reduceAdd, Nat.reduceLeDiff, Nat.reduceSub, Nat.reduceLT, Nat.reduceMul, Int.reduceToNat, Int.reduceEq, ↓reduceIte, reduceCtorEq, Bool.false_and, Bool.and_false, Bool.false_eq_true, Bool.true_or, Bool.or_true, Bool.false_or, Bool.or_false, Nat.reduceBEq, Int.reduceBEq, Int.reduceBNe, Int.reduceLT, Int.reduceLE, Int.reduceMul, Int.reduceAdd, Int.toNat_natCast, List.isEmpty_map, hsl, z4])
        simp (maxSteps := 1000000) +contextual -implicitDefEqProofs only [go_sem, R_c, G_c, D_c, DG_c, G_cf, G_cv, D_cf, DG_cf, E_c, E_cf, E_a, D_ap, D_mm, D_al, D_ldm, E_ap, E_mm, Nat.reduceEqDiff, Nat.reduceAdd, Nat.reduceLeDiff, Nat.reduceSub, Nat.reduceLT, Nat.reduceMul, Int.reduceToNat, Int.reduceEq, ↓reduceIte, reduceCtorEq, Bool.false_and, Bool.and_false, Bool.false_eq_true, Bool.true_or, Bool.or_true, Bool.false_or, Bool.or_false, Nat.reduceBEq, Int.reduceBEq, Int.reduceBNe, Int.reduceLT, Int.reduceLE, Int.reduceMul, Int.reduceAdd, Int.toNat_natCast, List.isEmpty_map, k2, f1, f2, f3, f4, f5, f6, z4, h11, h15]
    · -- the message of the sending j
      rw [Nat.sub_zero] at hy
      have hlt := (List.getElem?_eq_some_iff.1 hy).1
      have hym := List.mem_of_getElem? hy
      obtain ⟨hs1, hs2⟩ := hs y hym
      have hmo' := of_decide_eq_true hmo
      obtain ⟨t, ht⟩ := Int.eq_ofNat_of_zero_le hs2
      obtain ⟨m, hm⟩ : ∃ m, (msgs y)[t]? = some m := ⟨_, List.getElem?_eq_getElem (by rw [msgs_len]; simp only [nData]; omega)⟩
      have hyC : (l.map Og.cp)[j]? = some y.cp := by simp [hy]
      have h12 := fun B => w12d nx (l.map Og.cp) B j y.cp true false e hlC hbC hcC (by omega) houtC (by rw [idxO_cp]; exact hidx) hyC t ht.symm m (by rw [msgs_cp]; exact hm)
      simp only [lst_f] at h12
      have h12 : ∀ B, EF pg 12 [.agg [vu nx, lst .ro 6 true ((l.map Og.cp).map Og.D), .sl .ro 2 (e.map En.D)]] B = some (.tup [.agg [vu nx, .sl .ro 6 (((l.map Og.cp).set j { y.cp with s := y.s + 1 }).map Og.D), .sl .ro 2 (e.map En.D)], vi y.d, m.D, vb true], B) := h12
      have hne1 : idxO l 0 ≠ -1 := by rw [hidx]; omega
      have main : ∀ {s0 : S} {z : Option (Ex × S)}, evC (EF pg) l3x1 s0 = z → s0.o = B → get 2 s0.e = .ptr B.length 2 0 → get 8 s0.e = .ptr B.length 8 0 → get 9 s0.e = vi y.d → get 10 s0.e = .ptr B.length 10 0 → get 11 s0.e = vb true → get 82 s0.e = lst .ro 6 q (l.map Og.D) → get 83 s0.e = vi l.length → get 84 s0.e = vi (0 : Nat) →
          lk 2 s0.l = some [vu nx, lst .ro 6 q (l.map Og.D), lst .ro 2 q2 (e.map En.D)] → lk 8 s0.l = some [vu nx, .sl .ro 6 (((l.map Og.cp).set j { y.cp with s := y.s + 1 }).map Og.D), .sl .ro 2 (e.map En.D)] → lk 10 s0.l = some m.c →
          ∃ s', z = some (.rt, s') ∧ s'.o = B ∧ get 4 s'.e = vb true := by
        intro s0 z a0 a1 a2 a3 a4 a5 a6 a7 a8 a9 a10 a11 a12
        obtain ⟨s', k1, k2, k3, _⟩ := l3b B nx l e q q2 (by omega) hb' hc (by omega) hs _ _ (by simp (maxSteps := 1000000) +contextual -implicitDefEqProofs only [go_sem, R_c, G_c, D_c, DG_c, G_cf, G_cv, D_cf, DG_cf, E_c, E_cf, E_a, D_ap, D_mm, D_al, D_ldm, E_ap, E_mm, Nat.reduceEqDiff, Nat.reduceAdd, Nat.reduceLeDiff, Nat.reduceSub, Nat.reduceLT, Nat.reduceMul, Int.reduceToNat, Int.reduceEq, ↓reduceIte, reduceCtorEq, Bool.false_and, Bool.and_false, Bool.false_eq_true, Bool.true_or, Bool.or_true, Bool.false_or, Bool.or_false, Nat.reduceBEq, Int.reduceBEq, Int.reduceBNe, Int.reduceLT, Int.reduceLE, Int.reduceMul, Int.reduceAdd, Int.toNat_natCast, List.isEmpty_map, ]) (by simp (maxSteps := 1000000) +contextual -implicitDefEqProofs only [go_sem, R_c, G_c, D_c, DG_c, G_cf, G_cv, D_cf, DG_cf, E_c, E_cf, E_a, D_ap, D_mm, D_al, D_ldm, E_ap, E_mm, Nat.reduceEqDiff, Nat.reduceAdd, Nat.reduceLeDiff, Nat.reduceSub, Nat.reduceLT, Nat.reduceMul, Int.reduceToNat, Int.reduceEq, ↓reduceIte, reduceCtorEq, Bool.false_and, Bool.and_false, Bool.false_eq_true, Bool.true_or, Bool.or_true, Bool.false_or, Bool.or_false, Nat.reduceBEq, Int.reduceBEq, Int.reduceBNe, Int.reduceLT, Int.reduceLE, Int.reduceMul, Int.reduceAdd, Int.toNat_natCast, List.isEmpty_map, Mg.c]) y.d true (fun i x h hx => by
          rw [hidx] at h
          have : j = i := by omega
          subst this
          rw [hy] at hx
          injection hx with hx
          subst hx
          exact ⟨rfl, rfl, rfl, t, m, ht.symm, hm, rfl⟩) l.length 0 a0 a1 (by omega) (by rw [List.drop_zero]) a2 a3 a4 a5 a6 a7 a8 a9 a10 a11 a12
        rw [if_neg hne1] at k1
        exact ⟨s', k1, k2, k3 hne1⟩
      generalize (l.map Og.cp).set j { y.cp with s := y.s + 1 } = C at h12 main
      have hmD : m.D = .agg m.c := rfl
      rw [hmD] at h12
      rcases hsl with hsl | hsl
      · simp (maxSteps := 1000000) +contextual -implicitDefEqProofs only [go_sem, R_c, G_c, D_c, DG_c, G_cf, G_cv, D_cf, DG_cf, E_c, E_cf, E_a, D_ap, D_mm, D_al, D_ldm, E_ap, E_mm, Nat.reduceEqDiff, Nat.reduceAdd, Nat.reduceLeDiff, Nat.reduceSub, Nat.reduceLT, Nat.reduceMul, Int.reduceToNat, Int.reduceEq, ↓reduceIte, reduceCtorEq, Bool.false_and, Bool.and_false, Bool.false_eq_true, Bool.true_or, Bool.or_true, Bool.false_or, Bool.or_false, Nat.reduceBEq, Int.reduceBEq, Int.reduceBNe, Int.reduceLT, Int.reduceLE, Int.reduceMul, Int.reduceAdd, Int.toNat_natCast, List.isEmpty_map, t3, F3, ho, g2, hsl, h13, h14, h12, Mg.c]
        generalize hz : evC (EF pg) l3x1 _ = z
        obtain ⟨s', rfl, k2, f1⟩ := main hz (by first | rfl | simp (maxSteps := 1000000) +contextual -implicitDefEqProofs only [go_sem, R_c, G_c, D_c, DG_c, G_cf, G_cv, D_cf, DG_cf, E_c, E_cf, E_a, D_ap, D_mm, D_al, D_ldm, E_ap, E_mm, Nat.reduceEqDiff, Nat.reduceAdd, Nat.reduceLeDiff, Nat.reduceSub, Nat.reduceLT, Nat.reduceMul, Int.reduceToNat, Int.reduceEq, ↓reduceIte, reduceCtorEq, Bool.false_and, Bool.and_false, Bool.false_eq_true, Bool.true_or, Bool.or_true, Bool.false_or, Bool.or_false, Nat.reduceBEq, Int.reduceBEq, Int.reduceBNe, Int.reduceLT, Int.reduceLE, Int.reduceMul, Int.reduceAdd, Int.toNat_natCast, List.isEmpty_map, ho]) (by first | rfl | simp (maxSteps := 1000000) +contextual -implicitDefEqProofs only [go_sem, R_c, G_c, D_c, DG_c, G_cf, G_cv, D_cf, DG_cf, E_c, E_cf, E_a, D_ap, D_mm, D_al, D_ldm, E_ap, E_mm, Nat.reduceEqDiff, Nat.reduceAdd, Nat.reduceLeDiff, Nat.reduceSub, Nat.reduceLT, Nat.reduceMul, Int.reduceToNat, Int.reduceEq, ↓reduceIte, reduceCtorEq, Bool.false_and, Bool.and_false, Bool.false_eq_true, Bool.true_or, Bool.or_true, Bool.false_or, Bool.or_false, Nat.reduceBEq, Int.reduceBEq, Int.reduceBNe, Int.reduceLT, Int.reduceLE, Int.reduceMul, Int.reduceAdd, Int.toNat_natCast, List.isEmpty_map, g2]) rfl rfl rfl rfl rfl rfl rfl (by first | rfl | simp (maxSteps := 1000000) +contextual -implicitDefEqProofs only [go_sem, R_c, G_c, D_c, DG_c, G_cf, G_cv, D_cf, DG_cf, E_c, E_cf, E_a, D_ap, D_mm, D_al, D_ldm, E_ap, E_mm, Nat.reduceEqDiff, Nat.reduceAdd, Nat.reduceLeDiff, Nat.reduceSub, Nat.reduceLT, Nat.reduceMul, Int.reduceToNat, Int.reduceEq, ↓reduceIte, reduceCtorEq, Bool.false_and, Bool.and_false, Bool.false_eq_true, Bool.true_or, Bool.or_true, Bool.false_or, Bool.or_false, Nat.reduceBEq, Int.reduceBEq, Int.reduceBNe, Int.reduceLT, Int.reduceLE, Int.reduceMul, Int.reduceAdd, Int.toNat_natCast, List.isEmpty_map, hsl]) (by first | rfl | simp (maxSteps := 1000000) +contextual -implicitDefEqProofs only [go_sem, R_c, G_c, D_c, DG_c, G_cf, G_cv, D_cf, DG_cf, E_c, E_cf, E_a, D_ap, D_mm, D_al, D_ldm, E_ap, E_mm, Nat.reduceEqDiff, Nat.reduceAdd, Nat.reduceLeDiff, Nat.reduceSub, Nat.reduceLT, Nat.reduceMul, Int.reduceToNat, Int.reduceEq, ↓reduceIte, reduceCtorEq, Bool.false_and, Bool.and_false, Bool.false_eq_true, Bool.true_or, Bool.or_true, Bool.false_or, Bool.or_false, Nat.reduceBEq, Int.reduceBEq, Int.reduceBNe, Int.reduceLT, Int.reduceLE, Int.reduceMul, Int.reduceAdd, Int.toNat_natCast, List.isEmpty_map, hsl]) (by first | rfl | simp (maxSteps := 1000000) +contextual -implicitDefEqProofs only [go_sem, R_c, G_c, D_c, DG_c, G_cf, G_cv, D_cf, DG_cf, E_c, E_cf, E_a, D_ap, D_mm, D_al, D_ldm, E_ap, E_mm, Nat.reduceEqDiff, Nat.reduceAdd, Nat.reduceLeDiff, Nat.reduceSub, Nat.reduceLT, Nat.reduceMul, Int.reduceToNat, Int.reduceEq, ↓reduceIte, reduceCtorEq, Bool.false_and, Bool.and_false, Bool.false_eq_true, Bool.true_or, Bool.or_true, Bool.false_or, Bool.or_false, Nat.reduceBEq, Int.reduceBEq, Int.reduceBNe, Int.reduceLT, Int.reduceLE, Int.reduceMul, Int.reduceAdd, Int.toNat_natCast, List.isEmpty_map, hsl, Mg.c])
        simp (maxSteps := 1000000) +contextual -implicitDefEqProofs only [go_sem, R_c, G_c, D_c, DG_c, G_cf, G_cv, D_cf, DG_cf, E_c, E_cf, E_a, D_ap, D_mm, D_al, D_ldm, E_ap, E_mm, Nat.reduceEqDiff, Nat.reduceAdd, Nat.reduceLeDiff, Nat.reduceSub, Nat.reduceLT, Nat.reduceMul, Int.reduceToNat, Int.reduceEq, ↓reduceIte, reduceCtorEq, Bool.false_and, Bool.and_false, Bool.false_eq_true, Bool.true_or, Bool.or_true, Bool.false_or, Bool.or_false, Nat.reduceBEq, Int.reduceBEq, Int.reduceBNe, Int.reduceLT, Int.reduceLE, Int.reduceMul, Int.reduceAdd, Int.toNat_natCast, List.isEmpty_map, k2, f1]
      · simp (maxSteps := 1000000) +contextual -implicitDefEqProofs only [go_sem, R_c, G_c, D_c, DG_c, G_cf, G_cv, D_cf, DG_cf, E_c, E_cf, E_a, D_ap, D_mm, D_al, D_ldm, E_ap, E_mm, Nat.reduceEqDiff, Nat.reduceAdd, Nat.reduceLeDiff, Nat.reduceSub, Nat.reduceLT, Nat.reduceMul, Int.reduceToNat, Int.reduceEq, ↓reduceIte, reduceCtorEq, Bool.false_and, Bool.and_false, Bool.false_eq_true, Bool.true_or, Bool.or_true, Bool.false_or, Bool.or_false, Nat.reduceBEq, Int.reduceBEq, Int.reduceBNe, Int.reduceLT, Int.reduceLE, Int.reduceMul, Int.reduceAdd, Int.toNat_natCast, List.isEmpty_map, t3, F3, ho, g2, hsl, h13, h14, h12, Mg.c]
        generalize hz : evC (EF pg) l3x1 _ = z
        obtain ⟨s', rfl, k2, f1⟩ := main hz (by first | rfl | simp (maxSteps := 1000000) +contextual -implicitDefEqProofs only [go_sem, R_c, G_c, D_c, DG_c, G_cf, G_cv, D_cf, DG_cf, E_c, E_cf, E_a, D_ap, D_mm, D_al, D_ldm, E_ap, E_mm, Nat.reduceEqDiff, Nat.reduceAdd, Nat.reduceLeDiff, Nat.reduceSub, Nat.reduceLT, Nat.reduceMul, Int.reduceToNat, Int.reduceEq, ↓reduceIte, reduceCtorEq, Bool.false_and, Bool.and_false, Bool.false_eq_true, Bool.true_or, Bool.or_true, Bool.false_or, Bool.or_false, Nat.reduceBEq, Int.reduceBEq, Int.reduceBNe, Int.reduceLT, Int.reduceLE, Int.reduceMul, Int.reduceAdd, Int.toNat_natCast, List.isEmpty_map, ho]) (by first | rfl | simp (maxSteps := 1000000) +contextual -implicitDefEqProofs only [go_sem, R_c, G_c, D_c, DG_c, G_cf, G_cv, D_cf, DG_cf, E_c, E_cf, E_a, D_ap, D_mm, D_al, D_ldm, E_ap, E_mm, Nat.reduceEqDiff, Nat.reduceAdd, Nat.reduceLeDiff, Nat.reduceSub, Nat.reduceLT, Nat.reduceMul, Int.reduceToNat, Int.reduceEq, ↓reduceIte, reduceCtorEq, Bool.false_and, Bool.and_false, Bool.false_eq_true, Bool.true_or, Bool.or_true, Bool.false_or, Bool.or_false, Nat.reduceBEq, Int.reduceBEq, Int.reduceBNe, Int.reduceLT, Int.reduceLE, Int.reduceMul, Int.reduceAdd, Int.toNat_natCast, List.isEmpty_map, g2]) rfl rfl rfl rfl rfl rfl rfl (by first | rfl | simp (maxSteps := 1000000) +contextual -implicitDefEqProofs only [go_sem, R_c, G_c, D_c, DG_c, G_cf, G_cv, D_cf, DG_cf, E_c, E_cf, E_a, D_ap, D_mm, D_al, D_ldm, E_ap, E_mm, Nat.reduceEqDiff, Nat.reduceAdd, Nat.reduceLeDiff, Nat.reduceSub, Nat.reduceLT, Nat.reduceMul, Int.reduceToNat, Int.reduceEq, ↓reduceIte, reduceCtorEq, Bool.false_and, Bool.and_false, Bool.false_eq_true, Bool.true_or, Bool.or_true, Bool.false_or, Bool.or_false, Nat.reduceBEq, Int.reduceBEq, Int.reduceBNe, Int.reduceLT, Int.reduceLE, Int.reduceMul, Int.reduceAdd, Int.toNat_natCast, List.isEmpty_map, hsl]) (by first | rfl | simp (maxSteps := 1000000) +contextual -implicitDefEqProofs only [go_sem, R_c, G_c, D_c, DG_c, G_cf, G_cv, D_cf, DG_cf, E_c, E_cf, E_a, D_ap, D_mm, D_al, D_ldm, E_ap, E_mm, Nat.reduceEqDiff, Nat.reduceAdd, Nat.reduceLeDiff, Nat.reduceSub, Nat.reduceLT, Nat.reduceMul, Int.reduceToNat, Int.reduceEq, ↓reduceIte, reduceCtorEq, Bool.false_and, Bool.and_false, Bool.false_eq_true, Bool.true_or, Bool.or_true, Bool.false_or, Bool.or_false, Nat.reduceBEq, Int.reduceBEq, Int.reduceBNe, Int.reduceLT, Int.reduceLE, Int.reduceMul, Int.reduceAdd, Int.toNat_natCast, List.isEmpty_map, hsl]) (by first | rfl | simp (maxSteps := 1000000) +contextual -implicitDefEqProofs only [go_sem, R_c, G_c, D_c, DG_c, G_cf, G_cv, D_cf, DG_cf, E_c, E_cf, E_a, D_ap, D_mm, D_al, D_ldm, E_ap, E_mm, Nat.reduceEqDiff, Nat.reduceAdd, Nat.reduceLeDiff, Nat.reduceSub, Nat.reduceLT, Nat.reduceMul, Int.reduceToNat, Int.reduceEq, ↓reduceIte, reduceCtorEq, Bool.false_and, Bool.and_false, Bool.false_eq_true, Bool.true_or, Bool.or_true, Bool.false_or, Bool.or_false, Nat.reduceBEq, Int.reduceBEq, Int.reduceBNe, Int.reduceLT, Int.reduceLE, Int.reduceMul, Int.reduceAdd, Int.toNat_natCast, List.isEmpty_map, hsl, Mg.c])
        simp (maxSteps := 1000000) +contextual -implicitDefEqProofs only [go_sem, R_c, G_c, D_c, DG_c, G_cf, G_cv, D_cf, DG_cf, E_c, E_cf, E_a, D_ap, D_mm, D_al, D_ldm, E_ap, E_mm, Nat.reduceEqDiff, Nat.reduceAdd, Nat.reduceLeDiff, Nat.reduceSub, Nat.reduceLT, Nat.reduceMul, Int.reduceToNat, Int.reduceEq, ↓reduceIte, reduceCtorEq, Bool.false_and, Bool.and_false, Bool.false_eq_true, Bool.true_or, Bool.or_true, Bool.false_or, Bool.or_false, Nat.reduceBEq, Int.reduceBEq, Int.reduceBNe, Int.reduceLT, Int.reduceLE, Int.reduceMul, Int.reduceAdd, Int.toNat_natCast, List.isEmpty_map, k2, f1]
theorem w3 (B : List Bx) (nx : Int) (l : List Og) (e : List En) (q q2 : Bool) (x : Og) (h0 : 0 ≤ nx) (hn : ∀ y ∈ l, 0 ≤ y.n) (hc : ∀ y ∈ l, ∀ c ∈ y.b, c < 256) (hne : ∀ y ∈ e, 0 ≤ y.n) (hxc : ∀ c ∈ x.b, c < 256) :
    EF pg 3 [.agg [vu nx, lst .ro 6 q (l.map Og.D), lst .ro 2 q2 (e.map En.D)], .agg [vu x.n, vi x.d, vs x.nm, lst .ro 1 x.q (x.b.map un), vi x.s, vi x.u]] B = some (vb true, B) := by
  rw [EF_call p3 rfl (by simp [F3]) (by simp (maxSteps := 1000000) +contextual -implicitDefEqProofs only [go_sem, R_c, G_c, D_c, DG_c, G_cf, G_cv, D_cf, DG_cf, E_c, E_cf, E_a, D_ap, D_mm, D_al, D_ldm, E_ap, E_mm, Nat.reduceEqDiff, Nat.reduceAdd, Nat.reduceLeDiff, Nat.reduceSub, Nat.reduceLT, Nat.reduceMul, Int.reduceToNat, Int.reduceEq, ↓reduceIte, reduceCtorEq, Bool.false_and, Bool.and_false, Bool.false_eq_true, Bool.true_or, Bool.or_true, Bool.false_or, Bool.or_false, Nat.reduceBEq, Int.reduceBEq, Int.reduceBNe, Int.reduceLT, Int.reduceLE, Int.reduceMul, Int.reduceAdd, Int.toNat_natCast, List.isEmpty_map, ])]
  have h7 := fun B => w7 B
  have h8 := fun B => w8 B nx l (e.map En.D) q q2 x
  simp only [List.length_map] at h8
  cases hlg : largeB l e.length x with
  | true =>
    rw [hlg] at h8
    simp (maxSteps := 1000000) +contextual -implicitDefEqProofs only [go_sem, R_c, G_c, D_c, DG_c, G_cf, G_cv, D_cf, DG_cf, E_c, E_cf, E_a, D_ap, D_mm, D_al, D_ldm, E_ap, E_mm, Nat.reduceEqDiff, Nat.reduceAdd, Nat.reduceLeDiff, Nat.reduceSub, Nat.reduceLT, Nat.reduceMul, Int.reduceToNat, Int.reduceEq, ↓reduceIte, reduceCtorEq, Bool.false_and, Bool.and_false, Bool.false_eq_true, Bool.true_or, Bool.or_true, Bool.false_or, Bool.or_false, Nat.reduceBEq, Int.reduceBEq, Int.reduceBNe, Int.reduceLT, Int.reduceLE, Int.reduceMul, Int.reduceAdd, Int.toNat_natCast, List.isEmpty_map, F3, c3_t, h7, h8]
  | false =>
  rw [hlg] at h8
  obtain ⟨hl, he, hb, hxb⟩ := large_no hlg
  have h9 := fun B => w9 x (by omega) hxc B
  have h10 := fun B => w10 x (by omega) hxc B
  have hsz : ((x.nm.size : Int) < 1) = ¬ ((x.nm.size : Int) ≥ 1) := by rw [eq_iff_iff]; omega
  have hb5 : ∀ m ∈ msgs x, m.b.length < 1000000 := fun m hm => by have := msgs_b hm; omega
  have hms : (msgs x).length < 1000000 := by rw [msgs_len]; simp only [nData]; omega
  cases hP : (x.n == 0 || !nmB x.nm || decide ((x.b.length : Int) > 2048)) with
  | true =>
    rw [hP] at h9
    cases p1 : (x.n == 0) with
    | true =>
      simp (maxSteps := 1000000) +contextual -implicitDefEqProofs only [go_sem, R_c, G_c, D_c, DG_c, G_cf, G_cv, D_cf, DG_cf, E_c, E_cf, E_a, D_ap, D_mm, D_al, D_ldm, E_ap, E_mm, Nat.reduceEqDiff, Nat.reduceAdd, Nat.reduceLeDiff, Nat.reduceSub, Nat.reduceLT, Nat.reduceMul, Int.reduceToNat, Int.reduceEq, ↓reduceIte, reduceCtorEq, Bool.false_and, Bool.and_false, Bool.false_eq_true, Bool.true_or, Bool.or_true, Bool.false_or, Bool.or_false, Nat.reduceBEq, Int.reduceBEq, Int.reduceBNe, Int.reduceLT, Int.reduceLE, Int.reduceMul, Int.reduceAdd, Int.toNat_natCast, List.isEmpty_map, F3, c3_t, h7, h8, h9, p1]
      exact w3t B nx l e q q2 h0 hn hc hne hl he hb _ rfl rfl (.inr rfl)
    | false =>
    cases p2 : decide ((x.nm.size : Int) < 1) with
    | true =>
      simp (maxSteps := 1000000) +contextual -implicitDefEqProofs only [go_sem, R_c, G_c, D_c, DG_c, G_cf, G_cv, D_cf, DG_cf, E_c, E_cf, E_a, D_ap, D_mm, D_al, D_ldm, E_ap, E_mm, Nat.reduceEqDiff, Nat.reduceAdd, Nat.reduceLeDiff, Nat.reduceSub, Nat.reduceLT, Nat.reduceMul, Int.reduceToNat, Int.reduceEq, ↓reduceIte, reduceCtorEq, Bool.false_and, Bool.and_false, Bool.false_eq_true, Bool.true_or, Bool.or_true, Bool.false_or, Bool.or_false, Nat.reduceBEq, Int.reduceBEq, Int.reduceBNe, Int.reduceLT, Int.reduceLE, Int.reduceMul, Int.reduceAdd, Int.toNat_natCast, List.isEmpty_map, F3, c3_t, h7, h8, h9, p1, p2]
      exact w3t B nx l e q q2 h0 hn hc hne hl he hb _ rfl rfl (.inr rfl)
    | false =>
    cases p3 : decide ((x.nm.size : Int) > 24) with
    | true =>
      simp (maxSteps := 1000000) +contextual -implicitDefEqProofs only [go_sem, R_c, G_c, D_c, DG_c, G_cf, G_cv, D_cf, DG_cf, E_c, E_cf, E_a, D_ap, D_mm, D_al, D_ldm, E_ap, E_mm, Nat.reduceEqDiff, Nat.reduceAdd, Nat.reduceLeDiff, Nat.reduceSub, Nat.reduceLT, Nat.reduceMul, Int.reduceToNat, Int.reduceEq, ↓reduceIte, reduceCtorEq, Bool.false_and, Bool.and_false, Bool.false_eq_true, Bool.true_or, Bool.or_true, Bool.false_or, Bool.or_false, Nat.reduceBEq, Int.reduceBEq, Int.reduceBNe, Int.reduceLT, Int.reduceLE, Int.reduceMul, Int.reduceAdd, Int.toNat_natCast, List.isEmpty_map, F3, c3_t, h7, h8, h9, p1, p2, p3]
      exact w3t B nx l e q q2 h0 hn hc hne hl he hb _ rfl rfl (.inr rfl)
    | false =>
      have p4 : nmB x.nm = true := by
        have := of_decide_eq_false p2
        have := of_decide_eq_false p3
        simp only [nmB, inR, Bool.and_eq_true, decide_eq_true_eq]; omega
      have p5 : decide ((x.b.length : Int) > 2048) = true := by
        rw [p1, p4] at hP
        simpa using hP
      simp (maxSteps := 1000000) +contextual -implicitDefEqProofs only [go_sem, R_c, G_c, D_c, DG_c, G_cf, G_cv, D_cf, DG_cf, E_c, E_cf, E_a, D_ap, D_mm, D_al, D_ldm, E_ap, E_mm, Nat.reduceEqDiff, Nat.reduceAdd, Nat.reduceLeDiff, Nat.reduceSub, Nat.reduceLT, Nat.reduceMul, Int.reduceToNat, Int.reduceEq, ↓reduceIte, reduceCtorEq, Bool.false_and, Bool.and_false, Bool.false_eq_true, Bool.true_or, Bool.or_true, Bool.false_or, Bool.or_false, Nat.reduceBEq, Int.reduceBEq, Int.reduceBNe, Int.reduceLT, Int.reduceLE, Int.reduceMul, Int.reduceAdd, Int.toNat_natCast, List.isEmpty_map, F3, c3_t, h7, h8, h9, p1, p2, p3, p5]
      exact w3t B nx l e q q2 h0 hn hc hne hl he hb _ rfl rfl (.inr rfl)
  | false =>
    rw [hP] at h9
    simp only [Bool.or_eq_false_iff, Bool.not_eq_false'] at hP
    obtain ⟨⟨p1, p2⟩, p3⟩ := hP
    have p2a : decide ((x.nm.size : Int) < 1) = false := by simp only [nmB, inR, Bool.and_eq_true, decide_eq_true_eq] at p2; exact decide_eq_false (by omega)
    have p2b : decide ((x.nm.size : Int) > 24) = false := by simp only [nmB, inR, Bool.and_eq_true, decide_eq_true_eq] at p2; exact decide_eq_false (by omega)
    simp (maxSteps := 1000000) +contextual -implicitDefEqProofs only [go_sem, R_c, G_c, D_c, DG_c, G_cf, G_cv, D_cf, DG_cf, E_c, E_cf, E_a, D_ap, D_mm, D_al, D_ldm, E_ap, E_mm, Nat.reduceEqDiff, Nat.reduceAdd, Nat.reduceLeDiff, Nat.reduceSub, Nat.reduceLT, Nat.reduceMul, Int.reduceToNat, Int.reduceEq, ↓reduceIte, reduceCtorEq, Bool.false_and, Bool.and_false, Bool.false_eq_true, Bool.true_or, Bool.or_true, Bool.false_or, Bool.or_false, Nat.reduceBEq, Int.reduceBEq, Int.reduceBNe, Int.reduceLT, Int.reduceLE, Int.reduceMul, Int.reduceAdd, Int.toNat_natCast, List.isEmpty_map, F3, c3_t, h7, h8, h9, h10, p1, p2a, p2b, p3, bne_self_eq_false]
    generalize hz : evC (EF pg) l3x0 _ = z
    obtain ⟨s', rfl, g1, g2, g3⟩ := l3a B x (msgs x) hb5 hms [vu nx, lst .ro 6 q (l.map Og.D), lst .ro 2 q2 (e.map En.D)] (by simp (maxSteps := 1000000) +contextual -implicitDefEqProofs only [go_sem, R_c, G_c, D_c, DG_c, G_cf, G_cv, D_cf, DG_cf, E_c, E_cf, E_a, D_ap, D_mm, D_al, D_ldm, E_ap, E_mm, Nat.reduceEqDiff, Nat.reduceAdd, Nat.reduceLeDiff, Nat.reduceSub, Nat.reduceLT, Nat.reduceMul, Int.reduceToNat, Int.reduceEq, ↓reduceIte, reduceCtorEq, Bool.false_and, Bool.and_false, Bool.false_eq_true, Bool.true_or, Bool.or_true, Bool.false_or, Bool.or_false, Nat.reduceBEq, Int.reduceBEq, Int.reduceBNe, Int.reduceLT, Int.reduceLE, Int.reduceMul, Int.reduceAdd, Int.toNat_natCast, List.isEmpty_map, ]) (msgs x).length 0 hz rfl (by omega) rfl rfl rfl rfl rfl rfl
    simp (maxSteps := 1000000) +contextual -implicitDefEqProofs only [go_sem, R_c, G_c, D_c, DG_c, G_cf, G_cv, D_cf, DG_cf, E_c, E_cf, E_a, D_ap, D_mm, D_al, D_ldm, E_ap, E_mm, Nat.reduceEqDiff, Nat.reduceAdd, Nat.reduceLeDiff, Nat.reduceSub, Nat.reduceLT, Nat.reduceMul, Int.reduceToNat, Int.reduceEq, ↓reduceIte, reduceCtorEq, Bool.false_and, Bool.and_false, Bool.false_eq_true, Bool.true_or, Bool.or_true, Bool.false_or, Bool.or_false, Nat.reduceBEq, Int.reduceBEq, Int.reduceBNe, Int.reduceLT, Int.reduceLE, Int.reduceMul, Int.reduceAdd, Int.toNat_natCast, List.isEmpty_map, ]
    exact w3t B nx l e q q2 h0 hn hc hne hl he hb [] g1 g2 (.inl g3)
end Go.Proofs.Ytlhjdikklmkihaa.Ev
