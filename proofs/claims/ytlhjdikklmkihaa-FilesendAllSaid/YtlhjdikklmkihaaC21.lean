/- The sum of 32 bits, as the program and as the document reckon it. Conditions: none. -/
import Derived.Test.YtlhjdikklmkihaaB21
set_option linter.all false
namespace Go.Proofs.Ytlhjdikklmkihaa.Ev
open Go
def crc1 (s : Nat) : Nat := if s % 2 = 1 then s / 2 ^^^ 2197175160 else s / 2
def itn (f : Nat → Nat) : Nat → Nat → Nat
  | 0, s => s
  | k + 1, s => itn f k (f s)
def crcB (s c : Nat) : Nat := itn crc1 8 (s ^^^ c)
def crcN (b : List Nat) : Nat := b.foldl crcB 4294967295 ^^^ 4294967295
theorem crc1_lt {s : Nat} (h : s < 4294967296) : crc1 s < 4294967296 := by
  unfold crc1
  split
  · exact Nat.xor_lt_two_pow (n := 32) (by omega) (by omega)
  · omega
theorem it_lt : ∀ (k : Nat) {s : Nat}, s < 4294967296 → itn crc1 k s < 4294967296
  | 0, _, h => h
  | k + 1, _, h => it_lt k (crc1_lt h)
theorem crcB_lt {s c : Nat} (h : s < 4294967296) (hc : c < 256) : crcB s c < 4294967296 := it_lt 8 (Nat.xor_lt_two_pow (n := 32) h (by omega))
theorem fold_lt : ∀ {b : List Nat} {s : Nat}, s < 4294967296 → (∀ c ∈ b, c < 256) → b.foldl crcB s < 4294967296
  | [], _, h, _ => h
  | c :: b, _, h, hb => fold_lt (b := b) (crcB_lt h (hb c (by simp))) fun c' hc => hb c' (by simp [hc])
theorem x32 {a b : Nat} (ha : a < 4294967296) (hb : b < 4294967296) : bz .xor .u32 a b = some (.int .u32 ((a ^^^ b : Nat) : Int)) := by
  have h1 : (BitVec.ofInt 32 (a : Int)).toNat = a := by rw [BitVec.toNat_ofInt]; simp; omega
  have h2 : (BitVec.ofInt 32 (b : Int)).toNat = b := by rw [BitVec.toNat_ofInt]; simp; omega
  show some (Value.int .u32 (IntKind.u32.wrap ((BitVec.ofInt 32 (a : Int) ^^^ BitVec.ofInt 32 (b : Int)).toNat : Int))) = _
  rw [BitVec.toNat_xor, h1, h2]
  have := Nat.xor_lt_two_pow (n := 32) ha hb
  rw [wu32 (by omega)]
theorem x64 {a b : Nat} (ha : a < 4294967296) (hb : b < 4294967296) : bz .xor .u64 a b = some (.int .u64 ((a ^^^ b : Nat) : Int)) := by
  have h1 : (BitVec.ofInt 64 (a : Int)).toNat = a := by rw [BitVec.toNat_ofInt]; simp; omega
  have h2 : (BitVec.ofInt 64 (b : Int)).toNat = b := by rw [BitVec.toNat_ofInt]; simp; omega
  show some (Value.int .u64 (IntKind.u64.wrap ((BitVec.ofInt 64 (a : Int) ^^^ BitVec.ofInt 64 (b : Int)).toNat : Int))) = _
  rw [BitVec.toNat_xor, h1, h2]
  have := Nat.xor_lt_two_pow (n := 32) ha hb
  rw [wu64 (by omega)]
theorem a32 {a : Nat} (ha : a < 4294967296) : bz .and .u32 a 1 = some (.int .u32 ((a % 2 : Nat) : Int)) := by
  have h1 : (BitVec.ofInt 32 (a : Int)).toNat = a := by rw [BitVec.toNat_ofInt]; simp; omega
  have h2 : (BitVec.ofInt 32 1).toNat = 1 := rfl
  show some (Value.int .u32 (IntKind.u32.wrap ((BitVec.ofInt 32 (a : Int) &&& BitVec.ofInt 32 1).toNat : Int))) = _
  rw [BitVec.toNat_and, h1, h2, Nat.and_one_is_mod]
  rw [wu32 (by omega)]
abbrev vg (n : Int) : D := .v (.int .u64 n)
theorem shr1 {c : Nat} : ((c : Int)).fdiv (2 ^ min 1 32) = ((c / 2 : Nat) : Int) := by
  rw [Int.fdiv_eq_ediv_of_nonneg _ (by decide)]
  show (c : Int) / 2 = _
  omega
theorem l50i (B : List Bx) (xs : D) (n j : Int) (hx : xs.inn B.length [] = true) : ∀ (k i c : Nat) {s : S} {r : Option (Ex × S)}, evC (EF pg) l50x0 s = r → s.o = B → i + k = 8 → c < 4294967296 →
    get 1 s.e = vu 2197175160 → get 5 s.e = vu c → get 11 s.e = xs → get 12 s.e = vi n → get 13 s.e = vi j → get 21 s.e = vi i →
    ∃ s', r = some (.ex 2, s') ∧ s'.o = B ∧ get 1 s'.e = vu 2197175160 ∧ get 5 s'.e = vu (itn crc1 k c) ∧ get 11 s'.e = xs ∧ get 12 s'.e = vi n ∧ get 13 s'.e = vi j := by
  intro k
  induction k with
  | zero =>
    intro i c s r hr ho hi hc h1 h5 h11 h12 h13 h21
    obtain rfl : i = 8 := by omega
    rw [lp_n (L := l50x0) rfl] at hr
    have hd : decide (((8 : Nat) : Int) < 8) = false := by decide
    simp (maxSteps := 1000000) +contextual -implicitDefEqProofs only [go_sem, R_c, G_c, D_c, DG_c, G_cf, G_cv, D_cf, DG_cf, E_c, E_cf, E_a, D_ap, D_mm, D_al, D_ldm, E_ap, E_mm, Nat.reduceEqDiff, Nat.reduceAdd, Nat.reduceLeDiff, Nat.reduceSub, Nat.reduceLT, Nat.reduceMul, Int.reduceToNat, Int.reduceEq, ↓reduceIte, reduceCtorEq, Bool.false_and, Bool.and_false, Bool.false_eq_true, Bool.true_or, Bool.or_true, Bool.false_or, Bool.or_false, Nat.reduceBEq, Int.reduceBEq, Int.reduceBNe, Int.reduceLT, Int.reduceLE, Int.reduceMul, Int.reduceAdd, Int.toNat_natCast, List.isEmpty_map, b50x0, h1, h5, h11, h12, h13, h21, ho, hx, hd] at hr
    subst hr
    exact ⟨_, rfl, rfl, rfl, rfl, rfl, rfl, rfl⟩
  | succ k ih =>
    intro i c s r hr ho hi hc h1 h5 h11 h12 h13 h21
    have hd : decide ((i : Int) < 8) = true := by simp; omega
    have hw : IntKind.i64.wrap ((i : Int) + 1) = ((i + 1 : Nat) : Int) := by rw [wi64 (by omega)]; omega
    have hx2 : bz .xor .u32 ((c / 2 : Nat) : Int) 2197175160 = some (.int .u32 ((c / 2 ^^^ 2197175160 : Nat) : Int)) := x32 (a := c / 2) (b := 2197175160) (by omega) (by omega)
    rw [lp_n (L := l50x0) rfl] at hr
    by_cases hm : c % 2 = 1
    · have hb : (((c % 2 : Nat) : Int) == 1) = true := by rw [hm]; rfl
      simp (maxSteps := 1000000) +contextual -implicitDefEqProofs only [go_sem, R_c, G_c, D_c, DG_c, G_cf, G_cv, D_cf, DG_cf, E_c, E_cf, E_a, D_ap, D_mm, D_al, D_ldm, E_ap, E_mm, Nat.reduceEqDiff, Nat.reduceAdd, Nat.reduceLeDiff, Nat.reduceSub, Nat.reduceLT, Nat.reduceMul, Int.reduceToNat, Int.reduceEq, ↓reduceIte, reduceCtorEq, Bool.false_and, Bool.and_false, Bool.false_eq_true, Bool.true_or, Bool.or_true, Bool.false_or, Bool.or_false, Nat.reduceBEq, Int.reduceBEq, Int.reduceBNe, Int.reduceLT, Int.reduceLE, Int.reduceMul, Int.reduceAdd, Int.toNat_natCast, List.isEmpty_map, b50x0, h1, h5, h11, h12, h13, h21, ho, hx, hd, hw, a32 hc, bsh, shr1, hx2, hb] at hr
      have e : crc1 c = c / 2 ^^^ 2197175160 := if_pos hm
      have := ih (i + 1) (crc1 c) hr rfl (by omega) (crc1_lt hc) rfl (by rw [e]; rfl) rfl rfl rfl rfl
      exact this
    · have hb : (((c % 2 : Nat) : Int) == 1) = false := by have : c % 2 = 0 := by omega
                                                           rw [this]; rfl
      simp (maxSteps := 1000000) +contextual -implicitDefEqProofs only [go_sem, R_c, G_c, D_c, DG_c, G_cf, G_cv, D_cf, DG_cf, E_c, E_cf, E_a, D_ap, D_mm, D_al, D_ldm, E_ap, E_mm, Nat.reduceEqDiff, Nat.reduceAdd, Nat.reduceLeDiff, Nat.reduceSub, Nat.reduceLT, Nat.reduceMul, Int.reduceToNat, Int.reduceEq, ↓reduceIte, reduceCtorEq, Bool.false_and, Bool.and_false, Bool.false_eq_true, Bool.true_or, Bool.or_true, Bool.false_or, Bool.or_false, Nat.reduceBEq, Int.reduceBEq, Int.reduceBNe, Int.reduceLT, Int.reduceLE, Int.reduceMul, Int.reduceAdd, Int.toNat_natCast, List.isEmpty_map, b50x0, h1, h5, h11, h12, h13, h21, ho, hx, hd, hw, a32 hc, bsh, shr1, hx2, hb] at hr
      have e : crc1 c = c / 2 := if_neg hm
      have := ih (i + 1) (crc1 c) hr rfl (by omega) (crc1_lt hc) rfl (by rw [e]; rfl) rfl rfl rfl rfl
      exact this
theorem l50o (B : List Bx) (q : Bool) (b : List Nat) (hl : b.length < 1099511627776) (hb : ∀ c ∈ b, c < 256) : ∀ (k i c : Nat) {s : S} {r : Option (Ex × S)}, evC (EF pg) l50x1 s = r → s.o = B → i + k = b.length → c < 4294967296 →
    get 1 s.e = vu 2197175160 → get 5 s.e = vu c → get 11 s.e = lst .ro 1 q (b.map un) → get 12 s.e = vi b.length → get 13 s.e = vi i →
    ∃ s', r = some (.ex 0, s') ∧ s'.o = B ∧ get 5 s'.e = vu ((b.drop i).foldl crcB c : Nat) := by
  intro k
  induction k with
  | zero =>
    intro i c s r hr ho hi hc h1 h5 h11 h12 h13
    have hd : decide ((i : Int) < (b.length : Int)) = false := by simp; omega
    rw [lp_n (L := l50x1) rfl] at hr
    simp (maxSteps := 1000000) +contextual -implicitDefEqProofs only [go_sem, R_c, G_c, D_c, DG_c, G_cf, G_cv, D_cf, DG_cf, E_c, E_cf, E_a, D_ap, D_mm, D_al, D_ldm, E_ap, E_mm, Nat.reduceEqDiff, Nat.reduceAdd, Nat.reduceLeDiff, Nat.reduceSub, Nat.reduceLT, Nat.reduceMul, Int.reduceToNat, Int.reduceEq, ↓reduceIte, reduceCtorEq, Bool.false_and, Bool.and_false, Bool.false_eq_true, Bool.true_or, Bool.or_true, Bool.false_or, Bool.or_false, Nat.reduceBEq, Int.reduceBEq, Int.reduceBNe, Int.reduceLT, Int.reduceLE, Int.reduceMul, Int.reduceAdd, Int.toNat_natCast, List.isEmpty_map, b50x1, h1, h5, h11, h12, h13, ho, hd] at hr
    subst hr
    exact ⟨_, rfl, rfl, by rw [List.drop_of_length_le (by omega)]; rfl⟩
  | succ k ih =>
    intro i c s r hr ho hi hc h1 h5 h11 h12 h13
    have hd : decide ((i : Int) < (b.length : Int)) = true := by simp; omega
    have hw : IntKind.i64.wrap ((i : Int) + 1) = ((i + 1 : Nat) : Int) := by rw [wi64 (by omega)]; omega
    obtain ⟨x, hx⟩ : ∃ x, b[i]? = some x := ⟨_, List.getElem?_eq_getElem (by omega)⟩
    have hxb := hb x (List.mem_of_getElem? hx)
    have hwx : IntKind.u32.wrap (x : Int) = x := wu32 (by omega)
    have hx2 := x32 (a := c) (b := x) hc (by omega)
    rw [lp_n (L := l50x1) rfl] at hr
    simp (maxSteps := 1000000) +contextual -implicitDefEqProofs only [go_sem, R_c, G_c, D_c, DG_c, G_cf, G_cv, D_cf, DG_cf, E_c, E_cf, E_a, D_ap, D_mm, D_al, D_ldm, E_ap, E_mm, Nat.reduceEqDiff, Nat.reduceAdd, Nat.reduceLeDiff, Nat.reduceSub, Nat.reduceLT, Nat.reduceMul, Int.reduceToNat, Int.reduceEq, ↓reduceIte, reduceCtorEq, Bool.false_and, Bool.and_false, Bool.false_eq_true, Bool.true_or, Bool.or_true, Bool.false_or, Bool.or_false, Nat.reduceBEq, Int.reduceBEq, Int.reduceBNe, Int.reduceLT, Int.reduceLE, Int.reduceMul, Int.reduceAdd, Int.toNat_natCast, List.isEmpty_map, b50x1, h1, h5, h11, h12, h13, ho, hd, hx, hwx, hx2, List.getElem?_map] at hr
    generalize hz : evC (EF pg) l50x0 _ = z at hr
    obtain ⟨s', rfl, g1, g2, g3, g4, g5, g6⟩ := l50i B (lst .ro 1 q (b.map un)) b.length i (by simp (maxSteps := 1000000) +contextual -implicitDefEqProofs only [go_sem, R_c, G_c, D_c, DG_c, G_cf, G_cv, D_cf, DG_cf, E_c, E_cf, E_a, D_ap, D_mm, D_al, D_ldm, E_ap, E_mm, Nat.reduceEqDiff, Nat.reduceAdd, Nat.reduceLeDiff, Nat.reduceSub, Nat.reduceLT, Nat.reduceMul, Int.reduceToNat, Int.reduceEq, ↓reduceIte, reduceCtorEq, Bool.false_and, Bool.and_false, Bool.false_eq_true, Bool.true_or, Bool.or_true, Bool.false_or, Bool.or_false, Nat.reduceBEq, Int.reduceBEq, Int.reduceBNe, Int.reduceLT, Int.reduceLE, Int.reduceMul, Int.reduceAdd, Int.toNat_natCast, List.isEmpty_map, ]) 8 0 (c ^^^ x) hz rfl rfl (Nat.xor_lt_two_pow (n := 32) hc (by omega)) rfl rfl rfl rfl rfl rfl
    simp (maxSteps := 1000000) +contextual -implicitDefEqProofs only [go_sem, R_c, G_c, D_c, DG_c, G_cf, G_cv, D_cf, DG_cf, E_c, E_cf, E_a, D_ap, D_mm, D_al, D_ldm, E_ap, E_mm, Nat.reduceEqDiff, Nat.reduceAdd, Nat.reduceLeDiff, Nat.reduceSub, Nat.reduceLT, Nat.reduceMul, Int.reduceToNat, Int.reduceEq, ↓reduceIte, reduceCtorEq, Bool.false_and, Bool.and_false, Bool.false_eq_true, Bool.true_or, Bool.or_true, Bool.false_or, Bool.or_false, Nat.reduceBEq, Int.reduceBEq, Int.reduceBNe, Int.reduceLT, Int.reduceLE, Int.reduceMul, Int.reduceAdd, Int.toNat_natCast, List.isEmpty_map, g1, g2, g3, g4, g5, g6, hw] at hr
    have := ih (i + 1) (crcB c x) hr g1 (by omega) (crcB_lt hc hxb) g2 g3 g4 g5 rfl
    rwa [show b.drop i = x :: b.drop (i + 1) from (List.drop_eq_getElem_cons (by omega)).trans (by rw [(List.getElem?_eq_some_iff.1 hx).2])]
theorem w50 (q : Bool) (b : List Nat) (hl : b.length < 1099511627776) (hb : ∀ c ∈ b, c < 256) (B : List Bx) : EF pg 50 [lst .ro 1 q (b.map un), vu 2197175160] B = some (vu (crcN b), B) := by
  rw [EF_call p50 rfl (by simp [F50]) (by simp (maxSteps := 1000000) +contextual -implicitDefEqProofs only [go_sem, R_c, G_c, D_c, DG_c, G_cf, G_cv, D_cf, DG_cf, E_c, E_cf, E_a, D_ap, D_mm, D_al, D_ldm, E_ap, E_mm, Nat.reduceEqDiff, Nat.reduceAdd, Nat.reduceLeDiff, Nat.reduceSub, Nat.reduceLT, Nat.reduceMul, Int.reduceToNat, Int.reduceEq, ↓reduceIte, reduceCtorEq, Bool.false_and, Bool.and_false, Bool.false_eq_true, Bool.true_or, Bool.or_true, Bool.false_or, Bool.or_false, Nat.reduceBEq, Int.reduceBEq, Int.reduceBNe, Int.reduceLT, Int.reduceLE, Int.reduceMul, Int.reduceAdd, Int.toNat_natCast, List.isEmpty_map, ])]
  have h0 : IntKind.u32.wrap 0 = 0 := rfl
  have h1 : bz .xor .u32 4294967295 0 = some (.int .u32 4294967295) := x32 (a := 4294967295) (b := 0) (by omega) (by omega)
  have hlt := fold_lt (b := b) (s := 4294967295) (by omega) hb
  have h2 : bz .xor .u32 4294967295 ((b.foldl crcB 4294967295 : Nat) : Int) = some (.int .u32 (crcN b)) := by
    have := x32 (a := 4294967295) (b := b.foldl crcB 4294967295) (by omega) hlt
    unfold crcN
    rw [Nat.xor_comm]; exact this
  have h3 : IntKind.u32.signed = false := rfl
  have h4 : IntKind.u32.max = 4294967295 := rfl
  simp (maxSteps := 1000000) +contextual -implicitDefEqProofs only [go_sem, R_c, G_c, D_c, DG_c, G_cf, G_cv, D_cf, DG_cf, E_c, E_cf, E_a, D_ap, D_mm, D_al, D_ldm, E_ap, E_mm, Nat.reduceEqDiff, Nat.reduceAdd, Nat.reduceLeDiff, Nat.reduceSub, Nat.reduceLT, Nat.reduceMul, Int.reduceToNat, Int.reduceEq, ↓reduceIte, reduceCtorEq, Bool.false_and, Bool.and_false, Bool.false_eq_true, Bool.true_or, Bool.or_true, Bool.false_or, Bool.or_false, Nat.reduceBEq, Int.reduceBEq, Int.reduceBNe, Int.reduceLT, Int.reduceLE, Int.reduceMul, Int.reduceAdd, Int.toNat_natCast, List.isEmpty_map, F50, c50, h0, h1, h3, h4]
  generalize hz : evC (EF pg) l50x1 _ = z
  obtain ⟨s', rfl, g1, g2⟩ := l50o B q b hl hb b.length 0 4294967295 hz rfl (by omega) (by omega) rfl rfl rfl rfl rfl
  rw [List.drop_zero] at g2
  simp (maxSteps := 1000000) +contextual -implicitDefEqProofs only [go_sem, R_c, G_c, D_c, DG_c, G_cf, G_cv, D_cf, DG_cf, E_c, E_cf, E_a, D_ap, D_mm, D_al, D_ldm, E_ap, E_mm, Nat.reduceEqDiff, Nat.reduceAdd, Nat.reduceLeDiff, Nat.reduceSub, Nat.reduceLT, Nat.reduceMul, Int.reduceToNat, Int.reduceEq, ↓reduceIte, reduceCtorEq, Bool.false_and, Bool.and_false, Bool.false_eq_true, Bool.true_or, Bool.or_true, Bool.false_or, Bool.or_false, Nat.reduceBEq, Int.reduceBEq, Int.reduceBNe, Int.reduceLT, Int.reduceLE, Int.reduceMul, Int.reduceAdd, Int.toNat_natCast, List.isEmpty_map, g1, g2, h2, h3, h4]
theorem w26 (q : Bool) (b : List Nat) (hl : b.length < 1099511627776) (hb : ∀ c ∈ b, c < 256) (B : List Bx) : EF pg 26 [lst .ro 1 q (b.map un)] B = some (vu (crcN b), B) := by
  rw [EF_call p26 rfl (by simp [F26]) (by simp (maxSteps := 1000000) +contextual -implicitDefEqProofs only [go_sem, R_c, G_c, D_c, DG_c, G_cf, G_cv, D_cf, DG_cf, E_c, E_cf, E_a, D_ap, D_mm, D_al, D_ldm, E_ap, E_mm, Nat.reduceEqDiff, Nat.reduceAdd, Nat.reduceLeDiff, Nat.reduceSub, Nat.reduceLT, Nat.reduceMul, Int.reduceToNat, Int.reduceEq, ↓reduceIte, reduceCtorEq, Bool.false_and, Bool.and_false, Bool.false_eq_true, Bool.true_or, Bool.or_true, Bool.false_or, Bool.or_false, Nat.reduceBEq, Int.reduceBEq, Int.reduceBNe, Int.reduceLT, Int.reduceLE, Int.reduceMul, Int.reduceAdd, Int.toNat_natCast, List.isEmpty_map, ])]
  simp (maxSteps := 1000000) +contextual -implicitDefEqProofs only [go_sem, R_c, G_c, D_c, DG_c, G_cf, G_cv, D_cf, DG_cf, E_c, E_cf, E_a, D_ap, D_mm, D_al, D_ldm, E_ap, E_mm, Nat.reduceEqDiff, Nat.reduceAdd, Nat.reduceLeDiff, Nat.reduceSub, Nat.reduceLT, Nat.reduceMul, Int.reduceToNat, Int.reduceEq, ↓reduceIte, reduceCtorEq, Bool.false_and, Bool.and_false, Bool.false_eq_true, Bool.true_or, Bool.or_true, Bool.false_or, Bool.or_false, Nat.reduceBEq, Int.reduceBEq, Int.reduceBNe, Int.reduceLT, Int.reduceLE, Int.reduceMul, Int.reduceAdd, Int.toNat_natCast, List.isEmpty_map, F26, c26, w50 q b hl hb]
theorem q26 (q : Bool) (b : List Nat) (hl : b.length < 1099511627776) (hb : ∀ c ∈ b, c < 256) : qv (EF pg) 26 [lst .ro 1 q (b.map un)] = some (vu (crcN b)) := qv_of fun B => w26 q b hl hb B
theorem l54i (B : List Bx) (xs : D) (j : Int) (hx : xs.inn B.length [] = true) : ∀ (k i c : Nat) {s : S} {r : Option (Ex × S)}, evC (EF pg) l54x0 s = r → s.o = B → i + k = 8 → c < 4294967296 →
    get 0 s.e = xs → get 5 s.e = vg 4294967295 → get 6 s.e = vg 2197175160 → get 7 s.e = vg c → get 8 s.e = vi j → get 9 s.e = vi i →
    ∃ s', r = some (.ex 2, s') ∧ s'.o = B ∧ get 0 s'.e = xs ∧ get 5 s'.e = vg 4294967295 ∧ get 6 s'.e = vg 2197175160 ∧ get 7 s'.e = vg (itn crc1 k c) ∧ get 8 s'.e = vi j := by
  intro k
  induction k with
  | zero =>
    intro i c s r hr ho hi hc h1 h5 h11 h12 h13 h21
    obtain rfl : i = 8 := by omega
    rw [lp_n (L := l54x0) rfl] at hr
    have hd : decide (((8 : Nat) : Int) < 8) = false := by decide
    simp (maxSteps := 1000000) +contextual -implicitDefEqProofs only [go_sem, R_c, G_c, D_c, DG_c, G_cf, G_cv, D_cf, DG_cf, E_c, E_cf, E_a, D_ap, D_mm, D_al, D_ldm, E_ap, E_mm, Nat.reduceEqDiff, Nat.reduceAdd, Nat.reduceLeDiff, Nat.reduceSub, Nat.reduceLT, Nat.reduceMul, Int.reduceToNat, Int.reduceEq, ↓reduceIte, reduceCtorEq, Bool.false_and, Bool.and_false, Bool.false_eq_true, Bool.true_or, Bool.or_true, Bool.false_or, Bool.or_false, Nat.reduceBEq, Int.reduceBEq, Int.reduceBNe, Int.reduceLT, Int.reduceLE, Int.reduceMul, Int.reduceAdd, Int.toNat_natCast, List.isEmpty_map, b54x0, h1, h5, h11, h12, h13, h21, ho, hx, hd] at hr
    subst hr
    exact ⟨_, rfl, rfl, rfl, rfl, rfl, rfl, rfl⟩
  | succ k ih =>
    intro i c s r hr ho hi hc h1 h5 h11 h12 h13 h21
    have hd : decide ((i : Int) < 8) = true := by simp; omega
    have hw : IntKind.i64.wrap ((i : Int) + 1) = ((i + 1 : Nat) : Int) := by rw [wi64 (by omega)]; omega
    have hx2 : bz .xor .u64 ((c / 2 : Nat) : Int) 2197175160 = some (.int .u64 ((c / 2 ^^^ 2197175160 : Nat) : Int)) := x64 (a := c / 2) (b := 2197175160) (by omega) (by omega)
    have hrem : (c : Int).tmod 2 = ((c % 2 : Nat) : Int) := by rw [tmod0 (by omega)]; omega
    rw [lp_n (L := l54x0) rfl] at hr
    by_cases hm : c % 2 = 1
    · have hb : (((c % 2 : Nat) : Int) == 1) = true := by rw [hm]; rfl
      have hs : IntKind.u64.wrap ((IntKind.u64.wrap ((c : Int) - 1)).tdiv 2) = ((c / 2 : Nat) : Int) := by
        rw [wu64 (n := (c : Int) - 1) (by omega), tdiv0 (by omega), wu64 (by omega)]; omega
      simp (maxSteps := 1000000) +contextual -implicitDefEqProofs only [go_sem, R_c, G_c, D_c, DG_c, G_cf, G_cv, D_cf, DG_cf, E_c, E_cf, E_a, D_ap, D_mm, D_al, D_ldm, E_ap, E_mm, Nat.reduceEqDiff, Nat.reduceAdd, Nat.reduceLeDiff, Nat.reduceSub, Nat.reduceLT, Nat.reduceMul, Int.reduceToNat, Int.reduceEq, ↓reduceIte, reduceCtorEq, Bool.false_and, Bool.and_false, Bool.false_eq_true, Bool.true_or, Bool.or_true, Bool.false_or, Bool.or_false, Nat.reduceBEq, Int.reduceBEq, Int.reduceBNe, Int.reduceLT, Int.reduceLE, Int.reduceMul, Int.reduceAdd, Int.toNat_natCast, List.isEmpty_map, b54x0, h1, h5, h11, h12, h13, h21, ho, hx, hd, hw, hx2, hb, hrem, hs] at hr
      have e : crc1 c = c / 2 ^^^ 2197175160 := if_pos hm
      have := ih (i + 1) (crc1 c) hr rfl (by omega) (crc1_lt hc) rfl rfl rfl (by rw [e]; rfl) rfl rfl
      exact this
    · have hb : (((c % 2 : Nat) : Int) == 1) = false := by
        have : c % 2 = 0 := by omega
        rw [this]; rfl
      have hs : IntKind.u64.wrap ((c : Int).tdiv 2) = ((c / 2 : Nat) : Int) := by
        rw [tdiv0 (by omega), wu64 (by omega)]; omega
      simp (maxSteps := 1000000) +contextual -implicitDefEqProofs only [go_sem, R_c, G_c, D_c, DG_c, G_cf, G_cv, D_cf, DG_cf, E_c, E_cf, E_a, D_ap, D_mm, D_al, D_ldm, E_ap, E_mm, Nat.reduceEqDiff, Nat.reduceAdd, Nat.reduceLeDiff, Nat.reduceSub, Nat.reduceLT, Nat.reduceMul, Int.reduceToNat, Int.reduceEq, ↓reduceIte, reduceCtorEq, Bool.false_and, Bool.and_false, Bool.false_eq_true, Bool.true_or, Bool.or_true, Bool.false_or, Bool.or_false, Nat.reduceBEq, Int.reduceBEq, Int.reduceBNe, Int.reduceLT, Int.reduceLE, Int.reduceMul, Int.reduceAdd, Int.toNat_natCast, List.isEmpty_map, b54x0, h1, h5, h11, h12, h13, h21, ho, hx, hd, hw, hb, hrem, hs] at hr
      have e : crc1 c = c / 2 := if_neg hm
      have := ih (i + 1) (crc1 c) hr rfl (by omega) (crc1_lt hc) rfl rfl rfl (by rw [e]; rfl) rfl rfl
      exact this
theorem l54o (B : List Bx) (q : Bool) (b : List Nat) (hl : b.length < 1099511627776) (hb : ∀ c ∈ b, c < 256) : ∀ (k i c : Nat) {s : S} {r : Option (Ex × S)}, evC (EF pg) l54x1 s = r → s.o = B → i + k = b.length → c < 4294967296 →
    get 0 s.e = lst .ro 1 q (b.map un) → get 5 s.e = vg 4294967295 → get 6 s.e = vg 2197175160 → get 7 s.e = vg c → get 8 s.e = vi i →
    ∃ s', r = some (.ex 0, s') ∧ s'.o = B ∧ get 7 s'.e = vg ((b.drop i).foldl crcB c : Nat) ∧ get 5 s'.e = vg 4294967295 := by
  intro k
  induction k with
  | zero =>
    intro i c s r hr ho hi hc h1 h5 h11 h12 h13
    have hd : decide ((i : Int) < (b.length : Int)) = false := by simp; omega
    rw [lp_n (L := l54x1) rfl] at hr
    simp (maxSteps := 1000000) +contextual -implicitDefEqProofs only [go_sem, R_c, G_c, D_c, DG_c, G_cf, G_cv, D_cf, DG_cf, E_c, E_cf, E_a, D_ap, D_mm, D_al, D_ldm, E_ap, E_mm, Nat.reduceEqDiff, Nat.reduceAdd, Nat.reduceLeDiff, Nat.reduceSub, Nat.reduceLT, Nat.reduceMul, Int.reduceToNat, Int.reduceEq, ↓reduceIte, reduceCtorEq, Bool.false_and, Bool.and_false, Bool.false_eq_true, Bool.true_or, Bool.or_true, Bool.false_or, Bool.or_false, Nat.reduceBEq, Int.reduceBEq, Int.reduceBNe, Int.reduceLT, Int.reduceLE, Int.reduceMul, Int.reduceAdd, Int.toNat_natCast, List.isEmpty_map, b54x1, h1, h5, h11, h12, h13, ho, hd] at hr
    subst hr
    exact ⟨_, rfl, rfl, by rw [List.drop_of_length_le (by omega)]; rfl, rfl⟩
  | succ k ih =>
    intro i c s r hr ho hi hc h1 h5 h11 h12 h13
    have hd : decide ((i : Int) < (b.length : Int)) = true := by simp; omega
    have hw : IntKind.i64.wrap ((i : Int) + 1) = ((i + 1 : Nat) : Int) := by rw [wi64 (by omega)]; omega
    obtain ⟨x, hx⟩ : ∃ x, b[i]? = some x := ⟨_, List.getElem?_eq_getElem (by omega)⟩
    have hxb := hb x (List.mem_of_getElem? hx)
    have hwx : IntKind.u64.wrap (x : Int) = x := wu64 (by omega)
    have hx2 := x64 (a := c) (b := x) hc (by omega)
    rw [lp_n (L := l54x1) rfl] at hr
    simp (maxSteps := 1000000) +contextual -implicitDefEqProofs only [go_sem, R_c, G_c, D_c, DG_c, G_cf, G_cv, D_cf, DG_cf, E_c, E_cf, E_a, D_ap, D_mm, D_al, D_ldm, E_ap, E_mm, Nat.reduceEqDiff, Nat.reduceAdd, Nat.reduceLeDiff, Nat.reduceSub, Nat.reduceLT, Nat.reduceMul, Int.reduceToNat, Int.reduceEq, ↓reduceIte, reduceCtorEq, Bool.false_and, Bool.and_false, Bool.false_eq_true, Bool.true_or, Bool.or_true, Bool.false_or, Bool.or_false, Nat.reduceBEq, Int.reduceBEq, Int.reduceBNe, Int.reduceLT, Int.reduceLE, Int.reduceMul, Int.reduceAdd, Int.toNat_natCast, List.isEmpty_map, b54x1, h1, h5, h11, h12, h13, ho, hd, hx, hwx, hx2, List.getElem?_map] at hr
    generalize hz : evC (EF pg) l54x0 _ = z at hr
    obtain ⟨s', rfl, g1, g2, g3, g4, g5, g6⟩ := l54i B (lst .ro 1 q (b.map un)) i (by simp (maxSteps := 1000000) +contextual -implicitDefEqProofs only [go_sem, R_c, G_c, D_c, DG_c, G_cf, G_cv, D_cf, DG_cf, E_c, E_cf, E_a, D_ap, D_mm, D_al, D_ldm, E_ap, E_mm, Nat.reduceEqDiff, Nat.reduceAdd, Nat.reduceLeDiff, Nat.reduceSub, Nat.reduceLT, Nat.reduceMul, Int.reduceToNat, Int.reduceEq, ↓reduceIte, reduceCtorEq, Bool.false_and, Bool.and_false, Bool.false_eq_true, Bool.true_or, Bool.or_true, Bool.false_or, Bool.or_false, Nat.reduceBEq, Int.reduceBEq, Int.reduceBNe, Int.reduceLT, Int.reduceLE, Int.reduceMul, Int.reduceAdd, Int.toNat_natCast, List.isEmpty_map, ]) 8 0 (c ^^^ x) hz rfl rfl (Nat.xor_lt_two_pow (n := 32) hc (by omega)) rfl rfl rfl rfl rfl rfl
    simp (maxSteps := 1000000) +contextual -implicitDefEqProofs only [go_sem, R_c, G_c, D_c, DG_c, G_cf, G_cv, D_cf, DG_cf, E_c, E_cf, E_a, D_ap, D_mm, D_al, D_ldm, E_ap, E_mm, Nat.reduceEqDiff, Nat.reduceAdd, Nat.reduceLeDiff, Nat.reduceSub, Nat.reduceLT, Nat.reduceMul, Int.reduceToNat, Int.reduceEq, ↓reduceIte, reduceCtorEq, Bool.false_and, Bool.and_false, Bool.false_eq_true, Bool.true_or, Bool.or_true, Bool.false_or, Bool.or_false, Nat.reduceBEq, Int.reduceBEq, Int.reduceBNe, Int.reduceLT, Int.reduceLE, Int.reduceMul, Int.reduceAdd, Int.toNat_natCast, List.isEmpty_map, g1, g2, g3, g4, g5, g6, hw] at hr
    have := ih (i + 1) (crcB c x) hr g1 (by omega) (crcB_lt hc hxb) g2 g3 g4 g5 rfl
    rwa [show b.drop i = x :: b.drop (i + 1) from (List.drop_eq_getElem_cons (by omega)).trans (by rw [(List.getElem?_eq_some_iff.1 hx).2])]
theorem w54 (q : Bool) (b : List Nat) (hl : b.length < 1099511627776) (hb : ∀ c ∈ b, c < 256) (B : List Bx) : EF pg 54 [lst .ro 1 q (b.map un), vi 32] B = some (vg (crcN b), B) := by
  rw [EF_call p54 rfl (by simp [F54]) (by simp (maxSteps := 1000000) +contextual -implicitDefEqProofs only [go_sem, R_c, G_c, D_c, DG_c, G_cf, G_cv, D_cf, DG_cf, E_c, E_cf, E_a, D_ap, D_mm, D_al, D_ldm, E_ap, E_mm, Nat.reduceEqDiff, Nat.reduceAdd, Nat.reduceLeDiff, Nat.reduceSub, Nat.reduceLT, Nat.reduceMul, Int.reduceToNat, Int.reduceEq, ↓reduceIte, reduceCtorEq, Bool.false_and, Bool.and_false, Bool.false_eq_true, Bool.true_or, Bool.or_true, Bool.false_or, Bool.or_false, Nat.reduceBEq, Int.reduceBEq, Int.reduceBNe, Int.reduceLT, Int.reduceLE, Int.reduceMul, Int.reduceAdd, Int.toNat_natCast, List.isEmpty_map, ])]
  have hlt := fold_lt (b := b) (s := 4294967295) (by omega) hb
  have h2 : bz .xor .u64 ((b.foldl crcB 4294967295 : Nat) : Int) 4294967295 = some (.int .u64 (crcN b)) := x64 (a := b.foldl crcB 4294967295) (b := 4294967295) hlt (by omega)
  simp (maxSteps := 1000000) +contextual -implicitDefEqProofs only [go_sem, R_c, G_c, D_c, DG_c, G_cf, G_cv, D_cf, DG_cf, E_c, E_cf, E_a, D_ap, D_mm, D_al, D_ldm, E_ap, E_mm, Nat.reduceEqDiff, Nat.reduceAdd, Nat.reduceLeDiff, Nat.reduceSub, Nat.reduceLT, Nat.reduceMul, Int.reduceToNat, Int.reduceEq, ↓reduceIte, reduceCtorEq, Bool.false_and, Bool.and_false, Bool.false_eq_true, Bool.true_or, Bool.or_true, Bool.false_or, Bool.or_false, Nat.reduceBEq, Int.reduceBEq, Int.reduceBNe, Int.reduceLT, Int.reduceLE, Int.reduceMul, Int.reduceAdd, Int.toNat_natCast, List.isEmpty_map, F54, c54]
  generalize hz : evC (EF pg) l54x1 _ = z
  obtain ⟨s', rfl, g1, g2, g3⟩ := l54o B q b hl hb b.length 0 4294967295 hz rfl (by omega) (by omega) rfl rfl rfl rfl rfl
  rw [List.drop_zero] at g2
  simp (maxSteps := 1000000) +contextual -implicitDefEqProofs only [go_sem, R_c, G_c, D_c, DG_c, G_cf, G_cv, D_cf, DG_cf, E_c, E_cf, E_a, D_ap, D_mm, D_al, D_ldm, E_ap, E_mm, Nat.reduceEqDiff, Nat.reduceAdd, Nat.reduceLeDiff, Nat.reduceSub, Nat.reduceLT, Nat.reduceMul, Int.reduceToNat, Int.reduceEq, ↓reduceIte, reduceCtorEq, Bool.false_and, Bool.and_false, Bool.false_eq_true, Bool.true_or, Bool.or_true, Bool.false_or, Bool.or_false, Nat.reduceBEq, Int.reduceBEq, Int.reduceBNe, Int.reduceLT, Int.reduceLE, Int.reduceMul, Int.reduceAdd, Int.toNat_natCast, List.isEmpty_map, g1, g2, g3, h2]
theorem crcN_lt {b : List Nat} (hb : ∀ c ∈ b, c < 256) : crcN b < 4294967296 := Nat.xor_lt_two_pow (n := 32) (fold_lt (by omega) hb) (by omega)
theorem w31 (q : Bool) (b : List Nat) (hl : b.length < 1099511627776) (hb : ∀ c ∈ b, c < 256) (B : List Bx) : EF pg 31 [lst .ro 1 q (b.map un)] B = some (vu (crcN b), B) := by
  rw [EF_call p31 rfl (by simp [F31]) (by simp (maxSteps := 1000000) +contextual -implicitDefEqProofs only [go_sem, R_c, G_c, D_c, DG_c, G_cf, G_cv, D_cf, DG_cf, E_c, E_cf, E_a, D_ap, D_mm, D_al, D_ldm, E_ap, E_mm, Nat.reduceEqDiff, Nat.reduceAdd, Nat.reduceLeDiff, Nat.reduceSub, Nat.reduceLT, Nat.reduceMul, Int.reduceToNat, Int.reduceEq, ↓reduceIte, reduceCtorEq, Bool.false_and, Bool.and_false, Bool.false_eq_true, Bool.true_or, Bool.or_true, Bool.false_or, Bool.or_false, Nat.reduceBEq, Int.reduceBEq, Int.reduceBNe, Int.reduceLT, Int.reduceLE, Int.reduceMul, Int.reduceAdd, Int.toNat_natCast, List.isEmpty_map, ])]
  have := crcN_lt hb
  simp (maxSteps := 1000000) +contextual -implicitDefEqProofs only [go_sem, R_c, G_c, D_c, DG_c, G_cf, G_cv, D_cf, DG_cf, E_c, E_cf, E_a, D_ap, D_mm, D_al, D_ldm, E_ap, E_mm, Nat.reduceEqDiff, Nat.reduceAdd, Nat.reduceLeDiff, Nat.reduceSub, Nat.reduceLT, Nat.reduceMul, Int.reduceToNat, Int.reduceEq, ↓reduceIte, reduceCtorEq, Bool.false_and, Bool.and_false, Bool.false_eq_true, Bool.true_or, Bool.or_true, Bool.false_or, Bool.or_false, Nat.reduceBEq, Int.reduceBEq, Int.reduceBNe, Int.reduceLT, Int.reduceLE, Int.reduceMul, Int.reduceAdd, Int.toNat_natCast, List.isEmpty_map, F31, c31, w54 q b hl hb, wu32 (n := (crcN b : Int)) (by omega)]
theorem q31 (q : Bool) (b : List Nat) (hl : b.length < 1099511627776) (hb : ∀ c ∈ b, c < 256) : qv (EF pg) 31 [lst .ro 1 q (b.map un)] = some (vu (crcN b)) := qv_of fun B => w31 q b hl hb B
end Go.Proofs.Ytlhjdikklmkihaa.Ev
