/- A call of which the lists are only grown from here on. Conditions: none. -/
import Derived.Test.YtlhjdikklmkihaaEvL
import Derived.Test.YtlhjdikklmkihaaEvH
set_option linter.all false
namespace Go.Proofs.Ytlhjdikklmkihaa.Ev
open Go
variable {P : Program}
section
variable {g : G} {w : World} {n : Nat} {tmps : Array Value} {s : S}
/-- One list that flies. -/
theorem dwn_one (h : SN g w n tmps s) {vs : Array Value} {ds : List D} (hF : ∀ (c : Nat) d, ds[c]? = some d → ∃ y, vs[c]? = some y ∧ RC g w (flyL 0 0 c) y d) (k : Nat) (d : D) (hk : ds[k]? = some d) :
    ∃ g', SN g' w n tmps s ∧ (∀ (c : Nat) e, (ds.set k d.dwn1)[c]? = some e → ∃ y, vs[c]? = some y ∧ RC g' w (flyL 0 0 c) y e) ∧ Ext s.k g w g' w := by
  have same : d.dwn1 = d → ∃ g', SN g' w n tmps s ∧ (∀ (c : Nat) e, (ds.set k d.dwn1)[c]? = some e → ∃ y, vs[c]? = some y ∧ RC g' w (flyL 0 0 c) y e) ∧ Ext s.k g w g' w := fun e => by
    refine ⟨g, h, fun c e' hc => hF c e' ?_, Ext.refl _ _ _⟩
    rw [e, List.getElem?_set] at hc
    split at hc
    · rename_i q
      subst q
      have := getq_lt hk
      rw [if_pos this] at hc
      injection hc with hc
      rw [← hc]; exact hk
    · exact hc
  cases d with
  | sl m z xs =>
    cases m with
    | mu =>
      obtain ⟨y, hy1, hy2⟩ := hF k _ hk
      obtain ⟨B, off, cap, cur, e, val, rfl, q2, q3, q4, q5, q6, q7, q7', q8, q9, q10⟩ := (show Own g w (flyL 0 0 k) y .mu z xs from hy2)
      obtain rfl := q7' rfl
      have hi := h.st.inv
      have hfr : ∀ b', g.fr b' ≤ (g.own B (0 + xs.length * z) (flyL 0 0 k)).fr b' := fun b' => by
        show _ ≤ (if _ then _ else _)
        split
        · rename_i e; rw [e, q7]; exact Nat.zero_le _
        · exact Nat.le_refl _
      have htk : ∀ b', (g.own B (0 + xs.length * z) (flyL 0 0 k)).tk b' = g.tk b' := fun b' => by
        show (if _ then _ else _) = _
        split
        · rename_i e; rw [e, q6]
        · rfl
      have hK : ∀ ℓ, ℓ ≠ flyL 0 0 k → Keep g w ℓ (g.own B (0 + xs.length * z) (flyL 0 0 k)) w ℓ := fun ℓ hℓ => ⟨fun _ _ _ => rfl, hfr, fun _ _ _ h => h, fun b' hb' => by
        have e : b' ≠ B := fun e => by rw [e, q6] at hb'; injection hb' with hb'; exact hℓ hb'.symm
        exact ⟨by rw [htk]; exact hb', by show (if _ then _ else _) = _; rw [if_neg e], rfl⟩⟩
      have hsz : xs.length * z ≤ cur.size := Nat.le_trans (Nat.mul_le_mul_right z q3) (by omega)
      refine ⟨g.own B (0 + xs.length * z) (flyL 0 0 k), ⟨⟨⟨hi.base, fun b' hb' => ?_, fun f s1 b' hb' => ?_, hi.inj, fun b' ℓ hb' => hi.tk b' ℓ (by rw [← htk]; exact hb'), fun b' o ho => ?_, hi.dm, fun b' hb' => by rw [htk]; exact hi.dt b' hb'⟩, ⟨fun f b' ds' hds => ?_, h.st.sb.dom, h.st.sb.bnd⟩, fun t => ?_⟩, h.size⟩, fun c e' hc => ?_, ⟨rfl, rfl, rfl, rfl, Nat.le_refl _, fun _ _ => rfl, hfr, fun _ _ _ => rfl, fun _ _ _ => rfl, fun b' ℓ hb' h0 hk => (hK ℓ fun e => by rw [e] at h0; cases h0).tk b' hb', fun _ h => h⟩⟩
      · have := hi.fresh b' hb'
        refine ⟨?_, by rw [htk]; exact this.2⟩
        show (if _ then _ else _) = _
        rw [if_neg fun e => by have := getq_lt' q2; omega]; exact this.1
      · obtain ⟨a1, a2, a3, a4⟩ := hi.box f s1 b' hb'
        refine ⟨a1, a2, ?_, by rw [htk]; exact a4⟩
        show (if _ then _ else _) = _
        rw [if_neg fun e => by rw [e, q6] at a4; cases a4]; exact a3
      · have ho' : o < (if b' = B then 0 + xs.length * z else g.fr b') := ho
        split at ho'
        · rename_i e
          subst e
          have : o < cur.size := by omega
          simp [World.cell?, q2, this]
        · exact hi.cells b' o ho'
      · exact (h.st.sb.rel f b' ds' hds).keep (fun c' => hK _ box_fly) fun _ _ => rfl
      · exact (h.st.e t).keep fun i c' => hK _ slot_fly
      · rw [List.getElem?_set] at hc
        split at hc
        · rename_i q
          subst q
          have := getq_lt hk
          rw [if_pos this] at hc
          injection hc with hc
          subst hc
          exact ⟨_, hy1, (show Own _ w _ _ .app z xs from ⟨B, 0, cap, cur, e, val, rfl, q2, q3, q4, q5, if_pos rfl, if_pos rfl, (fun h => by cases h), q8, q9, fun i d j c hi hj => (q10 i d j c hi hj).mono (fun _ _ _ => rfl) hfr⟩)⟩
        · rename_i q
          obtain ⟨y', r1, r2⟩ := hF c e' hc
          exact ⟨y', r1, r2.keep (hK _ fun e => by simp [flyL] at e; exact q e.symm)⟩
    | _ => exact same rfl
  | _ => exact same rfl
theorem dwn_all : ∀ (m : Nat) {g : G} {vs : Array Value} {ds : List D}, SN g w n tmps s → m ≤ ds.length → (∀ (c : Nat) d, ds[c]? = some d → ∃ y, vs[c]? = some y ∧ RC g w (flyL 0 0 c) y d) →
    ∃ g', SN g' w n tmps s ∧ (∀ (c : Nat) e, ((ds.take m).map D.dwn1 ++ ds.drop m)[c]? = some e → ∃ y, vs[c]? = some y ∧ RC g' w (flyL 0 0 c) y e) ∧ Ext s.k g w g' w
  | 0, g, vs, ds, h, _, hF => ⟨g, h, by simpa using hF, Ext.refl _ _ _⟩
  | m + 1, g, vs, ds, h, hm, hF => by
    obtain ⟨g1, k1, k2, k3⟩ := dwn_all m h (by omega) hF
    have hget : ((ds.take m).map D.dwn1 ++ ds.drop m)[m]? = some ds[m] := by
      rw [List.getElem?_append_right (by simp; omega), List.getElem?_drop]
      have : m + (m - ((ds.take m).map D.dwn1).length) = m := by simp; omega
      rw [this, List.getElem?_eq_getElem (by omega)]
    obtain ⟨g2, j1, j2, j3⟩ := dwn_one k1 k2 m ds[m] hget
    refine ⟨g2, j1, ?_, k3.trans j3⟩
    have e : ((ds.take m).map D.dwn1 ++ ds.drop m).set m ds[m].dwn1 = (ds.take (m + 1)).map D.dwn1 ++ ds.drop (m + 1) := by
      have hl : ((ds.take m).map D.dwn1).length = m := by simp; omega
      rw [List.set_append_right _ _ (by omega), hl, Nat.sub_self, List.drop_eq_getElem_cons (by omega), List.set_cons_zero, List.take_succ_eq_append_getElem (by omega), List.map_append]
      simp
    rwa [e] at j2
end
section
variable {o : Oper} {g : G} {w : World} {n : Nat} {a : Act} {s s' : S} {d : D} {call : Caller} {t : Option Nat}
theorem does_calf {ro : Option Nat} (hg : Good P call) {f : Nat} (hf : f < RL) {args : Array Operand} {args' : List Opd} {ts : Array TypeId} (ho : o.op = .call ⟨.value (.func f), args, ts⟩) (hm : MArgs args args') (h : SN g w n a.tmps s) (he : evOp call t (.calf f args') s = some (d, s')) : Does P ro o g w n a s d s' := by
  simp only [evOp] at he
  split at he
  · rename_i cs s1 hq
    injection he with he
    injection he with e1 e2
    subst e1 e2
    have hc := does_call (t := t) (ro := ro) hg hf ho hm h hq
    intro next Q hn
    refine hc next Q fun x w' g' r1 r2 r3 r4 => ?_
    obtain ⟨vs, q1, q2, q3⟩ := (show RV g' w' (flyL 0 0) x (.agg cs) from r2)
    obtain ⟨g2, k1, k2, k3⟩ := dwn_all cs.length r1 (Nat.le_refl _) q3
    rw [List.take_length, List.drop_length, List.append_nil] at k2
    exact hn x w' g2 k1 (show RV g2 w' (flyL 0 0) x (.agg (cs.map D.dwn1)) from ⟨vs, q1, by simpa using q2, k2⟩) (r3.trans (by rw [r4] at k3; exact k3)) r4
  · exact does_call (t := t) (ro := ro) hg hf ho hm h he
end
end Go.Proofs.Ytlhjdikklmkihaa.Ev
