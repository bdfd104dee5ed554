/- Loops over functions: what a round and what the loop comes to. Conditions: none. -/
import Derived.Test.YtlhjdikklmkihaaEv4
set_option linter.all false
namespace Go.Proofs.Ytlhjdikklmkihaa.Ev
open Go
section
variable {prog : Nat → Option Fn} {F : Fn} {ps ks ks1 ks2 : List Nat} {asg : Cd} {rid rid1 rid2 f b j1 st j2 : Nat} {args caps caps1 caps2 : List D} {B : List Bx} {s1 s2 : S} {x : Ex}
theorem round_ok (h : prog rid = some F) (hr : F.rnd = some (ps, asg)) (h1 : bx f b ⟨[], [], B⟩ = some (.rcd 0 0 rid ks :: caps)) (hf : f < B.length) (hl : args.length = ps.length) (ht : args.all (fun d => !d.tupB) = true)
    (h2 : evC (EF prog) asg ⟨envR ps args (envC ks caps), [], B⟩ = some (.nm, s1)) (h3 : bx f b s1 = some (.rcd 0 j1 rid1 ks1 :: caps1)) (h4 : evC (EF prog) F.body (sbx f b (.rcd 1 j1 rid1 ks1 :: caps1) s1) = some (x, s2)) (h5 : bx f b s2 = some (.rcd st j2 rid2 ks2 :: caps2)) :
    EF prog rid (.yld f b :: args) B = some (vb (x.code == 0), (sbx f b (.rcd (if x.code = 0 then 0 else 2) x.code rid2 ks2 :: caps2) s2).o) := by
  rw [EF_eq]
  unfold runF
  simp only [h, hr]
  unfold runR
  simp only [h1]
  rw [if_pos (by exact ⟨trivial, hf, hl, ht⟩), h2]
  simp only [h3, h4, h5]
variable {c : Caller} {s : S} {fn jm : Nat} {caps0 : List D} {d : D} {o' : List Bx} {l' : Bx} {y : Opd}
theorem rf_run (h1 : (rd y s).1 = .clo fn caps0) (h2 : lk b s.l = none) (h3 : ((ks.map fun t => (get t s.e).strip).all (D.cap (s.o.length + 1))) = true)
    (h4 : c fn (.yld s.o.length b :: caps0) (s.o ++ [ins b (.rcd 0 0 rid ks :: ks.map fun t => (get t s.e).strip) s.l]) = some (d, o' ++ [l'])) (h5 : lk b l' = some (.rcd st jm rid2 ks2 :: caps2)) (h6 : st ≠ 1) :
    evC c (.rf y b rid ks) s = some (exOf jm, ⟨s.e, sb b (.rcd 3 jm rid2 ks2 :: caps2) l', o'⟩) := by
  show evR c y b rid ks s = _
  unfold evR
  simp only [h1]
  rw [if_pos (And.intro (by rw [h2]; rfl) h3)]
  have : doCall c fn (.yld s.o.length b :: caps0) (s.wl (ins b (.rcd 0 0 rid ks :: ks.map fun t => (get t s.e).strip) s.l)) = some (d, ⟨s.e, l', o'⟩) := do_call (s := s.wl (ins b (.rcd 0 0 rid ks :: ks.map fun t => (get t s.e).strip) s.l)) h4
  rw [this]
  simp only [h5]
  rw [if_neg h6]
  rfl
end
section
variable {α : Type} {l : List α} {x y z : α} {g : α → α}
theorem len2 : (l ++ [x]).length = l.length + 1 := by simp
theorem get2 : ((l ++ [x]) ++ [y])[l.length]? = some x := by simp
theorem get3 : (((l ++ [x]) ++ [y]) ++ [z])[l.length]? = some x := by simp
theorem md_at {r : List α} : (l ++ x :: r).modify l.length g = l ++ g x :: r := by
  induction l with
  | nil => rfl
  | cons w l ih => simp only [List.cons_append, List.length_cons, List.modify_succ_cons, ih]
theorem md2 : ((l ++ [x]) ++ [y]).modify l.length g = (l ++ [g x]) ++ [y] := by
  rw [List.append_assoc, List.append_assoc]; exact md_at
theorem md3 : (((l ++ [x]) ++ [y]) ++ [z]).modify l.length g = ((l ++ [g x]) ++ [y]) ++ [z] := by
  rw [List.append_assoc, List.append_assoc, List.append_assoc, List.append_assoc]; exact md_at
theorem ne_succ2 {n : Nat} : (n = n + 1 + 1) = False := by simp; omega
theorem ne_succ3 {n : Nat} : (n = n + 1 + 1 + 1) = False := by simp; omega
theorem dlt2 {n : Nat} : decide (n < n + 1 + 1) = true := by simp; omega
theorem dlt3 {n : Nat} : decide (n < n + 1 + 1 + 1) = true := by simp; omega
end
attribute [go_sem] get2 get3 md2 md3 ne_succ2 ne_succ3 dlt2 dlt3 envR envC Ex.code
/-! ### What is told otherwise -/
def dgO : D → D
  | .sl .mu z xs => .sl .app z xs
  | d => d
theorem sb_same {b : Nat} {ds : List D} : ∀ {l : Bx}, lk b l = some ds → sb b ds l = l
  | [], h => by cases h
  | (b', ds') :: r, h => by
    simp only [lk] at h
    simp only [sb]
    by_cases e : b = b'
    · rw [if_pos e] at h ⊢
      injection h with h
      rw [h]
    · rw [if_neg e] at h ⊢
      rw [sb_same h]
theorem set_same {α : Type} {l : List α} {i : Nat} {x : α} (h : l[i]? = some x) : l.set i x = l := by
  refine List.ext_getElem? fun j => ?_
  rw [List.getElem?_set]
  split
  · rename_i e
    subst e
    rw [h]
    split
    · rfl
    · rename_i hl; rw [List.getElem?_eq_none (by omega)] at h; cases h
  · rfl
def dgS (b i : Nat) (s : S) (ds : List D) : Option S := (ds[i]?).map fun d => s.wl (sb b (ds.set i (dgO d)) s.l)
theorem G_dgO {b i : Nat} {s : S} : evG1 (.dg b i) s = (lk b s.l).bind (dgS b i s) := by
  rw [G_dg]
  cases hb : lk b s.l with
  | none => rfl
  | some ds =>
    simp only [Option.bind_some, dgS]
    cases hd : ds[i]? with
    | none => rfl
    | some d =>
      simp only [Option.map_some]
      have same : dgO d = d → (some s : Option S) = some (s.wl (sb b (ds.set i (dgO d)) s.l)) := fun e => by rw [e, set_same hd, sb_same hb]; rfl
      cases d with
      | sl m z xs => cases m with
        | mu => rfl
        | _ => exact same rfl
      | _ => exact same rfl
section
variable {z : Nat} {q : Bool} {xs : List D} {k : Nat} {l : Bx} {t : Nat} {d : D} {s : S} {e : Env} {ds : List D} {r : Bx} {b : Nat}
theorem dg_mu : dgO (lst .mu z q xs) = lst .app z q xs := by rcases lst_or q xs with ⟨_, _, h⟩ | ⟨_, h⟩ <;> rw [h, h] <;> rfl
theorem dg_ap : dgO (lst .app z q xs) = lst .app z q xs := by rcases lst_or q xs with ⟨_, _, h⟩ | ⟨_, h⟩ <;> rw [h] <;> rfl
theorem dg_ro : dgO (lst .ro z q xs) = lst .ro z q xs := by rcases lst_or q xs with ⟨_, _, h⟩ | ⟨_, h⟩ <;> rw [h] <;> rfl
theorem dg_smu : dgO (.sl .mu z xs) = .sl .app z xs := rfl
theorem dg_sap : dgO (.sl .app z xs) = .sl .app z xs := rfl
theorem dg_sro : dgO (.sl .ro z xs) = .sl .ro z xs := rfl
theorem dg_snl : dgO (.sl .nl z xs) = .sl .nl z xs := rfl
theorem fE_put : frzE k l (put t d s).e = (t, d.frz3 k l) :: frzE k l s.e := rfl
theorem fE_n : frzE k l [] = [] := rfl
theorem fE_c : frzE k l ((t, d) :: e) = (t, d.frz3 k l) :: frzE k l e := rfl
theorem fL_n : frzL k l [] = [] := rfl
theorem fL_c : frzL k l ((b, ds) :: r) = (b, ds.map (D.frz1 k l)) :: frzL k l r := rfl
theorem rm_n : rmL b [] = [] := rfl
theorem rm_c {b' : Nat} : rmL b ((b', ds) :: r) = if b = b' then rmL b r else (b', ds) :: rmL b r := rfl
end
attribute [go_sem] G_dgO dgS dg_mu dg_ap dg_ro dg_smu dg_sap dg_sro dg_snl fE_put fE_n fE_c fL_n fL_c rm_n rm_c
end Go.Proofs.Ytlhjdikklmkihaa.Ev
