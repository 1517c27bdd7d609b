/-
  Facts for the bases that the laws make (no program here).
-/
import Derived.Test.YtgaijgadeodoeaaW1
import Derived.Test.YtgaijgadeodoeaaU1
import Derived.Test.YtgaijgadeodoeaaP1
namespace Go.Proofs.Ytgaijgadeodoeaa

theorem formed_small {t : T} (h : t.formed = true) : t.s.length ≤ 100 ∧ t.l.length ≤ 50 := by
  obtain ⟨k, n, s, l⟩ := t
  by_cases h1 : k = 1
  · subst h1
    obtain ⟨_, rfl, rfl⟩ := formed_var h
    exact ⟨by simp [T.s], by simp [T.l]⟩
  rcases formed_args h with ⟨rfl, _⟩ | ⟨h4, rfl⟩
  · rw [T.formed] at h
    simp only [show ¬ (4 : Int) = 1 by decide, show ¬ (4 : Int) = 2 by decide, show ¬ (4 : Int) = 3 by decide, if_false, if_true, Bool.and_eq_true, decide_eq_true_eq] at h
    simp only [T.s, T.l]
    omega
  · rw [T.formed] at h
    simp only [T.s, T.l]
    by_cases h2 : k = 2
    · subst h2
      simp at h
      simp [h]
    · by_cases h3 : k = 3
      · subst h3
        simp at h
        simp [h]
      · simp [h1, h2, h3, h4] at h

theorem res_neck : reserved sNeck 2 = true := by decide
theorem same_refl (x : T) : T.same x x = true := (same_iff x x).2 rfl

theorem make_p : T.make reserved (atomT [112]) = some (atomT [112], atomT sTrue) := by
  have hp : (atomT [112]).parts = (atomT [112], atomT sTrue) := by rw [T.parts, if_neg (by decide)]
  rw [T.make, hp]
  simp only
  rw [body_true]
  simp only
  rw [if_pos (by decide)]
  rw [atomT, atomT, map_atom _ (by decide) (by decide), map_atom _ (by decide) (by decide)]

theorem eq_of_toList {a b : ByteArray} (h : a.toList = b.toList) : a = b := by
  rw [Go.ByteArray.toList_eq, Go.ByteArray.toList_eq] at h
  cases a
  cases b
  congr 1
  exact Array.toList_inj.1 h

theorem size_toList (a : ByteArray) : a.toList.length = a.size := by rw [Go.ByteArray.toList_eq]; rfl

theorem tm_small {t : Tm} (h : t.erase.formed = true) : t.s.size ≤ 1000 ∧ t.l.length ≤ 1000 := by
  obtain ⟨h1, h2⟩ := formed_small h
  obtain ⟨k, n, s, p, c, l⟩ := t
  rw [Tm.erase] at h1 h2
  simp only [T.s, T.l, Tm.eraseL_length, size_toList] at h1 h2
  exact ⟨by simp only [Tm.s]; omega, by simp only [Tm.l]; omega⟩

/-- A term in memory that is an atom. -/
theorem atom_parts {t : Tm} {s : ByteArray} (h : t.erase = atomT s.toList) : t.s = s ∧ t.l = [] := by
  obtain ⟨k, n, s', p, c, l⟩ := t
  rw [Tm.erase, atomT] at h
  injection h with _ _ h3 h4
  refine ⟨eq_of_toList h3, ?_⟩
  have := Tm.eraseL_length l
  rw [h4] at this
  exact List.eq_nil_of_length_eq_zero this.symm

theorem on_nil {t : Tm} {S : Nat → Prop} (h : t.l = []) : t.On S := by
  obtain ⟨k, n, s, p, c, l⟩ := t
  simp only [Tm.l] at h
  subst h
  rw [Tm.On, Tm.OnL]
  exact ⟨.inl rfl, trivial⟩
end Go.Proofs.Ytgaijgadeodoeaa
