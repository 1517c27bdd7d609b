/-
  Part by part, and renaming: the same variants. Plain.
  The document's store: a list of pairs in a block; append of pairs.
-/
import Derived.Test.YtcblmkhhhibddaaTS37
import Derived.Test.YtcblmkhhhibddaaTS19
import Derived.Test.YtcblmkhhhibddaaTS30
import Derived.Test.YtcblmkhhhibddaaTS17
import Derived.Test.YtcblmkhhhibddaaTS08
namespace Go.Proofs.Ytcblmkhhhibddaa

/-- Two parts fit, and θ makes the one the other if it is a variable. -/
structure FitC (θ : Int → T) (p q : T) : Prop where
  k : p.k = q.k
  s : p.s = q.s
  l : p.l.length = q.l.length
  n : p.k ≠ 1 → p.n = q.n
  v : p.k = 1 → θ p.n = q
inductive Fit2 (θ : Int → T) : List T → List T → Prop
  | nil : Fit2 θ [] []
  | cons {p q : T} {X Y : List T} : FitC θ p q → Fit2 θ X Y → Fit2 θ (p :: X) (q :: Y)
theorem fit_app {θ : Int → T} {X Y R R' : List T} (h : Fit2 θ X Y) (h' : Fit2 θ R R') : Fit2 θ (X ++ R) (Y ++ R') := by
  induction h with
  | nil => exact h'
  | cons h1 _ ih => exact .cons h1 ih
theorem fit2_of {θ : Int → T} : ∀ (X Y : List T), X.length = Y.length → (∀ (i : Nat) (h : i < X.length) (h' : i < Y.length), FitC θ X[i] Y[i]) → Fit2 θ X Y
  | [], [], _, _ => .nil
  | [], _ :: _, h, _ => by cases h
  | _ :: _, [], h, _ => by cases h
  | x :: xs, y :: ys, h, hf => .cons (hf 0 (by simp) (by simp)) (fit2_of xs ys (Nat.succ.inj h) fun i h1 h2 => hf (i + 1) (by simpa using h1) (by simpa using h2))
mutual
theorem fit_split (θ : Int → T) : ∀ (x y : T) (R R' : List T), Fit2 θ (x.flat ++ R) (y.flat ++ R') → Fit2 θ x.flat y.flat ∧ Fit2 θ R R'
  | .mk k n s l, .mk k' n' s' l', R, R', h => by
    rw [T.flat, T.flat] at h ⊢
    rw [List.cons_append, List.cons_append] at h
    cases h with
    | cons h1 h2 =>
      have hl : l.length = l'.length := h1.l
      obtain ⟨h3, h4⟩ := fit_splitL θ l l' R R' hl h2
      exact ⟨.cons h1 h3, h4⟩
theorem fit_splitL (θ : Int → T) : ∀ (l l' R R' : List T), l.length = l'.length → Fit2 θ (T.flatL l ++ R) (T.flatL l' ++ R') → Fit2 θ (T.flatL l) (T.flatL l') ∧ Fit2 θ R R'
  | [], [], R, R', _, h => by
    rw [T.flatL, List.nil_append, List.nil_append] at h
    rw [T.flatL]
    exact ⟨.nil, h⟩
  | [], _ :: _, _, _, hl, _ => by cases hl
  | _ :: _, [], _, _, hl, _ => by cases hl
  | x :: xs, y :: ys, R, R', hl, h => by
    rw [T.flatL, T.flatL] at h ⊢
    rw [List.append_assoc, List.append_assoc] at h
    obtain ⟨h1, h2⟩ := fit_split θ x y _ _ h
    obtain ⟨h3, h4⟩ := fit_splitL θ xs ys R R' (Nat.succ.inj hl) h2
    exact ⟨fit_app h1 h3, h4⟩
end
mutual
theorem fit_map (θ : Int → T) : ∀ (x y : T), x.formed = true → Fit2 θ x.flat y.flat → T.map θ x = y
  | .mk k n s l, .mk k' n' s' l', hf, h => by
    rw [T.flat, T.flat] at h
    cases h with
    | cons h1 h2 =>
      obtain rfl : k = k' := h1.k
      obtain rfl : s = s' := h1.s
      have hl : l.length = l'.length := h1.l
      rw [T.map]
      by_cases hk : k = 1
      · rw [if_pos hk]
        exact h1.v hk
      · rw [if_neg hk]
        obtain rfl : n = n' := h1.n hk
        rcases formed_args hf with ⟨h4, hfl⟩ | ⟨h4, hnil⟩
        · rw [if_pos h4, fit_mapL θ l l' hl hfl h2]
        · rw [if_neg h4]
          subst hnil
          rw [List.eq_nil_of_length_eq_zero hl.symm]
theorem fit_mapL (θ : Int → T) : ∀ (l l' : List T), l.length = l'.length → T.formedL l = true → Fit2 θ (T.flatL l) (T.flatL l') → T.mapL θ l = l'
  | [], [], _, _, _ => by rw [T.mapL]
  | [], _ :: _, hl, _, _ => by cases hl
  | _ :: _, [], hl, _, _ => by cases hl
  | x :: xs, y :: ys, hl, hf, h => by
    rw [T.flatL, T.flatL] at h
    rw [T.formedL, Bool.and_eq_true] at hf
    obtain ⟨h1, h2⟩ := fit_split θ x y _ _ h
    rw [T.mapL, fit_map θ x y hf.1 h1, fit_mapL θ xs ys (Nat.succ.inj hl) hf.2 h2]
end
mutual
theorem flat_formed : ∀ (a : T), a.formed = true → ∀ p ∈ a.flat, p.formed = true
  | .mk k n s l, h, p, hp => by
    rw [T.flat] at hp
    rcases List.mem_cons.1 hp with rfl | hp
    · exact h
    · rcases formed_args h with ⟨_, hl⟩ | ⟨_, rfl⟩
      · exact flatL_formed l hl p hp
      · rw [T.flatL] at hp; cases hp
theorem flatL_formed : ∀ (l : List T), T.formedL l = true → ∀ p ∈ T.flatL l, p.formed = true
  | [], _, p, hp => by rw [T.flatL] at hp; cases hp
  | x :: xs, h, p, hp => by
    rw [T.flatL] at hp
    rw [T.formedL, Bool.and_eq_true] at h
    rcases List.mem_append.1 hp with hp | hp
    · exact flat_formed x h.1 p hp
    · exact flatL_formed xs h.2 p hp
end
mutual
/-- Where a substitution leaves a term as it is it leaves each part so. -/
theorem fix_parts (φ : Int → T) : ∀ (a : T), a.formed = true → T.map φ a = a → ∀ p ∈ a.flat, T.map φ p = p
  | .mk k n s l, hf, h, p, hp => by
    rw [T.flat] at hp
    rcases List.mem_cons.1 hp with rfl | hp
    · exact h
    · rcases formed_args hf with ⟨h4, hfl⟩ | ⟨_, rfl⟩
      · rw [T.map, if_neg (by omega), if_pos h4] at h
        exact fix_partsL φ l hfl (T.mk.inj h).2.2.2 p hp
      · rw [T.flatL] at hp; cases hp
theorem fix_partsL (φ : Int → T) : ∀ (l : List T), T.formedL l = true → T.mapL φ l = l → ∀ p ∈ T.flatL l, T.map φ p = p
  | [], _, _, p, hp => by rw [T.flatL] at hp; cases hp
  | x :: xs, hf, h, p, hp => by
    rw [T.flatL] at hp
    rw [T.formedL, Bool.and_eq_true] at hf
    rw [T.mapL] at h
    rcases List.mem_append.1 hp with hp | hp
    · exact fix_parts φ x hf.1 (List.cons.inj h).1 p hp
    · exact fix_partsL φ xs hf.2 (List.cons.inj h).2 p hp
end
mutual
/-- Variables to variables: the parts of what is made are what is made of the parts. -/
theorem flat_map (θ : Int → T) : ∀ (a : T), a.formed = true → (∀ p ∈ a.flat, p.k = 1 → (θ p.n).l = []) → (T.map θ a).flat = a.flat.map (T.map θ)
  | .mk k n s l, hf, h => by
    by_cases hk : k = 1
    · subst hk
      obtain ⟨_, rfl, rfl⟩ := formed_var hf
      have h1 := h (.mk 1 n [] []) (by rw [T.flat]; exact List.mem_cons_self ..) rfl
      have h2 : T.map θ (.mk 1 n [] []) = θ n := by rw [T.map, if_pos rfl]
      rw [T.flat, T.flatL, List.map_cons, List.map_nil, h2]
      replace h1 : (θ n).l = [] := h1
      generalize θ n = q at *
      obtain ⟨k', n', s', l'⟩ := q
      obtain rfl : l' = [] := h1
      rw [T.flat, T.flatL]
    · rcases formed_args hf with ⟨h4, hfl⟩ | ⟨h4, rfl⟩
      · have h2 : T.map θ (.mk k n s l) = .mk 4 n s (T.mapL θ l) := by rw [T.map, if_neg hk, if_pos h4, h4]
        rw [h2, T.flat, T.flat, List.map_cons, h2, flatL_map θ l hfl fun p hp => h p (by rw [T.flat]; exact List.mem_cons_of_mem _ hp)]
      · have h2 : T.map θ (.mk k n s []) = .mk k n s [] := by rw [T.map, if_neg hk, if_neg h4]
        rw [h2, T.flat, T.flatL, List.map_cons, List.map_nil, h2]
theorem flatL_map (θ : Int → T) : ∀ (l : List T), T.formedL l = true → (∀ p ∈ T.flatL l, p.k = 1 → (θ p.n).l = []) → T.flatL (T.mapL θ l) = (T.flatL l).map (T.map θ)
  | [], _, _ => by rw [T.mapL, T.flatL]; rfl
  | x :: xs, hf, h => by
    rw [T.formedL, Bool.and_eq_true] at hf
    rw [T.mapL, T.flatL, T.flatL, List.map_append, flat_map θ x hf.1 (fun p hp => h p (by rw [T.flatL]; exact List.mem_append_left _ hp)), flatL_map θ xs hf.2 fun p hp => h p (by rw [T.flatL]; exact List.mem_append_right _ hp)]
end
theorem flat_self (t : T) : t ∈ t.flat := by
  obtain ⟨k, n, s, l⟩ := t
  rw [T.flat]
  exact List.mem_cons_self ..
mutual
theorem mem_map (θ : Int → T) : ∀ (a : T), a.formed = true → ∀ p ∈ a.flat, T.map θ p ∈ (T.map θ a).flat
  | .mk k n s l, hf, p, hp => by
    rw [T.flat] at hp
    rcases List.mem_cons.1 hp with rfl | hp
    · exact flat_self _
    · rcases formed_args hf with ⟨h4, hfl⟩ | ⟨_, rfl⟩
      · rw [T.map.eq_1 θ k n s l, if_neg (by omega), if_pos h4, T.flat]
        exact List.mem_cons_of_mem _ (mem_mapL θ l hfl p hp)
      · rw [T.flatL] at hp; cases hp
theorem mem_mapL (θ : Int → T) : ∀ (l : List T), T.formedL l = true → ∀ p ∈ T.flatL l, T.map θ p ∈ T.flatL (T.mapL θ l)
  | [], _, p, hp => by rw [T.flatL] at hp; cases hp
  | x :: xs, hf, p, hp => by
    rw [T.flatL] at hp
    rw [T.formedL, Bool.and_eq_true] at hf
    rw [T.mapL, T.flatL]
    rcases List.mem_append.1 hp with hp | hp
    · exact List.mem_append_left _ (mem_map θ x hf.1 p hp)
    · exact List.mem_append_right _ (mem_mapL θ xs hf.2 p hp)
end
theorem map_one {θ : Int → T} {p : T} (hk : p.k = 1) : T.map θ p = θ p.n := by
  obtain ⟨k, n, s, l⟩ := p
  rw [T.map]
  exact if_pos hk
theorem map_notone {θ : Int → T} {p : T} (hk : p.k ≠ 1) : (T.map θ p).k = p.k ∧ (T.map θ p).n = p.n ∧ (T.map θ p).s = p.s := by
  obtain ⟨k, n, s, l⟩ := p
  rw [T.map, if_neg (show k ≠ 1 from hk)]
  by_cases h4 : k = 4
  · rw [if_pos h4, h4]; exact ⟨rfl, rfl, rfl⟩
  · rw [if_neg h4]; exact ⟨rfl, rfl, rfl⟩
theorem mapL_len (θ : Int → T) : ∀ l : List T, (T.mapL θ l).length = l.length
  | [] => by rw [T.mapL]
  | x :: xs => by rw [T.mapL, List.length_cons, List.length_cons, mapL_len θ xs]
theorem map_len {θ : Int → T} {p : T} (hf : p.formed = true) (hk : p.k ≠ 1) : (T.map θ p).l.length = p.l.length := by
  obtain ⟨k, n, s, l⟩ := p
  rw [T.map, if_neg (show k ≠ 1 from hk)]
  rcases formed_args hf with ⟨h4, _⟩ | ⟨h4, rfl⟩
  · rw [if_pos h4]; exact mapL_len θ l
  · rw [if_neg h4]

theorem tm_flat_at (a : Tm) (i : Nat) (h : i < a.flat.length) (h' : i < a.erase.flat.length) : a.erase.flat[i] = a.flat[i].erase := by
  have h1 : a.erase.flat = a.flat.map Tm.erase := by rw [← flat_erase, eraseL_map]
  simp only [h1, List.getElem_map]
theorem erase_parts (t : Tm) : t.erase.k = t.k ∧ t.erase.n = t.n ∧ t.erase.s = t.s.toList ∧ t.erase.l.length = t.l.length := by
  obtain ⟨k, n, s, p, c, l⟩ := t
  rw [Tm.erase]
  exact ⟨rfl, rfl, rfl, Tm.eraseL_length l⟩
/-- The variable's number at the first place where the number stands. -/
def firstN (X Y : List T) (n : Int) : Int := match X.findIdx? (fun p => decide (p.k = 1 ∧ p.n = n)) with
  | none => n
  | some j => ((Y[j]?).map T.n).getD n
theorem fitall_matches {a b : Tm} (fa : a.erase.formed = true) (fb : b.erase.formed = true) (h : FitAll a.flat b.flat) : T.matches a.erase b.erase := by
  obtain ⟨hl, hf⟩ := h
  have la : a.erase.flat.length = a.flat.length := by rw [← flat_erase, Tm.eraseL_length]
  have lb : b.erase.flat.length = b.flat.length := by rw [← flat_erase, Tm.eraseL_length]
  have key : ∀ (i : Nat) (h : i < a.erase.flat.length) (h' : i < b.erase.flat.length), a.erase.flat[i].k = b.erase.flat[i].k ∧ a.erase.flat[i].s = b.erase.flat[i].s ∧ a.erase.flat[i].l.length = b.erase.flat[i].l.length ∧ (a.erase.flat[i].k ≠ 1 → a.erase.flat[i].n = b.erase.flat[i].n) := fun i h h' => by
    obtain ⟨h1, -⟩ := hf i (by omega) (by omega)
    rw [tm_flat_at a i (by omega), tm_flat_at b i (by omega)]
    obtain ⟨e1, e2, e3, e4⟩ := erase_parts a.flat[i]
    obtain ⟨f1, f2, f3, f4⟩ := erase_parts b.flat[i]
    rw [e1, e2, e3, e4, f1, f2, f3, f4]
    exact ⟨h1.k, h1.s, h1.l, h1.n⟩
  have two : ∀ (i j : Nat) (h : i < a.erase.flat.length) (h' : i < b.erase.flat.length) (g : j < a.erase.flat.length) (g' : j < b.erase.flat.length), j < i → a.erase.flat[i].k = 1 → a.erase.flat[j].k = 1 → a.erase.flat[i].n = a.erase.flat[j].n → b.erase.flat[i].n = b.erase.flat[j].n := fun i j h h' g g' hji => by
    obtain ⟨-, h1⟩ := hf i (by omega) (by omega)
    have h2 := h1 j (by omega) (by omega) hji
    rw [tm_flat_at a i (by omega), tm_flat_at b i (by omega), tm_flat_at a j (by omega), tm_flat_at b j (by omega)]
    rw [(erase_parts a.flat[i]).1, (erase_parts a.flat[i]).2.1, (erase_parts a.flat[j]).1, (erase_parts a.flat[j]).2.1, (erase_parts b.flat[i]).2.1, (erase_parts b.flat[j]).2.1]
    exact fun k1 k2 hn => (h2 k1 k2).1 hn
  have hlen : a.erase.flat.length = b.erase.flat.length := by omega
  generalize a.erase = A at *
  generalize b.erase = B at *
  refine ⟨fun n => varT (firstN A.flat B.flat n), fit_map _ A B fa (fit2_of _ _ hlen fun i h h' => ?_)⟩
  obtain ⟨k1, k2, k3, k4⟩ := key i h h'
  refine ⟨k1, k2, k3, k4, fun hv => ?_⟩
  have hB : B.flat[i] = varT B.flat[i].n := var_of_k (flat_formed B fb _ (List.getElem_mem h')) (by rw [← k1]; exact hv)
  rw [hB]
  congr 1
  rw [firstN]
  cases hj : A.flat.findIdx? (fun p => decide (p.k = 1 ∧ p.n = A.flat[i].n)) with
  | none =>
    have := List.findIdx?_eq_none_iff.1 hj A.flat[i] (List.getElem_mem h)
    simp [hv] at this
  | some j =>
    obtain ⟨hjl, hp, hmin⟩ := List.findIdx?_eq_some_iff_getElem.1 hj
    simp only [decide_eq_true_eq] at hp
    have hji : j ≤ i := by
      refine Nat.le_of_not_lt fun hlt => ?_
      have := hmin i hlt
      simp [hv] at this
    have hjB : j < B.flat.length := by omega
    show ((B.flat[j]?).map T.n).getD _ = B.flat[i].n
    rw [List.getElem?_eq_getElem hjB]
    show B.flat[j].n = B.flat[i].n
    rcases Nat.lt_or_eq_of_le hji with hlt | rfl
    · exact (two i j h h' hjl hjB hlt hv hp.1 hp.2.symm).symm
    · rfl
theorem FitAll.symm {X Y : List Tm} (h : FitAll X Y) : FitAll Y X := by
  obtain ⟨hl, hf⟩ := h
  refine ⟨hl.symm, fun i h h' => ?_⟩
  obtain ⟨h1, h2⟩ := hf i h' h
  refine ⟨⟨h1.k.symm, h1.s.symm, h1.l.symm, fun hk => (h1.n (by rw [h1.k]; exact hk)).symm⟩, fun j g g' hj k1 k2 => ?_⟩
  exact ((h2 j g' g hj) (by rw [h1.k]; exact k1) (by rw [(hf j g' g).1.k]; exact k2)).symm
theorem matches_fitall {a b : Tm} (fa : a.erase.formed = true) (fb : b.erase.formed = true) (h1 : T.matches a.erase b.erase) (h2 : T.matches b.erase a.erase) : FitAll a.flat b.flat := by
  obtain ⟨θ, hθ⟩ := h1
  obtain ⟨φ, hφ⟩ := h2
  have la : a.erase.flat.length = a.flat.length := by rw [← flat_erase, Tm.eraseL_length]
  have lb : b.erase.flat.length = b.flat.length := by rw [← flat_erase, Tm.eraseL_length]
  have hfix : ∀ p ∈ a.erase.flat, T.map φ (T.map θ p) = p := fun p hp => by
    rw [T.map_map]
    exact fix_parts _ a.erase fa (by rw [← T.map_map, hθ, hφ]) p hp
  have hvar : ∀ p ∈ a.erase.flat, p.k = 1 → (θ p.n).k = 1 ∧ φ (θ p.n).n = p := fun p hp hk => by
    have h3 := hfix p hp
    rw [map_one hk] at h3
    have h4 : (θ p.n).k = 1 := Classical.byContradiction fun hne => by
      have := (map_notone (θ := φ) hne).1
      rw [h3, hk] at this
      exact hne this.symm
    exact ⟨h4, by rw [map_one h4] at h3; exact h3⟩
  have hnil : ∀ p ∈ a.erase.flat, p.k = 1 → (θ p.n).l = [] := fun p hp hk => by
    have h3 := mem_map θ a.erase fa p hp
    rw [hθ, map_one hk] at h3
    have h4 := var_of_k (flat_formed b.erase fb _ h3) (hvar p hp hk).1
    rw [h4]; rfl
  have hfl : b.erase.flat = a.erase.flat.map (T.map θ) := by rw [← hθ]; exact flat_map θ _ fa hnil
  have hll : a.flat.length = b.flat.length := by rw [← la, ← lb, hfl, List.length_map]
  have hat : ∀ (i : Nat) (h : i < a.flat.length) (h' : i < b.flat.length), b.flat[i].erase = T.map θ a.flat[i].erase := fun i h h' => by
    rw [← tm_flat_at b i h' (by omega), ← tm_flat_at a i h (by omega)]
    simp only [hfl, List.getElem_map]
  have hmem : ∀ (i : Nat) (h : i < a.flat.length), a.flat[i].erase ∈ a.erase.flat := fun i h => by
    rw [← tm_flat_at a i h (by omega)]
    exact List.getElem_mem _
  have hnum : ∀ (i : Nat) (h : i < a.flat.length) (h' : i < b.flat.length), a.flat[i].k = 1 → b.flat[i].k = 1 ∧ b.flat[i].n = (θ a.flat[i].n).n := fun i h h' hk => by
    have h3 := hat i h h'
    rw [map_one (by rw [(erase_parts _).1]; exact hk)] at h3
    have h4 := (hvar _ (hmem i h) (by rw [(erase_parts _).1]; exact hk)).1
    rw [← h3, (erase_parts _).1] at h4
    refine ⟨h4, ?_⟩
    rw [← (erase_parts b.flat[i]).2.1, h3, (erase_parts a.flat[i]).2.1]
  refine ⟨hll, fun i h h' => ⟨?_, fun j g g' hj k1 k2 => ?_⟩⟩
  · have h3 := hat i h h'
    have hfi := flat_formed _ fa _ (hmem i h)
    obtain ⟨e1, e2, e3, e4⟩ := erase_parts a.flat[i]
    obtain ⟨f1, f2, f3, f4⟩ := erase_parts b.flat[i]
    by_cases hk : a.flat[i].k = 1
    · have hb := (hnum i h h' hk).1
      have va := var_of_k hfi (by rw [e1]; exact hk)
      have hfb : b.flat[i].erase.formed = true := flat_formed _ fb _ (by rw [← tm_flat_at b i h' (by omega)]; exact List.getElem_mem _)
      have vb := var_of_k hfb (by rw [f1]; exact hb)
      refine ⟨by rw [hk, hb], by rw [← e3, ← f3, va, vb]; rfl, by rw [← e4, ← f4, va, vb]; rfl, fun hn => absurd hk hn⟩
    · have hk' : a.flat[i].erase.k ≠ 1 := by rw [e1]; exact hk
      obtain ⟨m1, m2, m3⟩ := map_notone (θ := θ) hk'
      have m4 := map_len (θ := θ) hfi hk'
      rw [← h3] at m1 m2 m3 m4
      rw [e1, f1] at m1
      rw [e2, f2] at m2
      rw [e3, f3] at m3
      rw [e4, f4] at m4
      exact ⟨m1.symm, m3.symm, m4.symm, fun _ => m2.symm⟩
  · obtain ⟨b1, n1⟩ := hnum i h h' k1
    obtain ⟨b2, n2⟩ := hnum j g g' k2
    rw [n1, n2]
    refine ⟨fun e => by rw [e], fun e => ?_⟩
    have v1 := (hvar _ (hmem i h) (by rw [(erase_parts _).1]; exact k1)).2
    have v2 := (hvar _ (hmem j g) (by rw [(erase_parts _).1]; exact k2)).2
    rw [(erase_parts a.flat[i]).2.1] at v1
    rw [(erase_parts a.flat[j]).2.1] at v2
    rw [e, v2] at v1
    have := congrArg T.n v1
    rw [(erase_parts a.flat[i]).2.1, (erase_parts a.flat[j]).2.1] at this
    exact this.symm
theorem fitall_iff {a b : Tm} (fa : a.erase.formed = true) (fb : b.erase.formed = true) : FitAll a.flat b.flat ↔ a.erase.norm = b.erase.norm :=
  ⟨fun h => (variant_iff fa fb).2 ⟨fitall_matches fa fb h, fitall_matches fb fa h.symm⟩, fun h => by
    obtain ⟨h1, h2⟩ := (variant_iff fa fb).1 h
    exact matches_fitall fa fb h1 h2⟩
end Go.Proofs.Ytcblmkhhhibddaa

namespace Go.Proofs.Ytcblmkhhhibddaa
open Go.RowKit Go.Maps Go.Lib

theorem append_prs (w : World) (B : Nat) (v : Value) (l : List Pr) (p : Option Addr) (c : Nat) (s : List Pr) (hs : (Prs.mk p c s).In w) (h : BuiltPrs w B v l) (hB : B ≤ w.heap.size) (hl : (l.length + s.length) * 112 ≤ 140737488351232) :
    ∃ v' w', (Builtin.append_ #[22, 22] 22 #[v, .slice p s.length c]).run Try.prog w = .ok v' w' ∧ BuiltPrs w' B v' (l ++ s) ∧ w.grownBy w' v.ownBlock ∧ (v'.ownBlock = v.ownBlock ∨ v'.ownBlock = some w.heap.size) := by
  obtain ⟨i0, hi, hz0, hz1, hz2⟩ := info_parts infoPr
  by_cases h0 : s = []
  · subst h0
    rcases h.2 with ⟨rfl, h1⟩ | ⟨g, cap, cur, rfl, hg0, hg, hnc, hr⟩
    · refine ⟨_, w, run_append_empty w _ _ _ i0 Try.underlying22 hi none 0 0 p c (Nat.le_refl _), by simpa using h, ⟨rfl, rfl, rfl, Nat.le_refl _, fun _ _ _ => rfl⟩, .inl rfl⟩
    · refine ⟨_, w, run_append_empty w _ _ _ i0 Try.underlying22 hi _ l.length cap p c hnc, by simpa using h, ⟨rfl, rfl, rfl, Nat.le_refl _, fun _ _ _ => rfl⟩, .inl rfl⟩
  · have hpos : 0 < s.length := List.length_pos_iff.2 h0
    obtain ⟨b, o, rfl⟩ := hs.ptr hpos
    obtain ⟨v', w', hr, h2, h3, h4⟩ := run_append_own_fresh (P := Try.prog) w B 22 22 33 i0 _ 8 112 Try.underlying22 hi hz0 hz1 hz2 rfl (by decide) v l.length (l.flatMap Pr.cells) h
      ⟨b, o, none⟩ s.length c (s.flatMap Pr.cells) (prcells_len s) (by
        intro j u hu
        rw [Go.WideShapes.add_plain]
        have hj : j < s.length * 8 := by have := (List.getElem?_eq_some_iff.1 hu).1; rwa [prcells_len] at this
        have hi' : j / 8 < s.length := by omega
        obtain ⟨⟨⟨c0, c1, c2, c3⟩, c4, c5, c6, c7⟩, _⟩ := hs.elem (j / 8) hi'
        have h5 := prcells_at (List.getElem?_eq_getElem hi') (j % 8) (by omega)
        rw [show j / 8 * 8 + j % 8 = j by omega, hu] at h5
        rw [show o + j = o + j / 8 * 8 + j % 8 by omega]
        have hm : j % 8 < 8 := by omega
        match hj5 : j % 8, hm with
        | 0, _ => rw [hj5] at h5; rw [h5]; exact c0
        | 1, _ => rw [hj5] at h5; rw [h5]; exact c1
        | 2, _ => rw [hj5] at h5; rw [h5]; exact c2
        | 3, _ => rw [hj5] at h5; rw [h5]; exact c3
        | 4, _ => rw [hj5] at h5; rw [h5]; exact c4
        | 5, _ => rw [hj5] at h5; rw [h5]; exact c5
        | 6, _ => rw [hj5] at h5; rw [h5]; exact c6
        | 7, _ => rw [hj5] at h5; rw [h5]; exact c7) (by
        intro u hu
        obtain ⟨y, hy, hu⟩ := List.mem_flatMap.1 hu
        simp only [Pr.cells, Tm.cells, List.cons_append, List.nil_append, List.mem_cons, List.mem_nil_iff, or_false] at hu
        rcases hu with rfl | rfl | rfl | rfl | rfl | rfl | rfl | rfl <;> rfl) (by simp only [maxLen]; omega) (by omega) hB (by omega)
    refine ⟨v', w', hr, ?_, h3, h4⟩
    show w'.ownsRow B _ 8 v' _ _
    rw [List.length_append, List.flatMap_append]
    exact h2

theorem Prs.In.kp {w w' : World} {x : Prs} {C : Nat → Prop} (h : x.In w) (k : Kp C w w') (hp : ∀ b, (Prs.val x).ownBlock = some b → ¬ C b) (hy : ∀ y ∈ x.l, y.a.In w' ∧ y.b.In w') : x.In w' := by
  obtain ⟨h1, h2, h3, -⟩ := h
  refine ⟨h1, h2, ?_, hy⟩
  rcases h3 with h3 | ⟨b, o, hb, hr⟩
  · exact .inl h3
  · have hC : ¬ C b := hp b (by rw [Prs.val, hb]; rfl)
    refine .inr ⟨b, o, hb, fun i y hy => ?_⟩
    obtain ⟨⟨a0, a1, a2, a3⟩, a4, a5, a6, a7⟩ := hr i y hy
    exact ⟨⟨k.cell a0 hC, k.cell a1 hC, k.cell a2 hC, k.cell a3 hC⟩, k.cell a4 hC, k.cell a5 hC, k.cell a6 hC, k.cell a7 hC⟩

/-- The document's store at Q: a slice v of the pairs l, whose terms lie on S. -/
structure RS (S : Nat → Prop) (w : World) (Q : Nat) (v : Value) (l : List Pr) : Prop where
  blk : BlkT w Q 102 #[v]
  row : ∃ p c, v = .slice p l.length c ∧ (Prs.mk p c l).In w
  nq : v.ownBlock ≠ some Q
  vlt : ∀ b, v.ownBlock = some b → b < w.heap.size
  onn : ∀ y ∈ l, y.a.On S ∧ y.b.On S
  form : ∀ y ∈ l, y.a.erase.formed = true ∧ y.b.erase.formed = true
  sepS : ∀ b, S b → b < w.heap.size ∧ b ≠ Q

section
variable {S : Nat → Prop} {w w' : World} {Q : Nat} {v : Value} {l : List Pr}
theorem RS.inn (h : RS S w Q v l) : ∀ y ∈ l, y.a.In w ∧ y.b.In w := by
  obtain ⟨p, c, _, h2⟩ := h.row
  exact h2.2.2.2
theorem RS.size (h : RS S w Q v l) : l.length * 112 ≤ 140737488351232 := by
  obtain ⟨p, c, _, h2⟩ := h.row
  exact h2.2.1.1
theorem RS.kp (h : RS S w Q v l) {C : Nat → Prop} (k : Kp C w w') (hQ : ¬ C Q) (hv : ∀ b, v.ownBlock = some b → ¬ C b) (hS : ∀ b, S b → ¬ C b) : RS S w' Q v l where
  blk := h.blk.kp k hQ
  row := by
    obtain ⟨p, c, rfl, h2⟩ := h.row
    exact ⟨p, c, rfl, h2.kp k hv fun y hy => ⟨kp_in (h.inn y hy).1 (h.onn y hy).1 hS k, kp_in (h.inn y hy).2 (h.onn y hy).2 hS k⟩⟩
  nq := h.nq
  vlt b hb := Nat.lt_of_lt_of_le (h.vlt b hb) k.size
  onn := h.onn
  form := h.form
  sepS b hb := ⟨Nat.lt_of_lt_of_le (h.sepS b hb).1 k.size, (h.sepS b hb).2⟩
theorem RS.gr (h : RS S w Q v l) (hg : Gr w w') : RS S w' Q v l := h.kp (C := fun _ => False) (Kp.of_gr hg) id (fun _ _ => id) fun _ _ => id
theorem RS.prs (h : RS S w Q v l) : ∃ p c, v = .slice p l.length c ∧ (Prs.mk p c l).In w := h.row
theorem RS.start (hS : ∀ b, S b → b < w.heap.size) : RS S (w.alloc (.cells #[.slice none 0 0] 102)) w.heap.size (.slice none 0 0) [] where
  blk := BlkT.new _ _ _
  row := ⟨none, 0, rfl, Nat.le_refl _, ⟨by simp, by simp⟩, .inl rfl, (fun y hy => nomatch hy)⟩
  nq h := nomatch h
  vlt b h := nomatch h
  onn y hy := nomatch hy
  form y hy := nomatch hy
  sepS b hb := ⟨by have := hS b hb; simp; omega, by have := hS b hb; omega⟩
/-- Its block has another row. -/
theorem RS.put (h : RS S w Q v l) {p' : Option Addr} {c' : Nat} {l' : List Pr} (hr : (Prs.mk p' c' l').In w) (hn : (Prs.val ⟨p', c', l'⟩).ownBlock ≠ some Q) (hvl : ∀ b, (Prs.val ⟨p', c', l'⟩).ownBlock = some b → b < w.heap.size) (ho : ∀ y ∈ l', y.a.On S ∧ y.b.On S) (hf : ∀ y ∈ l', y.a.erase.formed = true ∧ y.b.erase.formed = true) :
    RS S (w.setCell ⟨Q, 0, none⟩ (Prs.val ⟨p', c', l'⟩)) Q (Prs.val ⟨p', c', l'⟩) l' where
  blk := h.blk.set 0 _
  row := ⟨p', c', rfl, hr.kp (Kp.set (C := (· = Q)) rfl) (fun b hb e => hn (by rw [hb, e])) fun y hy => ⟨kp_in (hr.2.2.2 y hy).1 (ho y hy).1 (fun b hb => (h.sepS b hb).2) (Kp.set (C := (· = Q)) rfl), kp_in (hr.2.2.2 y hy).2 (ho y hy).2 (fun b hb => (h.sepS b hb).2) (Kp.set (C := (· = Q)) rfl)⟩⟩
  nq := hn
  vlt b hb := by have := hvl b hb; simpa using this
  onn := ho
  form := hf
  sepS b hb := ⟨by have := (h.sepS b hb).1; simpa using this, (h.sepS b hb).2⟩
theorem Prs.In.take {p : Option Addr} {c : Nat} (h : (Prs.mk p c l).In w) (n : Nat) (hn : n ≤ l.length) : (Prs.mk p n (l.take n)).In w := by
  obtain ⟨h1, h2, h3, h4⟩ := h
  simp only at h1 h2
  have hl : (l.take n).length = n := by rw [List.length_take]; omega
  refine ⟨by simp only [hl]; exact Nat.le_refl _, ⟨by simp only [hl]; omega, by simp only; omega⟩, ?_, fun y hy => h4 y (List.mem_of_mem_take hy)⟩
  rcases h3 with h3 | ⟨b, o, hb, hr⟩
  · simp only at h3
    subst h3
    exact .inl List.take_nil
  · refine .inr ⟨b, o, hb, fun i y hy => hr i y ?_⟩
    rw [List.getElem?_take] at hy
    split at hy
    · exact hy
    · cases hy
end

end Go.Proofs.Ytcblmkhhhibddaa
