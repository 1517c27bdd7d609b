/-
  Plain: a term that is folded comes to the same, whatever its variables become.
-/
import Derived.Test.YtgaijgadeodoeaaF3
namespace Go.Proofs.Ytgaijgadeodoeaa
open Go.RowKit

theorem T.formed_cases {t : T} (h : t.formed = true) : (∃ n, t = .mk 1 n [] [] ∧ 0 ≤ n ∧ n ≤ 1099511627776) ∨ (∃ n, t = .mk 2 n [] []) ∨ (∃ s, t = .mk 3 0 s [] ∧ s.length ≤ 100) ∨
    (∃ s l, t = .mk 4 0 s l ∧ s.length ≤ 100 ∧ 1 ≤ l.length ∧ l.length ≤ 50 ∧ T.formedL l = true) := by
  obtain ⟨k, n, s, l⟩ := t
  rw [T.formed] at h
  by_cases h1 : k = 1
  · subst h1
    simp at h
    exact .inl ⟨n, by rw [h.1.2, h.2], h.1.1.1, h.1.1.2⟩
  by_cases h2 : k = 2
  · subst h2
    simp at h
    exact .inr (.inl ⟨n, by rw [h.1, h.2]⟩)
  by_cases h3 : k = 3
  · subst h3
    simp at h
    exact .inr (.inr (.inl ⟨s, by rw [h.1.1, h.2], h.1.2⟩))
  by_cases h4 : k = 4
  · subst h4
    simp at h
    exact .inr (.inr (.inr ⟨s, l, by rw [h.1.1.1.1], h.1.1.1.2, h.1.1.2, h.1.2, h.2⟩))
  · simp [h1, h2, h3, h4] at h

theorem T.formedL_mem : ∀ {l : List T}, T.formedL l = true → ∀ x ∈ l, x.formed = true
  | y :: ys, h, x, hx => by
    rw [T.formedL, Bool.and_eq_true] at h
    rcases List.mem_cons.1 hx with rfl | hx
    · exact h.1
    · exact T.formedL_mem h.2 x hx

theorem T.formedL_of : ∀ {l : List T}, (∀ x ∈ l, x.formed = true) → T.formedL l = true
  | [], _ => by rw [T.formedL]
  | y :: ys, h => by
    rw [T.formedL, Bool.and_eq_true]
    exact ⟨h y (List.mem_cons_self ..), T.formedL_of fun x hx => h x (List.mem_cons_of_mem _ hx)⟩

theorem T.mapL_eq (f : Int → T) : ∀ l : List T, T.mapL f l = l.map (T.map f)
  | [] => by rw [T.mapL]; rfl
  | x :: xs => by rw [T.mapL, T.mapL_eq f xs]; rfl

theorem T.foldL_eq : ∀ l : List T, T.foldL l = l.map T.fold
  | [] => by rw [T.foldL]; rfl
  | x :: xs => by rw [T.foldL, T.foldL_eq xs]; rfl

theorem T.map_comp (f : Int → T) (n : Int) (s : Str) (l : List T) : T.map f (.mk 4 n s l) = .mk 4 n s (l.map (T.map f)) := by
  rw [T.map, if_neg (by decide), if_pos rfl, T.mapL_eq]

theorem evalT_atom (s : Str) : ∃ b, evalT (.mk 3 0 s []) = .bad b := ⟨_, evalT_more (by decide) (by decide) (by decide) (by decide)⟩

theorem T.size_mem {l : List T} {x : T} (h : x ∈ l) (k n : Int) (s : Str) : SizeOf.sizeOf x < SizeOf.sizeOf (T.mk k n s l) := by
  have := List.sizeOf_lt_of_mem h
  simp only [T.mk.sizeOf_spec]
  omega

theorem evalT_map (f : Int → T) (N : Nat) : ∀ t : T, SizeOf.sizeOf t ≤ N → t.formed = true → ∀ m, evalT t = .ok m → evalT (T.map f t) = .ok m := by
  induction N with
  | zero => intro t h; cases t; simp at h
  | succ N ih =>
    intro t hN hf m hm
    rcases T.formed_cases hf with ⟨n, rfl, _⟩ | ⟨n, rfl⟩ | ⟨s, rfl, _⟩ | ⟨s, l, rfl, _, _, _, hl⟩
    · rw [evalT_var] at hm; cases hm
    · rw [evalT_int] at hm
      cases hm
      rw [T.map, if_neg (by decide), if_neg (by decide), evalT_int]
    · obtain ⟨b, hb⟩ := evalT_atom s
      rw [hb] at hm; cases hm
    · rw [T.map_comp]
      have hsz := fun x (hx : x ∈ l) => T.size_mem hx 4 0 s
      by_cases h1 : l.length = 1
      · obtain ⟨x, rfl⟩ := List.length_eq_one_iff.1 h1
        rw [evalT_one (by decide) (by decide)] at hm
        rw [List.map_cons, List.map_nil, evalT_one (by decide) (by decide)]
        cases hp : prim1 s with
        | none => rw [hp] at hm; cases hm
        | some g =>
          rw [hp] at hm
          cases hx : evalT x with
          | bad b => rw [hx] at hm; cases hm
          | ok a =>
            rw [hx] at hm
            have := ih x (by have := hsz x (by simp); omega) (T.formedL_mem hl x (by simp)) a hx
            rw [this]
            exact hm
      by_cases h2 : l.length = 2
      · obtain ⟨x, y, rfl⟩ := len_two h2
        rw [evalT_two (by decide) (by decide)] at hm
        rw [List.map_cons, List.map_cons, List.map_nil, evalT_two (by decide) (by decide)]
        cases hp : prim2 s with
        | none => rw [hp] at hm; cases hm
        | some g =>
          rw [hp] at hm
          cases hx : evalT x with
          | bad b => rw [hx] at hm; cases hm
          | ok a =>
            rw [hx] at hm
            cases hy : evalT y with
            | bad b => rw [hy] at hm; cases hm
            | ok c =>
              rw [hy] at hm
              rw [ih x (by have := hsz x (by simp); omega) (T.formedL_mem hl x (by simp)) a hx, ih y (by have := hsz y (by simp); omega) (T.formedL_mem hl y (by simp)) c hy]
              exact hm
      · rw [evalT_more (by decide) (by decide) h1 h2] at hm; cases hm

theorem evalT_map_fold (f : Int → T) (N : Nat) : ∀ t : T, SizeOf.sizeOf t ≤ N → t.formed = true → evalT (T.map f (T.fold t)) = evalT (T.map f t) := by
  induction N with
  | zero => intro t h; cases t; simp at h
  | succ N ih =>
    intro t hN hf
    rcases T.formed_cases hf with ⟨n, rfl, _⟩ | ⟨n, rfl⟩ | ⟨s, rfl, _⟩ | ⟨s, l, rfl, _, _, _, hl⟩
    · rw [T.fold, if_neg (by decide)]
    · rw [T.fold, if_neg (by decide)]
    · rw [T.fold, if_neg (by decide)]
    · rw [T.fold, if_pos rfl]
      cases hev : evalT (.mk 4 0 s l) with
      | ok m =>
        rw [evalT_map f _ _ (Nat.le_refl _) hf m hev]
        show evalT (T.map f (intT m)) = _
        rw [intT, T.map, if_neg (by decide), if_neg (by decide), evalT_int]
      | bad b =>
        show evalT (T.map f (.mk 4 0 s (T.foldL l))) = _
        rw [T.map_comp, T.map_comp, T.foldL_eq, List.map_map]
        have hsz := fun x (hx : x ∈ l) => T.size_mem hx 4 0 s
        by_cases h1 : l.length = 1
        · obtain ⟨x, rfl⟩ := List.length_eq_one_iff.1 h1
          rw [List.map_cons, List.map_nil, evalT_one (by decide) (by decide), List.map_cons, List.map_nil, evalT_one (by decide) (by decide)]
          rw [Function.comp, ih x (by have := hsz x (by simp); omega) (T.formedL_mem hl x (by simp))]
        by_cases h2 : l.length = 2
        · obtain ⟨x, y, rfl⟩ := len_two h2
          rw [List.map_cons, List.map_cons, List.map_nil, evalT_two (by decide) (by decide), List.map_cons, List.map_cons, List.map_nil, evalT_two (by decide) (by decide)]
          simp only [Function.comp]
          rw [ih x (by have := hsz x (by simp); omega) (T.formedL_mem hl x (by simp)), ih y (by have := hsz y (by simp); omega) (T.formedL_mem hl y (by simp))]
        · rw [evalT_more (by decide) (by decide) (by simpa using h1) (by simpa using h2), evalT_more (by decide) (by decide) (by simpa using h1) (by simpa using h2), List.length_map, List.length_map]

theorem T.formed_mk4 {s : Str} {l : List T} (h1 : s.length ≤ 100) (h2 : 1 ≤ l.length) (h3 : l.length ≤ 50) (h4 : T.formedL l = true) : (T.mk 4 0 s l).formed = true := by
  rw [T.formed]
  simp [h1, h2, h3, h4]

theorem T.formed_fold (N : Nat) : ∀ t : T, SizeOf.sizeOf t ≤ N → t.formed = true → (T.fold t).formed = true := by
  induction N with
  | zero => intro t h; cases t; simp at h
  | succ N ih =>
    intro t hN hf
    rcases T.formed_cases hf with ⟨n, rfl, _⟩ | ⟨n, rfl⟩ | ⟨s, rfl, _⟩ | ⟨s, l, rfl, h1, h2, h3, hl⟩
    · rw [T.fold, if_neg (by decide)]; exact hf
    · rw [T.fold, if_neg (by decide)]; exact hf
    · rw [T.fold, if_neg (by decide)]; exact hf
    · rw [T.fold, if_pos rfl]
      cases hev : evalT (.mk 4 0 s l) with
      | ok m => show (intT m).formed = true; rw [intT, T.formed]; simp
      | bad b =>
        show (T.mk 4 0 s (T.foldL l)).formed = true
        rw [T.foldL_eq]
        refine T.formed_mk4 h1 (by simpa using h2) (by simpa using h3) (T.formedL_of fun x hx => ?_)
        obtain ⟨y, hy, rfl⟩ := List.mem_map.1 hx
        exact ih y (by have := T.size_mem hy 4 0 s; omega) (T.formedL_mem hl y hy)

theorem T.formed_map (f : Int → T) (hf : ∀ n, 0 ≤ n → n ≤ 1099511627776 → (f n).formed = true) (N : Nat) : ∀ t : T, SizeOf.sizeOf t ≤ N → t.formed = true → (T.map f t).formed = true := by
  induction N with
  | zero => intro t h; cases t; simp at h
  | succ N ih =>
    intro t hN ht
    rcases T.formed_cases ht with ⟨n, rfl, h0, h1⟩ | ⟨n, rfl⟩ | ⟨s, rfl, _⟩ | ⟨s, l, rfl, h1, h2, h3, hl⟩
    · rw [T.map, if_pos rfl]; exact hf n h0 h1
    · rw [T.map, if_neg (by decide), if_neg (by decide)]; exact ht
    · rw [T.map, if_neg (by decide), if_neg (by decide)]; exact ht
    · rw [T.map_comp]
      refine T.formed_mk4 h1 (by simpa using h2) (by simpa using h3) (T.formedL_of fun x hx => ?_)
      obtain ⟨y, hy, rfl⟩ := List.mem_map.1 hx
      exact ih y (by have := T.size_mem hy 4 0 s; omega) (T.formedL_mem hl y hy)

/-- FOLDING CHANGES NOTHING. -/
theorem evalR_map_fold (f : Int → T) (hf : ∀ n, 0 ≤ n → n ≤ 1099511627776 → (f n).formed = true) {t : T} (ht : t.formed = true) : evalR (T.map f (T.fold t)) = evalR (T.map f t) := by
  rw [evalR, evalR, if_pos (T.formed_map f hf _ _ (Nat.le_refl _) (T.formed_fold _ _ (Nat.le_refl _) ht)), if_pos (T.formed_map f hf _ _ (Nat.le_refl _) ht), evalT_map_fold f _ _ (Nat.le_refl _) ht]
end Go.Proofs.Ytgaijgadeodoeaa
