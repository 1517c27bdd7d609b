/-
  term.V, term.Map with a function that keeps nothing, term.Copy.
-/
import Derived.Test.YtgaijgadeodoeaaS1
import Derived.Test.YtgaijgadeodoeaaK1
namespace Go.Proofs.Ytgaijgadeodoeaa
open Go.RowKit

/-- A variable. -/
def varTm (n : Int) : Tm := .mk 1 n ⟨#[]⟩ none 0 []
def varT (n : Int) : T := .mk 1 n [] []
theorem varTm_on {S : Nat → Prop} (n : Int) : (varTm n).On S := by rw [varTm, Tm.On, Tm.OnL]; exact ⟨.inl rfl, trivial⟩
theorem varTm_erase (n : Int) : (varTm n).erase = varT n := by rw [varTm, Tm.erase, Tm.eraseL, ByteArray.toList_mk]; rfl
theorem varTm_in {n : Int} (h : In64 n) (w : World) : (varTm n).In w := by
  rw [varTm, Tm.In, Tm.InL]
  exact ⟨⟨by omega, by omega⟩, h, by decide, Nat.le_refl _, ⟨by simp, by omega⟩, .inl rfl, trivial⟩

set_option maxHeartbeats 400000 in
theorem v_calls (n : Int) (w : World) (h : In64 n) : Calls Try.prog 79 #[.int .i64 n] w (RetTm (w.heap.size ≤ ·) (varT n) w) := by
  have H := Lib.hid h
  clear h
  go_enter Try.func79, Try.ntmps79
  go_wp2_with fail
  exact bodyPost_ret (v := (varTm n).val) (by simp [results, Try.results79, go_sem, varTm, Tm.val, Tm.k, Tm.n, Tm.s, Tm.p, Tm.c, Tm.l]) rfl ⟨varTm n, varTm_in H.out _, varTm_erase n, rfl, by go_grown, varTm_on n⟩

mutual
/-- The term whose variables are what a function says. -/
def T.map (f : Int → T) : T → T
  | .mk k n s l => if k = 1 then f n else if k = 4 then .mk k n s (T.mapL f l) else .mk k n s []
def T.mapL (f : Int → T) : List T → List T
  | [] => []
  | x :: xs => T.map f x :: T.mapL f xs
end

theorem T.mapL_length (f : Int → T) : ∀ l : List T, (T.mapL f l).length = l.length
  | [] => by simp [T.mapL]
  | x :: xs => by rw [T.mapL, List.length_cons, T.mapL_length f xs, List.length_cons]

theorem T.mapL_take (f : Int → T) : ∀ (l : List T) (k : Nat) (hk : k < l.length), T.mapL f (l.take (k + 1)) = T.mapL f (l.take k) ++ [T.map f l[k]]
  | [], k, hk => absurd hk (by simp)
  | x :: xs, 0, _ => by simp [T.mapL]
  | x :: xs, k + 1, hk => by
    simp only [List.take_succ_cons, T.mapL, List.getElem_cons_succ, List.cons_append]
    rw [T.mapL_take f xs k (by simpa using hk)]

theorem eraseL_append : ∀ (l l' : List Tm), Tm.eraseL (l ++ l') = Tm.eraseL l ++ Tm.eraseL l'
  | [], l' => by simp [Tm.eraseL]
  | x :: xs, l' => by rw [List.cons_append, Tm.eraseL, Tm.eraseL, eraseL_append xs l', List.cons_append]

theorem eraseL_getElem : ∀ (l : List Tm) (k : Nat) (hk : k < l.length), (Tm.eraseL l)[k]'(by rw [Tm.eraseL_length]; exact hk) = l[k].erase
  | x :: xs, 0, _ => by simp [Tm.eraseL]
  | x :: xs, k + 1, hk => by
    simp only [Tm.eraseL, List.getElem_cons_succ]
    exact eraseL_getElem xs k (by simpa using hk)

theorem T.mapL_erase (f : Int → T) : ∀ (l : List Tm) (k : Nat) (hk : k < l.length), T.mapL f (Tm.eraseL (l.take (k + 1))) = T.mapL f (Tm.eraseL (l.take k)) ++ [T.map f l[k].erase]
  | x :: xs, 0, _ => by simp [T.mapL, Tm.eraseL]
  | x :: xs, k + 1, hk => by
    simp only [List.take_succ_cons, Tm.eraseL, T.mapL, List.getElem_cons_succ, List.cons_append]
    rw [T.mapL_erase f xs k (by simpa using hk)]

theorem formed_elem {k n : Int} {s : ByteArray} {p : Option Addr} {c : Nat} {l : List Tm} (hk : k = 4) (h : (Tm.mk k n s p c l).erase.formed = true) : n = 0 ∧ s.size ≤ 100 ∧ 1 ≤ l.length ∧ l.length ≤ 50 ∧ ∀ x ∈ l, x.erase.formed = true := by
  subst hk
  simp only [Tm.erase, T.formed, Tm.eraseL_length, toList_length] at h
  simp at h
  obtain ⟨⟨⟨⟨h1, h2⟩, h3⟩, h4⟩, h5⟩ := h
  refine ⟨h1, h2, h3, h4, ?_⟩
  intro x hx
  cases hf : x.erase.formed with
  | true => rfl
  | false => rw [formedL_false hx hf] at h5; cases h5

/-- A row of n terms that is being filled: the first ones stand. -/
def Filling (w : World) (B : Nat) (S : Nat → Prop) (g n : Nat) (l : List Tm) : Prop :=
  B ≤ g ∧ l.length ≤ n ∧ (∃ cur : Array Value, w.heap[g]? = some (.cells cur 28) ∧ cur.size = n * 4 ∧ ∀ i x, l[i]? = some x → ∀ j, j < 4 → cur[i * 4 + j]? = x.cells[j]?) ∧
  Tm.InL w l ∧ Tm.OnL (fun b => (S b ∨ B ≤ b) ∧ b < w.heap.size ∧ b ≠ g) l

theorem Filling.gr {w w' : World} {B : Nat} {S : Nat → Prop} {g n : Nat} {l : List Tm} (h : Filling w B S g n l) (hg : Gr w w') : Filling w' B S g n l := by
  obtain ⟨h1, h2, ⟨cur, h3, h4⟩, h5, h6⟩ := h
  exact ⟨h1, h2, ⟨cur, (hg.block g (Array.getElem?_eq_some_iff.1 h3).1).trans h3, h4⟩, Tm.InL_below hg h5, h6.mono fun b hb => ⟨hb.1, Nat.lt_of_lt_of_le hb.2.1 hg.size, hb.2.2⟩⟩

theorem Filling.spot {w : World} {B : Nat} {S : Nat → Prop} {g n : Nat} {l : List Tm} (h : Filling w B S g n l) {j : Nat} (hj : j < n * 4) : (∃ v, w.cell? ⟨g, j, none⟩ = some v) ∧ w.frozen? ⟨g, j, none⟩ = false := by
  obtain ⟨h1, h2, ⟨cur, h3, h4, _⟩, _, _⟩ := h
  exact ⟨⟨cur[j]'(by omega), by rw [cell_of_row w g j _ _ _ h3]; exact Array.getElem?_eq_getElem (by omega)⟩, frozen_of_row w g j _ _ h3⟩

theorem Filling.lt {w : World} {B : Nat} {S : Nat → Prop} {g n : Nat} {l : List Tm} (h : Filling w B S g n l) : g < w.heap.size := by
  obtain ⟨_, _, ⟨cur, h3, _⟩, _, _⟩ := h
  exact (Array.getElem?_eq_some_iff.1 h3).1

theorem Filling.store {w : World} {B : Nat} {S : Nat → Prop} {g n : Nat} {l : List Tm} {x : Tm} (h : Filling w B S g n l) (hl : l.length < n) (hx : x.In w) (hxo : x.On fun b => (S b ∨ B ≤ b) ∧ b ≠ g) :
    Filling ((((w.setCell ⟨g, l.length * 4, none⟩ (.int .i64 x.k)).setCell ⟨g, l.length * 4 + 1, none⟩ (.int .i64 x.n)).setCell ⟨g, l.length * 4 + 2, none⟩ (.string x.s)).setCell ⟨g, l.length * 4 + 3, none⟩ (.slice x.p x.l.length x.c)) B S g n (l ++ [x]) := by
  obtain ⟨h1, h2, ⟨cur, h3, h4, h7⟩, h5, h6⟩ := h
  have hxo' : x.On (fun b => (S b ∨ B ≤ b) ∧ b < w.heap.size ∧ b ≠ g) := (Tm.On.and hxo (Tm.In.on hx)).mono fun b hb => ⟨hb.1.1, hb.2, hb.1.2⟩
  have hall : Tm.OnL (fun b => (S b ∨ B ≤ b) ∧ b < w.heap.size ∧ b ≠ g) (l ++ [x]) := Tm.OnL_of fun y hy => by
    rcases List.mem_append.1 hy with hy | hy
    · exact Tm.OnL_mem h6 y hy
    · simp only [List.mem_cons, List.mem_nil_iff, or_false] at hy
      rw [hy]; exact hxo'
  have hin : Tm.InL w (l ++ [x]) := Tm.InL_of fun y hy => by
    rcases List.mem_append.1 hy with hy | hy
    · exact Tm.InL_mem h5 y hy
    · simp only [List.mem_cons, List.mem_nil_iff, or_false] at hy
      rw [hy]; exact hx
  refine ⟨h1, by simp; omega, ⟨(((cur.setIfInBounds (l.length * 4) (.int .i64 x.k)).setIfInBounds (l.length * 4 + 1) (.int .i64 x.n)).setIfInBounds (l.length * 4 + 2) (.string x.s)).setIfInBounds (l.length * 4 + 3) (.slice x.p x.l.length x.c), ?_, by simpa using h4, ?_⟩,
    Tm.InL.same (S := fun b => (S b ∨ B ≤ b) ∧ b < w.heap.size ∧ b ≠ g) (fun b hb o => by rw [cell_set_ne hb.2.2, cell_set_ne hb.2.2, cell_set_ne hb.2.2, cell_set_ne hb.2.2]) hin hall, hall.mono fun b hb => ⟨hb.1, by simpa using hb.2.1, hb.2.2⟩⟩
  · exact heap_setCell_same _ g _ _ _ _ (heap_setCell_same _ g _ _ _ _ (heap_setCell_same _ g _ _ _ _ (heap_setCell_same _ g _ _ _ _ h3)))
  · intro i y hi j hj
    by_cases hil : i < l.length
    · rw [List.getElem?_append_left hil] at hi
      rw [← h7 i y hi j hj]
      simp only [Array.getElem?_setIfInBounds]
      rw [if_neg (by omega), if_neg (by omega), if_neg (by omega), if_neg (by omega)]
    · rw [List.getElem?_append_right (by omega)] at hi
      have hi0 : i = l.length := by
        have := (List.getElem?_eq_some_iff.1 hi).1
        simp at this
        omega
      subst hi0
      simp only [Nat.sub_self, List.getElem?_cons_zero, Option.some.injEq] at hi
      subst hi
      have hsz : ∀ j, j < 4 → l.length * 4 + j < cur.size := by intro j hj; omega
      have s0 := hsz 0 (by omega); have s1 := hsz 1 (by omega); have s2 := hsz 2 (by omega); have s3 := hsz 3 (by omega)
      simp only [Nat.add_zero] at s0
      match j, hj with
      | 0, _ => simp [Array.getElem?_setIfInBounds, s0, Tm.cells]
      | 1, _ => simp [Array.getElem?_setIfInBounds, s1, Tm.cells]
      | 2, _ => simp [Array.getElem?_setIfInBounds, s2, Tm.cells]
      | 3, _ => simp [Array.getElem?_setIfInBounds, s3, Tm.cells]

/-- A row that is filled is a slice of terms. -/
theorem Filling.sl {w : World} {B : Nat} {S : Nat → Prop} {g n : Nat} {l : List Tm} (h : Filling w B S g n l) (hl : l.length = n) (hb : n * 56 ≤ 140737488351232) : Tm.Sl w (some ⟨g, 0, none⟩) n l ∧ Tm.SlOn (fun b => S b ∨ B ≤ b) (some ⟨g, 0, none⟩) l := by
  obtain ⟨h1, h2, ⟨cur, h3, h4, h7⟩, h5, h6⟩ := h
  subst hl
  refine ⟨⟨Nat.le_refl _, ⟨hb, by omega⟩, .inr ⟨g, 0, rfl, ?_⟩, h5⟩, .inr ⟨g, 0, rfl, .inr h1⟩, h6.mono fun b hb => hb.1⟩
  intro i x hx
  have hat : ∀ j, j < 4 → w.cell? ⟨g, 0 + i * 4 + j, none⟩ = x.cells[j]? := fun j hj => by rw [Nat.zero_add, cell_of_row w g _ _ _ _ h3]; exact h7 i x hx j hj
  exact ⟨hat 0 (by omega), hat 1 (by omega), hat 2 (by omega), hat 3 (by omega)⟩

theorem Filling.new {w' : World} {B B0 : Nat} {S : Nat → Prop} {g n : Nat} {xs : List Value} (hB : B ≤ g) (h : w'.ownsRow B0 28 4 (.slice (some ⟨g, 0, none⟩) n n) n xs) : Filling w' B S g n [] := by
  rcases h.2 with ⟨h0, _⟩ | ⟨g', cap, cur, h0, hbg, hg, hnc, hcm, hcs, htake⟩
  · cases h0
  · cases h0
    exact ⟨hB, by simp, ⟨cur, hg, hcs, fun i x hx => by simp at hx⟩, by rw [Tm.InL]; trivial, by rw [Tm.OnL]; trivial⟩

end Go.Proofs.Ytgaijgadeodoeaa
