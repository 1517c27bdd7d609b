/-
  Slices of terms that a call makes by append: what they hold, and that append puts one more behind.
-/
import Derived.Test.YtgaijgadeodoeaaS0
namespace Go.Proofs.Ytgaijgadeodoeaa
open Go.RowKit

mutual
theorem Tm.On.and {S S' : Nat → Prop} : ∀ {t : Tm}, t.On S → t.On S' → t.On fun b => S b ∧ S' b
  | .mk _ _ _ _ _ l, h, h' => by
    rw [Tm.On] at h h' ⊢
    refine ⟨?_, Tm.OnL.and h.2 h'.2⟩
    rcases h.1 with h1 | ⟨b, o, h1, h2⟩
    · exact .inl h1
    · rcases h'.1 with h3 | ⟨b', o', h3, h4⟩
      · exact .inl h3
      · rw [h1] at h3
        cases h3
        exact .inr ⟨b, o, h1, h2, h4⟩
theorem Tm.OnL.and {S S' : Nat → Prop} : ∀ {l : List Tm}, Tm.OnL S l → Tm.OnL S' l → Tm.OnL (fun b => S b ∧ S' b) l
  | [], _, _ => by rw [Tm.OnL]; trivial
  | _ :: _, h, h' => by
    rw [Tm.OnL] at h h' ⊢
    exact ⟨Tm.On.and h.1 h'.1, Tm.OnL.and h.2 h'.2⟩
end

theorem cells_len : ∀ l : List Tm, (l.flatMap Tm.cells).length = l.length * 4
  | [] => rfl
  | x :: xs => by rw [List.flatMap_cons, List.length_append, cells_len xs, List.length_cons, Tm.cells]; simp; omega

theorem cells_at : ∀ {l : List Tm} {i : Nat} {x : Tm}, l[i]? = some x → ∀ j, j < 4 → (l.flatMap Tm.cells)[i * 4 + j]? = x.cells[j]?
  | y :: ys, 0, x, h, j, hj => by
    simp only [List.getElem?_cons_zero, Option.some.injEq] at h
    subst h
    rw [List.flatMap_cons, Nat.zero_mul, Nat.zero_add, List.getElem?_append_left (by simp [Tm.cells]; omega)]
  | y :: ys, i + 1, x, h, j, hj => by
    simp only [List.getElem?_cons_succ] at h
    rw [List.flatMap_cons, List.getElem?_append_right (by simp [Tm.cells]; omega), ← cells_at h j hj]
    congr 1
    simp [Tm.cells]
    omega

/-- The slice v of the call's own (blocks from B on) holds the terms l; they lie on S or on what is new. -/
def Built (w : World) (B : Nat) (S : Nat → Prop) (v : Value) (l : List Tm) : Prop :=
  w.ownsRow B 28 4 v l.length (l.flatMap Tm.cells) ∧ Tm.InL w l ∧ Tm.OnL (fun b => (S b ∨ B ≤ b) ∧ b < w.heap.size ∧ v.ownBlock ≠ some b) l

theorem Built.nil (w : World) (B : Nat) (S : Nat → Prop) : Built w B S (.slice none 0 0) [] :=
  ⟨World.ownsRow_nil w B _ 4, by rw [Tm.InL]; trivial, by rw [Tm.OnL]; trivial⟩

theorem Built.gr {w w' : World} {B : Nat} {S : Nat → Prop} {v : Value} {l : List Tm} (h : Built w B S v l) (hg : Gr w w') : Built w' B S v l :=
  ⟨ownsRow_gr h.1 hg, Tm.InL_below hg h.2.1, h.2.2.mono fun _ hb => ⟨hb.1, Nat.lt_of_lt_of_le hb.2.1 hg.size, hb.2.2⟩⟩

theorem Built.block {w : World} {B : Nat} {S : Nat → Prop} {v : Value} {l : List Tm} (h : Built w B S v l) : ∀ k, v.ownBlock = some k → B ≤ k := fun k hk => (h.1.lt k hk).1

theorem Built.form {w : World} {B : Nat} {S : Nat → Prop} {v : Value} {l : List Tm} (h : Built w B S v l) : ∃ p c, v = .slice p l.length c ∧ l.length ≤ c ∧ c ≤ 9223372036854775807 := by
  rcases h.1.2 with ⟨rfl, h0⟩ | ⟨g, cap, cur, rfl, _, _, h1, h2, _⟩
  · exact ⟨none, 0, by rw [h0], by omega, by omega⟩
  · simp only [maxLen] at h2
    exact ⟨_, _, rfl, h1, by omega⟩

/-- What has been made is a slice of terms. -/
theorem Built.sl {w : World} {B : Nat} {S : Nat → Prop} {p : Option Addr} {n c : Nat} {l : List Tm} (h : Built w B S (.slice p n c) l) (hl : l.length * 56 ≤ 140737488351232) :
    n = l.length ∧ Tm.Sl w p c l ∧ Tm.SlOn (fun b => S b ∨ B ≤ b) p l := by
  have hO : Tm.OnL (fun b => S b ∨ B ≤ b) l := h.2.2.mono fun b hb => hb.1
  rcases h.1.2 with ⟨h0, h1⟩ | ⟨g, cap, cur, h0, hbg, hg, hnc, hcm, hcs, htake⟩
  · cases h0
    have hn : l = [] := List.eq_nil_of_length_eq_zero h1
    subst hn
    exact ⟨rfl, ⟨Nat.le_refl _, ⟨by simp, by omega⟩, .inl rfl, h.2.1⟩, .inl rfl, hO⟩
  · cases h0
    simp only [maxLen] at hcm
    refine ⟨rfl, ⟨hnc, ⟨hl, by omega⟩, .inr ⟨g, 0, rfl, ?_⟩, h.2.1⟩, .inr ⟨g, 0, rfl, .inr hbg⟩, hO⟩
    intro i x hx
    have hi : i < l.length := (List.getElem?_eq_some_iff.1 hx).1
    have hat : ∀ j, j < 4 → w.cell? ⟨g, 0 + i * 4 + j, none⟩ = x.cells[j]? := by
      intro j hj
      rw [Nat.zero_add, h.1.cellAt _ (by omega)]
      exact cells_at hx j hj
    exact ⟨hat 0 (by omega), hat 1 (by omega), hat 2 (by omega), hat 3 (by omega)⟩

theorem infoTerm : (Try.prog.info? 28).map (fun i => (i.zero, i.size, i.bytes)) = some (some (.agg #[.int .i64 0, .int .i64 0, .string ⟨#[]⟩, .slice none 0 0]), 4, 56) := by kernel_rfl

/-- append of one term. -/
theorem Built.snoc {w w' : World} {B : Nat} {S : Nat → Prop} {v v' : Value} {l : List Tm} {x : Tm} (h : Built w B S v l) (hx : x.In w) (hxo : x.On fun b => (S b ∨ B ≤ b) ∧ v.ownBlock ≠ some b)
    (ho : w'.ownsRow B 28 4 v' (l.length + 1) (l.flatMap Tm.cells ++ x.cells)) (hg : w.grownBy w' v.ownBlock) (hv : v'.ownBlock = v.ownBlock ∨ v'.ownBlock = some w.heap.size) : Built w' B S v' (l ++ [x]) := by
  have hxo' : x.On (fun b => (S b ∨ B ≤ b) ∧ b < w.heap.size ∧ v.ownBlock ≠ some b) := by
    exact Tm.On.and hxo (Tm.In.on hx) |>.mono fun b hb => ⟨hb.1.1, hb.2, hb.1.2⟩
  have hall : Tm.OnL (fun b => (S b ∨ B ≤ b) ∧ b < w.heap.size ∧ v.ownBlock ≠ some b) (l ++ [x]) := Tm.OnL_of fun y hy => by
    rcases List.mem_append.1 hy with hy | hy
    · exact Tm.OnL_mem h.2.2 y hy
    · simp only [List.mem_cons, List.mem_nil_iff, or_false] at hy
      rw [hy]; exact hxo'
  have hin : Tm.InL w (l ++ [x]) := Tm.InL_of fun y hy => by
    rcases List.mem_append.1 hy with hy | hy
    · exact Tm.InL_mem h.2.1 y hy
    · simp only [List.mem_cons, List.mem_nil_iff, or_false] at hy
      rw [hy]; exact hx
  refine ⟨by simpa using ho, Tm.InL.same (S := fun b => (S b ∨ B ≤ b) ∧ b < w.heap.size ∧ v.ownBlock ≠ some b) (fun b hb o => World.cell?_of_block (hg.block b hb.2.1 (Ne.symm hb.2.2))) hin hall, hall.mono fun b hb => ⟨hb.1, Nat.lt_of_lt_of_le hb.2.1 hg.size, ?_⟩⟩
  rcases hv with hv | hv
  · rw [hv]; exact hb.2.2
  · rw [hv]; intro e; have := Option.some.inj e; have := hb.2.1; omega

theorem wpList_append_term {P : Program} {w : World} {ops : Array Oper} {rest : List Oper} {o : Oper} {a : Act} {Q : Exit → Act → World → Prop} (hgd : o.guard = none) (s y : Operand)
    (ho : o.op = .call { callee := .builtin .append, args := #[s, y], argTypes := #[26, 26] }) (hP : P = Try.prog)
    (B : Nat) (S : Nat → Prop) (v : Value) (l : List Tm) (x : Tm) (b c : Nat) (hs : a.eval s = v) (hy : a.eval y = .slice (some ⟨b, 0, none⟩) 1 c) (h : Built w B S v l) (hB : B ≤ w.heap.size)
    (hx : x.In w) (hxo : x.On fun b => (S b ∨ B ≤ b) ∧ v.ownBlock ≠ some b) (hl : (l.length + 1) * 56 ≤ 140737488351232)
    (c0 : w.cell? ⟨b, 0, none⟩ = some (.int .i64 x.k)) (c1 : w.cell? ⟨b, 1, none⟩ = some (.int .i64 x.n)) (c2 : w.cell? ⟨b, 2, none⟩ = some (.string x.s)) (c3 : w.cell? ⟨b, 3, none⟩ = some (.slice x.p x.l.length x.c))
    (hK : ∀ v' w', Built w' B S v' (l ++ [x]) → Below B w w' → (∀ p : Addr, p.block < w.heap.size → v.ownBlock ≠ some p.block → w'.cell? p = w.cell? p) → wpList P ops Q rest (a.put o.dst v') w') : wpList P ops Q (o :: rest) a w := by
  subst hP
  obtain ⟨i0, hi, hz0, hz1, hz2⟩ := info_parts infoTerm
  obtain ⟨v', w', hr, h2, h3, h4⟩ := run_append_own_fresh (P := Try.prog) w B 26 o.type 28 i0 _ 4 56 Try.underlying26 hi hz0 hz1 hz2 rfl (by decide) v l.length (l.flatMap Tm.cells) h.1
    ⟨b, 0, none⟩ 1 c x.cells rfl (by
      intro j u hu
      match j, hu with
      | 0, hu => cases hu; exact c0
      | 1, hu => cases hu; exact c1
      | 2, hu => cases hu; exact c2
      | 3, hu => cases hu; exact c3
      | j + 4, hu => simp [Tm.cells] at hu) (by
      intro u hu
      simp only [Tm.cells, List.mem_cons, List.mem_nil_iff, or_false] at hu
      rcases hu with rfl | rfl | rfl | rfl <;> rfl) (by simp only [maxLen]; omega) (by omega) hB (by omega)
  refine wpList_plain hgd fun K hK' => ?_
  unfold Oper.wp execOp
  simp only [ho, resolve, invoke, builtin, Sem.run_bind, Sem.run_pure, Result.andThen_ok, List.map_toArray, List.map_cons, List.map_nil, hs, hy, hr]
  exact hK' _ _ (hK v' w' (h.snoc hx hxo h2 h3 h4) (grownBy_below h3 hB h.block) fun p hp hne => World.cell?_of_block (h3.block p.block hp (Ne.symm hne)))

end Go.Proofs.Ytgaijgadeodoeaa
