/-
  Renaming, bodies and clauses: what they are (no program here).
-/
import Derived.Test.YtgaijgadeodoeaaF1
import Derived.Test.YtgaijgadeodoeaaT2
namespace Go.Proofs.Ytgaijgadeodoeaa

/-! ### Variables in their order, and renaming -/
mutual
def T.vars : T → List Int → List Int
  | .mk k n _ l, V => if k = 1 then (if n ∈ V then V else V ++ [n]) else T.varsL l V
def T.varsL : List T → List Int → List Int
  | [], V => V
  | x :: xs, V => T.varsL xs (T.vars x V)
end

/-- The new number of a variable. -/
def swapF (d : Int) (V : List Int) (n : Int) : T := if n ∈ V then varT (d + (V.idxOf n : Int)) else varT n

theorem T.varsL_append : ∀ (l l' : List T) (V : List Int), T.varsL (l ++ l') V = T.varsL l' (T.varsL l V)
  | [], l', V => by rw [List.nil_append, T.varsL]
  | x :: xs, l', V => by rw [List.cons_append, T.varsL, T.varsL, T.varsL_append xs l']
theorem T.varsL_single (x : T) (V : List Int) : T.varsL [x] V = T.vars x V := by rw [T.varsL, T.varsL]

mutual
theorem T.vars_prefix : ∀ (t : T) (V : List Int), V <+: T.vars t V
  | .mk k n _ l, V => by
    rw [T.vars]
    split
    · split
      · exact List.prefix_rfl
      · exact List.prefix_append _ _
    · exact T.varsL_prefix l V
theorem T.varsL_prefix : ∀ (l : List T) (V : List Int), V <+: T.varsL l V
  | [], V => by rw [T.varsL]; exact List.prefix_rfl
  | x :: xs, V => by rw [T.varsL]; exact (T.vars_prefix x V).trans (T.varsL_prefix xs _)
end

theorem idxOf_prefix {V W : List Int} (h : V <+: W) {n : Int} (hn : n ∈ V) : W.idxOf n = V.idxOf n := by
  obtain ⟨s, rfl⟩ := h
  rw [List.idxOf_append, if_pos hn]

theorem swapF_prefix {d : Int} {V W : List Int} (h : V <+: W) {n : Int} (hn : n ∈ V) : swapF d W n = swapF d V n := by
  rw [swapF, swapF, if_pos (h.subset hn), if_pos hn, idxOf_prefix h hn]

mutual
/-- All variables of the term are in the list. -/
def T.within (V : List Int) : T → Prop
  | .mk k n _ l => (k = 1 → n ∈ V) ∧ T.withinL V l
def T.withinL (V : List Int) : List T → Prop
  | [] => True
  | x :: xs => T.within V x ∧ T.withinL V xs
end

mutual
theorem T.within_mono {V W : List Int} (h : ∀ n ∈ V, n ∈ W) : ∀ {t : T}, T.within V t → T.within W t
  | .mk _ _ _ _, ht => by
    rw [T.within] at ht ⊢
    exact ⟨fun hk => h _ (ht.1 hk), T.withinL_mono h ht.2⟩
theorem T.withinL_mono {V W : List Int} (h : ∀ n ∈ V, n ∈ W) : ∀ {l : List T}, T.withinL V l → T.withinL W l
  | [], _ => by rw [T.withinL]; trivial
  | _ :: _, hl => by
    rw [T.withinL] at hl ⊢
    exact ⟨T.within_mono h hl.1, T.withinL_mono h hl.2⟩
end

theorem formed_args {k n : Int} {s : List UInt8} {l : List T} (h : (T.mk k n s l).formed = true) : (k = 4 ∧ T.formedL l = true) ∨ (k ≠ 4 ∧ l = []) := by
  rw [T.formed] at h
  by_cases h1 : k = 1
  · subst h1
    simp at h
    exact .inr ⟨by decide, h.2⟩
  · by_cases h2 : k = 2
    · subst h2
      simp at h
      exact .inr ⟨by decide, h.2⟩
    · by_cases h3 : k = 3
      · subst h3
        simp at h
        exact .inr ⟨by decide, h.2⟩
      · by_cases h4 : k = 4
        · subst h4
          simp at h
          exact .inl ⟨rfl, h.2⟩
        · simp [h1, h2, h3, h4] at h

mutual
theorem T.vars_within : ∀ (t : T) (V : List Int), t.formed = true → T.within (T.vars t V) t
  | .mk k n s l, V, h => by
    rw [T.within]
    by_cases h1 : k = 1
    · subst h1
      rcases formed_args h with ⟨h4, _⟩ | ⟨_, rfl⟩
      · cases h4
      · refine ⟨fun _ => ?_, by rw [T.withinL]; trivial⟩
        rw [T.vars, if_pos rfl]
        split
        · assumption
        · simp
    · rw [T.vars, if_neg h1]
      refine ⟨fun e => absurd e h1, ?_⟩
      rcases formed_args h with ⟨_, hl⟩ | ⟨_, rfl⟩
      · exact T.varsL_within l V hl
      · rw [T.withinL]; trivial
theorem T.varsL_within : ∀ (l : List T) (V : List Int), T.formedL l = true → T.withinL (T.varsL l V) l
  | [], V, _ => by rw [T.withinL]; trivial
  | x :: xs, V, h => by
    rw [T.formedL, Bool.and_eq_true] at h
    rw [T.withinL, T.varsL]
    exact ⟨T.within_mono (fun n hn => (T.varsL_prefix xs _).subset hn) (T.vars_within x V h.1), T.varsL_within xs _ h.2⟩
end

mutual
theorem T.map_swap {d : Int} {V W : List Int} (h : V <+: W) : ∀ {t : T}, T.within V t → T.map (swapF d W) t = T.map (swapF d V) t
  | .mk k n s l, ht => by
    rw [T.within] at ht
    rw [T.map, T.map, T.mapL_swap h ht.2]
    by_cases hk : k = 1
    · rw [if_pos hk, if_pos hk, swapF_prefix h (ht.1 hk)]
    · rw [if_neg hk, if_neg hk]
theorem T.mapL_swap {d : Int} {V W : List Int} (h : V <+: W) : ∀ {l : List T}, T.withinL V l → T.mapL (swapF d W) l = T.mapL (swapF d V) l
  | [], _ => by rw [T.mapL, T.mapL]
  | x :: xs, hl => by
    rw [T.withinL] at hl
    rw [T.mapL, T.mapL, T.map_swap h hl.1, T.mapL_swap h hl.2]
end

/-- The list of variables is fit: each one once, each a variable's number. -/
def VarsOk (V : List Int) : Prop := V.Nodup ∧ ∀ n ∈ V, 0 ≤ n ∧ n ≤ 1099511627776

theorem VarsOk.len {V : List Int} (h : VarsOk V) : V.length ≤ 1099511627777 := by
  have h1 : V.Nodup := h.1
  have h2 : V ⊆ (List.range 1099511627777).map (fun i : Nat => (i : Int)) := by
    intro n hn
    have := h.2 n hn
    rw [List.mem_map]
    exact ⟨n.toNat, List.mem_range.2 (by omega), by omega⟩
  have h3 := h1.length_le_of_subset h2
  rw [List.length_map, List.length_range] at h3
  exact h3

theorem VarsOk.nil : VarsOk [] := ⟨List.nodup_nil, fun _ h => by cases h⟩

theorem formed_var {n : Int} {s : List UInt8} {l : List T} (h : (T.mk 1 n s l).formed = true) : (0 ≤ n ∧ n ≤ 1099511627776) ∧ s = [] ∧ l = [] := by
  rw [T.formed] at h
  simp at h
  exact ⟨h.1.1, h.1.2, h.2⟩

theorem VarsOk.one {V : List Int} (h : VarsOk V) {n : Int} (hn : 0 ≤ n ∧ n ≤ 1099511627776) : VarsOk (if n ∈ V then V else V ++ [n]) := by
  split
  · exact h
  · rename_i hm
    refine ⟨?_, fun k hk => ?_⟩
    · rw [List.nodup_append]
      exact ⟨h.1, by simp, fun a ha b hb => by rw [List.mem_singleton] at hb; subst hb; exact fun e => hm (e ▸ ha)⟩
    · rcases List.mem_append.1 hk with hk | hk
      · exact h.2 k hk
      · rw [List.mem_singleton] at hk; exact hk ▸ hn

mutual
theorem VarsOk.vars : ∀ (t : T) {V : List Int}, VarsOk V → t.formed = true → VarsOk (T.vars t V)
  | .mk k n s l, V, h, hf => by
    rw [T.vars]
    by_cases h1 : k = 1
    · subst h1
      rw [if_pos rfl]
      exact h.one (formed_var hf).1
    · rw [if_neg h1]
      rcases formed_args hf with ⟨_, hl⟩ | ⟨_, rfl⟩
      · exact VarsOk.varsL l h hl
      · rw [T.varsL]; exact h
theorem VarsOk.varsL : ∀ (l : List T) {V : List Int}, VarsOk V → T.formedL l = true → VarsOk (T.varsL l V)
  | [], V, h, _ => by rw [T.varsL]; exact h
  | x :: xs, V, h, hf => by
    rw [T.formedL, Bool.and_eq_true] at hf
    rw [T.varsL]
    exact VarsOk.varsL xs (VarsOk.vars x h hf.1) hf.2
end

/-! ### Bodies and clauses -/
def sTrue : List UInt8 := [116, 114, 117, 101]
def sCallT : List UInt8 := [99, 97, 108, 108]
def sNeck : List UInt8 := [58, 45]
def T.isOf (t : T) (s : List UInt8) (n : Int) : Bool := (decide (t.k = 4) || decide (t.k = 3)) && decide (t.s = s) && decide ((t.l.length : Int) = n)
def T.joins (t : T) : Bool := t.isOf [44] 2 || t.isOf [59] 2 || t.isOf [45, 62] 2

mutual
/-- A term as a body. -/
def T.body : T → Option T
  | .mk k n s l =>
    if k = 1 then some (compT sCallT [.mk k n s l])
    else if k = 2 then none
    else if (T.mk k n s l).joins then (T.bodyL l).map (compT s)
    else some (.mk k n s l)
def T.bodyL : List T → Option (List T)
  | [] => some []
  | x :: xs => match T.body x, T.bodyL xs with
    | some y, some ys => some (y :: ys)
    | _, _ => none
end

mutual
theorem formed_mapped (f : Int → T) (hf : ∀ n, 0 ≤ n → n ≤ 1099511627776 → (f n).formed = true) : ∀ t : T, t.formed = true → (T.map f t).formed = true
  | .mk k n s l, h => by
    rw [T.map]
    by_cases h1 : k = 1
    · subst h1
      rw [if_pos rfl]
      exact hf n (formed_var h).1.1 (formed_var h).1.2
    · rw [if_neg h1]
      by_cases h4 : k = 4
      · subst h4
        rw [if_pos rfl]
        rw [T.formed] at h ⊢
        simp only [show ¬ (4 : Int) = 1 by decide, show ¬ (4 : Int) = 2 by decide, show ¬ (4 : Int) = 3 by decide, if_false, if_true, Bool.and_eq_true, decide_eq_true_eq, T.mapL_length] at h ⊢
        exact ⟨h.1, formedL_mapped f hf l h.2⟩
      · rw [if_neg h4]
        rcases formed_args h with ⟨h5, _⟩ | ⟨_, rfl⟩
        · exact absurd h5 h4
        · exact h
theorem formedL_mapped (f : Int → T) (hf : ∀ n, 0 ≤ n → n ≤ 1099511627776 → (f n).formed = true) : ∀ l : List T, T.formedL l = true → T.formedL (T.mapL f l) = true
  | [], _ => by rw [T.mapL, T.formedL]
  | x :: xs, h => by
    rw [T.formedL, Bool.and_eq_true] at h
    rw [T.mapL, T.formedL, Bool.and_eq_true]
    exact ⟨formed_mapped f hf x h.1, formedL_mapped f hf xs h.2⟩
end

theorem varT_formed {n : Int} (h : 0 ≤ n ∧ n ≤ 1099511627776) : (varT n).formed = true := by
  rw [varT, T.formed]; simp [h.1, h.2]

theorem swapF_formed {V : List Int} (hV : VarsOk V) (n : Int) (h0 : 0 ≤ n) (h1 : n ≤ 1099511627776) : (swapF 0 V n).formed = true := by
  rw [swapF]
  split
  · rename_i hm
    have h2 := List.idxOf_lt_length_of_mem hm
    have h3 := hV.len
    exact varT_formed ⟨by omega, by omega⟩
  · exact varT_formed ⟨h0, h1⟩

theorem formed_two {s : List UInt8} {x y : T} (hs : s.length ≤ 100) (hx : x.formed = true) (hy : y.formed = true) : (compT s [x, y]).formed = true := by
  rw [compT, T.formed, T.formedL, T.formedL, T.formedL]
  simp [hs, hx, hy]
theorem formed_one {s : List UInt8} {x : T} (hs : s.length ≤ 100) (hx : x.formed = true) : (compT s [x]).formed = true := by
  rw [compT, T.formed, T.formedL, T.formedL]
  simp [hs, hx]
theorem formed_atom {s : List UInt8} (hs : s.length ≤ 100) : (atomT s).formed = true := by
  rw [atomT, T.formed]; simp [hs]
theorem formed_two_inv {s : List UInt8} {k n : Int} {x y : T} (h : (T.mk k n s [x, y]).formed = true) : k = 4 ∧ n = 0 ∧ s.length ≤ 100 ∧ x.formed = true ∧ y.formed = true := by
  rcases formed_args h with ⟨rfl, hl⟩ | ⟨_, hl⟩
  · rw [T.formedL, T.formedL, T.formedL] at hl
    rw [T.formed] at h
    simp at h hl
    exact ⟨rfl, h.1.1, h.1.2, hl.1, hl.2⟩
  · cases hl

theorem isOf_two {t : T} {s : List UInt8} (h : t.isOf s 2 = true) : ∃ k n x y, t = .mk k n s [x, y] := by
  obtain ⟨k, n, s', l⟩ := t
  simp only [T.isOf, Bool.and_eq_true] at h
  obtain ⟨⟨_, hs⟩, hl⟩ := h
  obtain rfl : s' = s := of_decide_eq_true hs
  replace hl : (l.length : Int) = 2 := of_decide_eq_true hl
  match l, hl with
  | [x, y], _ => exact ⟨k, n, x, y, rfl⟩
  | [], hl => simp at hl
  | [_], hl => simp at hl
  | _ :: _ :: _ :: _, hl => simp at hl; omega
theorem joins_two {t : T} (h : t.joins = true) : ∃ k n s x y, t = .mk k n s [x, y] := by
  simp only [T.joins, Bool.or_eq_true] at h
  rcases h with (h | h) | h
  · obtain ⟨k, n, x, y, rfl⟩ := isOf_two h; exact ⟨_, _, _, _, _, rfl⟩
  · obtain ⟨k, n, x, y, rfl⟩ := isOf_two h; exact ⟨_, _, _, _, _, rfl⟩
  · obtain ⟨k, n, x, y, rfl⟩ := isOf_two h; exact ⟨_, _, _, _, _, rfl⟩

theorem body_var (n : Int) (s : List UInt8) (l : List T) : T.body (.mk 1 n s l) = some (compT sCallT [.mk 1 n s l]) := by rw [T.body, if_pos rfl]
theorem body_int (n : Int) (s : List UInt8) (l : List T) : T.body (.mk 2 n s l) = none := by rw [T.body, if_neg (by decide), if_pos rfl]
theorem body_plain {k n : Int} {s : List UInt8} {l : List T} (h1 : k ≠ 1) (h2 : k ≠ 2) (hj : (T.mk k n s l).joins = false) : T.body (.mk k n s l) = some (.mk k n s l) := by
  rw [T.body, if_neg h1, if_neg h2, hj]; rfl
theorem body_joins {k n : Int} {s : List UInt8} {x y : T} (h1 : k ≠ 1) (h2 : k ≠ 2) (hj : (T.mk k n s [x, y]).joins = true) : T.body (.mk k n s [x, y]) = match T.body x, T.body y with
    | some a, some b => some (compT s [a, b])
    | _, _ => none := by
  rw [T.body, if_neg h1, if_neg h2, if_pos hj, T.bodyL, T.bodyL, T.bodyL]
  cases T.body x <;> cases T.body y <;> rfl

theorem body_formed (N : Nat) : ∀ (t u : T), SizeOf.sizeOf t ≤ N → t.formed = true → T.body t = some u → u.formed = true := by
  induction N with
  | zero => intro t u h; cases t; simp at h
  | succ N ih =>
    intro t u hN hf hb
    by_cases hk1 : t.k = 1
    · obtain ⟨k, n, s, l⟩ := t
      obtain rfl : k = 1 := hk1
      rw [body_var] at hb
      cases hb
      exact formed_one (by decide) hf
    by_cases hk2 : t.k = 2
    · obtain ⟨k, n, s, l⟩ := t
      obtain rfl : k = 2 := hk2
      rw [body_int] at hb
      cases hb
    cases hj : t.joins with
    | false =>
      obtain ⟨k, n, s, l⟩ := t
      rw [body_plain (show k ≠ 1 from hk1) (show k ≠ 2 from hk2) hj] at hb
      cases hb
      exact hf
    | true =>
      obtain ⟨k, n, s, x, y, rfl⟩ := joins_two hj
      obtain ⟨_, _, hs, hx, hy⟩ := formed_two_inv hf
      rw [body_joins (show k ≠ 1 from hk1) (show k ≠ 2 from hk2) hj] at hb
      simp only [T.mk.sizeOf_spec, List.cons.sizeOf_spec, List.nil.sizeOf_spec] at hN
      cases ha : T.body x with
      | none => rw [ha] at hb; cases hb
      | some a =>
        cases hc : T.body y with
        | none => rw [ha, hc] at hb; cases hb
        | some c =>
          rw [ha, hc] at hb
          cases hb
          exact formed_two hs (ih x a (by omega) hx ha) (ih y c (by omega) hy hc)

/-- The parts of a clause as a term. -/
def T.parts (t : T) : T × T := if t.isOf sNeck 2 then (t.l.getD 0 zeroT, t.l.getD 1 zeroT) else (t, atomT sTrue)
def T.callable (t : T) : Bool := decide (t.k = 3) || decide (t.k = 4)
/-- A term as a clause; res: is a predicate reserved? -/
def T.make (res : List UInt8 → Int → Bool) (t : T) : Option (T × T) :=
  match T.body t.parts.2 with
  | none => none
  | some b => if t.parts.1.callable && !res t.parts.1.s (t.parts.1.l.length : Int) then some (T.map (swapF 0 (T.varsL [t.parts.1, b] [])) t.parts.1, T.map (swapF 0 (T.varsL [t.parts.1, b] [])) b) else none
/-- A clause as a term. -/
def clauseT (h b : T) : T := if b.isOf sTrue 0 then h else compT sNeck [h, b]
def plainErr (res : List UInt8 → Int → Bool) (h b : T) : Int :=
  if h.formed && b.formed then (match T.make res (clauseT h b) with
    | none => 7
    | some (h', b') => if T.same h' h && T.same b' b then 0 else 7) else 2

theorem body_true : T.body (atomT sTrue) = some (atomT sTrue) := by
  rw [atomT]; exact body_plain (by decide) (by decide) (by decide)

theorem parts_formed {t : T} (h : t.formed = true) : t.parts.1.formed = true ∧ t.parts.2.formed = true := by
  rw [T.parts]
  split
  · rename_i hi
    obtain ⟨k, n, x, y, rfl⟩ := isOf_two hi
    obtain ⟨_, _, _, hx, hy⟩ := formed_two_inv h
    exact ⟨hx, hy⟩
  · exact ⟨h, formed_atom (by decide)⟩
theorem clause_formed {h b : T} (hh : h.formed = true) (hb : b.formed = true) : (clauseT h b).formed = true := by
  rw [clauseT]
  split
  · exact hh
  · exact formed_two (by decide) hh hb
theorem make_formed {res : List UInt8 → Int → Bool} {t h b : T} (hf : t.formed = true) (hm : T.make res t = some (h, b)) : h.formed = true ∧ b.formed = true := by
  obtain ⟨p1, p2⟩ := parts_formed hf
  rw [T.make] at hm
  cases hb : T.body t.parts.2 with
  | none => rw [hb] at hm; cases hm
  | some u =>
    have hu := body_formed _ _ _ (Nat.le_refl _) p2 hb
    rw [hb] at hm
    simp only at hm
    split at hm
    · have hV : VarsOk (T.varsL [t.parts.1, u] []) := VarsOk.varsL _ VarsOk.nil (by rw [T.formedL, T.formedL, T.formedL, p1, hu]; rfl)
      cases hm
      exact ⟨formed_mapped _ (swapF_formed hV) _ p1, formed_mapped _ (swapF_formed hV) _ hu⟩
    · cases hm

end Go.Proofs.Ytgaijgadeodoeaa
