/-
  Renaming, bodies and clauses: what they are (no program here).
  term.Map with a function that keeps nothing, term.Copy.
-/
import Derived.Test.YtmecghjnghhhkaaUO04
namespace Go.Proofs.Ytmecghjnghhhkaa

/-! ### Variables in their order, and renaming -/
mutual
def T.vars : T → List Int → List Int
  | .mk k n _ l, V => if k = 1 then (if n ∈ V then V else V ++ [n]) else T.varsL l V
def T.varsL : List T → List Int → List Int
  | [], V => V
  | x :: xs, V => T.varsL xs (T.vars x V)
end

/-- The new number of a variable. -/
def swapF (d : Int) (V : List Int) (n : Int) : T := if n ∈ V then varT (d + (V.idxOf n : Int)) else varT n

theorem T.varsL_append : ∀ (l l' : List T) (V : List Int), T.varsL (l ++ l') V = T.varsL l' (T.varsL l V)
  | [], l', V => by rw [List.nil_append, T.varsL]
  | x :: xs, l', V => by rw [List.cons_append, T.varsL, T.varsL, T.varsL_append xs l']
theorem T.varsL_single (x : T) (V : List Int) : T.varsL [x] V = T.vars x V := by rw [T.varsL, T.varsL]

mutual
theorem T.vars_prefix : ∀ (t : T) (V : List Int), V <+: T.vars t V
  | .mk k n _ l, V => by
    rw [T.vars]
    split
    · split
      · exact List.prefix_rfl
      · exact List.prefix_append _ _
    · exact T.varsL_prefix l V
theorem T.varsL_prefix : ∀ (l : List T) (V : List Int), V <+: T.varsL l V
  | [], V => by rw [T.varsL]; exact List.prefix_rfl
  | x :: xs, V => by rw [T.varsL]; exact (T.vars_prefix x V).trans (T.varsL_prefix xs _)
end

theorem idxOf_prefix {V W : List Int} (h : V <+: W) {n : Int} (hn : n ∈ V) : W.idxOf n = V.idxOf n := by
  obtain ⟨s, rfl⟩ := h
  rw [List.idxOf_append, if_pos hn]

theorem swapF_prefix {d : Int} {V W : List Int} (h : V <+: W) {n : Int} (hn : n ∈ V) : swapF d W n = swapF d V n := by
  rw [swapF, swapF, if_pos (h.subset hn), if_pos hn, idxOf_prefix h hn]

mutual
/-- All variables of the term are in the list. -/
def T.within (V : List Int) : T → Prop
  | .mk k n _ l => (k = 1 → n ∈ V) ∧ T.withinL V l
def T.withinL (V : List Int) : List T → Prop
  | [] => True
  | x :: xs => T.within V x ∧ T.withinL V xs
end

mutual
theorem T.within_mono {V W : List Int} (h : ∀ n ∈ V, n ∈ W) : ∀ {t : T}, T.within V t → T.within W t
  | .mk _ _ _ _, ht => by
    rw [T.within] at ht ⊢
    exact ⟨fun hk => h _ (ht.1 hk), T.withinL_mono h ht.2⟩
theorem T.withinL_mono {V W : List Int} (h : ∀ n ∈ V, n ∈ W) : ∀ {l : List T}, T.withinL V l → T.withinL W l
  | [], _ => by rw [T.withinL]; trivial
  | _ :: _, hl => by
    rw [T.withinL] at hl ⊢
    exact ⟨T.within_mono h hl.1, T.withinL_mono h hl.2⟩
end

theorem formed_args {k n : Int} {s : List UInt8} {l : List T} (h : (T.mk k n s l).formed = true) : (k = 4 ∧ T.formedL l = true) ∨ (k ≠ 4 ∧ l = []) := by
  rw [T.formed] at h
  by_cases h1 : k = 1
  · subst h1
    simp at h
    exact .inr ⟨by decide, h.2⟩
  · by_cases h2 : k = 2
    · subst h2
      simp at h
      exact .inr ⟨by decide, h.2⟩
    · by_cases h3 : k = 3
      · subst h3
        simp at h
        exact .inr ⟨by decide, h.2⟩
      · by_cases h4 : k = 4
        · subst h4
          simp at h
          exact .inl ⟨rfl, h.2⟩
        · simp [h1, h2, h3, h4] at h

mutual
theorem T.vars_within : ∀ (t : T) (V : List Int), t.formed = true → T.within (T.vars t V) t
  | .mk k n s l, V, h => by
    rw [T.within]
    by_cases h1 : k = 1
    · subst h1
      rcases formed_args h with ⟨h4, _⟩ | ⟨_, rfl⟩
      · cases h4
      · refine ⟨fun _ => ?_, by rw [T.withinL]; trivial⟩
        rw [T.vars, if_pos rfl]
        split
        · assumption
        · simp
    · rw [T.vars, if_neg h1]
      refine ⟨fun e => absurd e h1, ?_⟩
      rcases formed_args h with ⟨_, hl⟩ | ⟨_, rfl⟩
      · exact T.varsL_within l V hl
      · rw [T.withinL]; trivial
theorem T.varsL_within : ∀ (l : List T) (V : List Int), T.formedL l = true → T.withinL (T.varsL l V) l
  | [], V, _ => by rw [T.withinL]; trivial
  | x :: xs, V, h => by
    rw [T.formedL, Bool.and_eq_true] at h
    rw [T.withinL, T.varsL]
    exact ⟨T.within_mono (fun n hn => (T.varsL_prefix xs _).subset hn) (T.vars_within x V h.1), T.varsL_within xs _ h.2⟩
end

mutual
theorem T.map_swap {d : Int} {V W : List Int} (h : V <+: W) : ∀ {t : T}, T.within V t → T.map (swapF d W) t = T.map (swapF d V) t
  | .mk k n s l, ht => by
    rw [T.within] at ht
    rw [T.map, T.map, T.mapL_swap h ht.2]
    by_cases hk : k = 1
    · rw [if_pos hk, if_pos hk, swapF_prefix h (ht.1 hk)]
    · rw [if_neg hk, if_neg hk]
theorem T.mapL_swap {d : Int} {V W : List Int} (h : V <+: W) : ∀ {l : List T}, T.withinL V l → T.mapL (swapF d W) l = T.mapL (swapF d V) l
  | [], _ => by rw [T.mapL, T.mapL]
  | x :: xs, hl => by
    rw [T.withinL] at hl
    rw [T.mapL, T.mapL, T.map_swap h hl.1, T.mapL_swap h hl.2]
end

/-- The list of variables is fit: each one once, each a variable's number. -/
def VarsOk (V : List Int) : Prop := V.Nodup ∧ ∀ n ∈ V, 0 ≤ n ∧ n ≤ 1099511627776

theorem VarsOk.len {V : List Int} (h : VarsOk V) : V.length ≤ 1099511627777 := by
  have h1 : V.Nodup := h.1
  have h2 : V ⊆ (List.range 1099511627777).map (fun i : Nat => (i : Int)) := by
    intro n hn
    have := h.2 n hn
    rw [List.mem_map]
    exact ⟨n.toNat, List.mem_range.2 (by omega), by omega⟩
  have h3 := h1.length_le_of_subset h2
  rw [List.length_map, List.length_range] at h3
  exact h3

theorem VarsOk.nil : VarsOk [] := ⟨List.nodup_nil, fun _ h => by cases h⟩

theorem formed_var {n : Int} {s : List UInt8} {l : List T} (h : (T.mk 1 n s l).formed = true) : (0 ≤ n ∧ n ≤ 1099511627776) ∧ s = [] ∧ l = [] := by
  rw [T.formed] at h
  simp at h
  exact ⟨h.1.1, h.1.2, h.2⟩

theorem VarsOk.one {V : List Int} (h : VarsOk V) {n : Int} (hn : 0 ≤ n ∧ n ≤ 1099511627776) : VarsOk (if n ∈ V then V else V ++ [n]) := by
  split
  · exact h
  · rename_i hm
    refine ⟨?_, fun k hk => ?_⟩
    · rw [List.nodup_append]
      exact ⟨h.1, by simp, fun a ha b hb => by rw [List.mem_singleton] at hb; subst hb; exact fun e => hm (e ▸ ha)⟩
    · rcases List.mem_append.1 hk with hk | hk
      · exact h.2 k hk
      · rw [List.mem_singleton] at hk; exact hk ▸ hn

mutual
theorem VarsOk.vars : ∀ (t : T) {V : List Int}, VarsOk V → t.formed = true → VarsOk (T.vars t V)
  | .mk k n s l, V, h, hf => by
    rw [T.vars]
    by_cases h1 : k = 1
    · subst h1
      rw [if_pos rfl]
      exact h.one (formed_var hf).1
    · rw [if_neg h1]
      rcases formed_args hf with ⟨_, hl⟩ | ⟨_, rfl⟩
      · exact VarsOk.varsL l h hl
      · rw [T.varsL]; exact h
theorem VarsOk.varsL : ∀ (l : List T) {V : List Int}, VarsOk V → T.formedL l = true → VarsOk (T.varsL l V)
  | [], V, h, _ => by rw [T.varsL]; exact h
  | x :: xs, V, h, hf => by
    rw [T.formedL, Bool.and_eq_true] at hf
    rw [T.varsL]
    exact VarsOk.varsL xs (VarsOk.vars x h hf.1) hf.2
end

/-! ### Bodies and clauses -/
def sTrue : List UInt8 := [116, 114, 117, 101]
def sCallT : List UInt8 := [99, 97, 108, 108]
def sNeck : List UInt8 := [58, 45]
def T.isOf (t : T) (s : List UInt8) (n : Int) : Bool := (decide (t.k = 4) || decide (t.k = 3)) && decide (t.s = s) && decide ((t.l.length : Int) = n)
def T.joins (t : T) : Bool := t.isOf [44] 2 || t.isOf [59] 2 || t.isOf [45, 62] 2

mutual
/-- A term as a body. -/
def T.body : T → Option T
  | .mk k n s l =>
    if k = 1 then some (compT sCallT [.mk k n s l])
    else if k = 2 then none
    else if (T.mk k n s l).joins then (T.bodyL l).map (compT s)
    else some (.mk k n s l)
def T.bodyL : List T → Option (List T)
  | [] => some []
  | x :: xs => match T.body x, T.bodyL xs with
    | some y, some ys => some (y :: ys)
    | _, _ => none
end

mutual
theorem formed_mapped (f : Int → T) (hf : ∀ n, 0 ≤ n → n ≤ 1099511627776 → (f n).formed = true) : ∀ t : T, t.formed = true → (T.map f t).formed = true
  | .mk k n s l, h => by
    rw [T.map]
    by_cases h1 : k = 1
    · subst h1
      rw [if_pos rfl]
      exact hf n (formed_var h).1.1 (formed_var h).1.2
    · rw [if_neg h1]
      by_cases h4 : k = 4
      · subst h4
        rw [if_pos rfl]
        rw [T.formed] at h ⊢
        simp only [show ¬ (4 : Int) = 1 by decide, show ¬ (4 : Int) = 2 by decide, show ¬ (4 : Int) = 3 by decide, if_false, if_true, Bool.and_eq_true, decide_eq_true_eq, T.mapL_length] at h ⊢
        exact ⟨h.1, formedL_mapped f hf l h.2⟩
      · rw [if_neg h4]
        rcases formed_args h with ⟨h5, _⟩ | ⟨_, rfl⟩
        · exact absurd h5 h4
        · exact h
theorem formedL_mapped (f : Int → T) (hf : ∀ n, 0 ≤ n → n ≤ 1099511627776 → (f n).formed = true) : ∀ l : List T, T.formedL l = true → T.formedL (T.mapL f l) = true
  | [], _ => by rw [T.mapL, T.formedL]
  | x :: xs, h => by
    rw [T.formedL, Bool.and_eq_true] at h
    rw [T.mapL, T.formedL, Bool.and_eq_true]
    exact ⟨formed_mapped f hf x h.1, formedL_mapped f hf xs h.2⟩
end

theorem varT_formed {n : Int} (h : 0 ≤ n ∧ n ≤ 1099511627776) : (varT n).formed = true := by
  rw [varT, T.formed]; simp [h.1, h.2]

theorem swapF_formed {V : List Int} (hV : VarsOk V) (n : Int) (h0 : 0 ≤ n) (h1 : n ≤ 1099511627776) : (swapF 0 V n).formed = true := by
  rw [swapF]
  split
  · rename_i hm
    have h2 := List.idxOf_lt_length_of_mem hm
    have h3 := hV.len
    exact varT_formed ⟨by omega, by omega⟩
  · exact varT_formed ⟨h0, h1⟩

theorem formed_two {s : List UInt8} {x y : T} (hs : s.length ≤ 100) (hx : x.formed = true) (hy : y.formed = true) : (compT s [x, y]).formed = true := by
  rw [compT, T.formed, T.formedL, T.formedL, T.formedL]
  simp [hs, hx, hy]
theorem formed_one {s : List UInt8} {x : T} (hs : s.length ≤ 100) (hx : x.formed = true) : (compT s [x]).formed = true := by
  rw [compT, T.formed, T.formedL, T.formedL]
  simp [hs, hx]
theorem formed_atom {s : List UInt8} (hs : s.length ≤ 100) : (atomT s).formed = true := by
  rw [atomT, T.formed]; simp [hs]
theorem formed_two_inv {s : List UInt8} {k n : Int} {x y : T} (h : (T.mk k n s [x, y]).formed = true) : k = 4 ∧ n = 0 ∧ s.length ≤ 100 ∧ x.formed = true ∧ y.formed = true := by
  rcases formed_args h with ⟨rfl, hl⟩ | ⟨_, hl⟩
  · rw [T.formedL, T.formedL, T.formedL] at hl
    rw [T.formed] at h
    simp at h hl
    exact ⟨rfl, h.1.1, h.1.2, hl.1, hl.2⟩
  · cases hl

theorem isOf_two {t : T} {s : List UInt8} (h : t.isOf s 2 = true) : ∃ k n x y, t = .mk k n s [x, y] := by
  obtain ⟨k, n, s', l⟩ := t
  simp only [T.isOf, Bool.and_eq_true] at h
  obtain ⟨⟨_, hs⟩, hl⟩ := h
  obtain rfl : s' = s := of_decide_eq_true hs
  replace hl : (l.length : Int) = 2 := of_decide_eq_true hl
  match l, hl with
  | [x, y], _ => exact ⟨k, n, x, y, rfl⟩
  | [], hl => simp at hl
  | [_], hl => simp at hl
  | _ :: _ :: _ :: _, hl => simp at hl; omega
theorem joins_two {t : T} (h : t.joins = true) : ∃ k n s x y, t = .mk k n s [x, y] := by
  simp only [T.joins, Bool.or_eq_true] at h
  rcases h with (h | h) | h
  · obtain ⟨k, n, x, y, rfl⟩ := isOf_two h; exact ⟨_, _, _, _, _, rfl⟩
  · obtain ⟨k, n, x, y, rfl⟩ := isOf_two h; exact ⟨_, _, _, _, _, rfl⟩
  · obtain ⟨k, n, x, y, rfl⟩ := isOf_two h; exact ⟨_, _, _, _, _, rfl⟩

theorem body_var (n : Int) (s : List UInt8) (l : List T) : T.body (.mk 1 n s l) = some (compT sCallT [.mk 1 n s l]) := by rw [T.body, if_pos rfl]
theorem body_int (n : Int) (s : List UInt8) (l : List T) : T.body (.mk 2 n s l) = none := by rw [T.body, if_neg (by decide), if_pos rfl]
theorem body_plain {k n : Int} {s : List UInt8} {l : List T} (h1 : k ≠ 1) (h2 : k ≠ 2) (hj : (T.mk k n s l).joins = false) : T.body (.mk k n s l) = some (.mk k n s l) := by
  rw [T.body, if_neg h1, if_neg h2, hj]; rfl
theorem body_joins {k n : Int} {s : List UInt8} {x y : T} (h1 : k ≠ 1) (h2 : k ≠ 2) (hj : (T.mk k n s [x, y]).joins = true) : T.body (.mk k n s [x, y]) = match T.body x, T.body y with
    | some a, some b => some (compT s [a, b])
    | _, _ => none := by
  rw [T.body, if_neg h1, if_neg h2, if_pos hj, T.bodyL, T.bodyL, T.bodyL]
  cases T.body x <;> cases T.body y <;> rfl

theorem body_formed (N : Nat) : ∀ (t u : T), SizeOf.sizeOf t ≤ N → t.formed = true → T.body t = some u → u.formed = true := by
  induction N with
  | zero => intro t u h; cases t; simp at h
  | succ N ih =>
    intro t u hN hf hb
    by_cases hk1 : t.k = 1
    · obtain ⟨k, n, s, l⟩ := t
      obtain rfl : k = 1 := hk1
      rw [body_var] at hb
      cases hb
      exact formed_one (by decide) hf
    by_cases hk2 : t.k = 2
    · obtain ⟨k, n, s, l⟩ := t
      obtain rfl : k = 2 := hk2
      rw [body_int] at hb
      cases hb
    cases hj : t.joins with
    | false =>
      obtain ⟨k, n, s, l⟩ := t
      rw [body_plain (show k ≠ 1 from hk1) (show k ≠ 2 from hk2) hj] at hb
      cases hb
      exact hf
    | true =>
      obtain ⟨k, n, s, x, y, rfl⟩ := joins_two hj
      obtain ⟨_, _, hs, hx, hy⟩ := formed_two_inv hf
      rw [body_joins (show k ≠ 1 from hk1) (show k ≠ 2 from hk2) hj] at hb
      simp only [T.mk.sizeOf_spec, List.cons.sizeOf_spec, List.nil.sizeOf_spec] at hN
      cases ha : T.body x with
      | none => rw [ha] at hb; cases hb
      | some a =>
        cases hc : T.body y with
        | none => rw [ha, hc] at hb; cases hb
        | some c =>
          rw [ha, hc] at hb
          cases hb
          exact formed_two hs (ih x a (by omega) hx ha) (ih y c (by omega) hy hc)

/-- The parts of a clause as a term. -/
def T.parts (t : T) : T × T := if t.isOf sNeck 2 then (t.l.getD 0 zeroT, t.l.getD 1 zeroT) else (t, atomT sTrue)
def T.callable (t : T) : Bool := decide (t.k = 3) || decide (t.k = 4)
/-- A term as a clause; res: is a predicate reserved? -/
def T.make (res : List UInt8 → Int → Bool) (t : T) : Option (T × T) :=
  match T.body t.parts.2 with
  | none => none
  | some b => if t.parts.1.callable && !res t.parts.1.s (t.parts.1.l.length : Int) then some (T.map (swapF 0 (T.varsL [t.parts.1, b] [])) t.parts.1, T.map (swapF 0 (T.varsL [t.parts.1, b] [])) b) else none
/-- A clause as a term. -/
def clauseT (h b : T) : T := if b.isOf sTrue 0 then h else compT sNeck [h, b]
def plainErr (res : List UInt8 → Int → Bool) (h b : T) : Int :=
  if h.formed && b.formed then (match T.make res (clauseT h b) with
    | none => 7
    | some (h', b') => if T.same h' h && T.same b' b then 0 else 7) else 2

theorem body_true : T.body (atomT sTrue) = some (atomT sTrue) := by
  rw [atomT]; exact body_plain (by decide) (by decide) (by decide)

theorem parts_formed {t : T} (h : t.formed = true) : t.parts.1.formed = true ∧ t.parts.2.formed = true := by
  rw [T.parts]
  split
  · rename_i hi
    obtain ⟨k, n, x, y, rfl⟩ := isOf_two hi
    obtain ⟨_, _, _, hx, hy⟩ := formed_two_inv h
    exact ⟨hx, hy⟩
  · exact ⟨h, formed_atom (by decide)⟩
theorem clause_formed {h b : T} (hh : h.formed = true) (hb : b.formed = true) : (clauseT h b).formed = true := by
  rw [clauseT]
  split
  · exact hh
  · exact formed_two (by decide) hh hb
theorem make_formed {res : List UInt8 → Int → Bool} {t h b : T} (hf : t.formed = true) (hm : T.make res t = some (h, b)) : h.formed = true ∧ b.formed = true := by
  obtain ⟨p1, p2⟩ := parts_formed hf
  rw [T.make] at hm
  cases hb : T.body t.parts.2 with
  | none => rw [hb] at hm; cases hm
  | some u =>
    have hu := body_formed _ _ _ (Nat.le_refl _) p2 hb
    rw [hb] at hm
    simp only at hm
    split at hm
    · have hV : VarsOk (T.varsL [t.parts.1, u] []) := VarsOk.varsL _ VarsOk.nil (by rw [T.formedL, T.formedL, T.formedL, p1, hu]; rfl)
      cases hm
      exact ⟨formed_mapped _ (swapF_formed hV) _ p1, formed_mapped _ (swapF_formed hV) _ hu⟩
    · cases hm

end Go.Proofs.Ytmecghjnghhhkaa

namespace Go.Proofs.Ytmecghjnghhhkaa
open Go.RowKit

/-- A function value that may be called: what it makes of a variable, whatever has grown since. -/
def MapFn (fv : Value) (S : Nat → Prop) (f : Int → T) (w0 : World) : Prop :=
  (∀ b, S b → b < w0.heap.size) ∧ ∃ (fid : FuncId) (cap : Array Value), fv = .func (.func fid) #[] cap ∧ (∀ (n : Int) (w : World), (callFunc fid (#[.int .i64 n] ++ cap)).run Try.prog w = .ok (.enter fid (#[.int .i64 n] ++ cap)) w) ∧
    ∀ (n : Int) (w : World), Gr w0 w → In64 n → Calls Try.prog fid (#[.int .i64 n] ++ cap) w (RetTm (fun b => S b ∨ w.heap.size ≤ b) (f n) w)

theorem MapFn.gr {fv : Value} {S : Nat → Prop} {f : Int → T} {w0 w1 : World} (h : MapFn fv S f w0) (hg : Gr w0 w1) : MapFn fv S f w1 := by
  obtain ⟨h0, fid, cap, h1, h2, h3⟩ := h
  exact ⟨fun b hb => Nat.lt_of_lt_of_le (h0 b hb) hg.size, fid, cap, h1, h2, fun n w hw hn => h3 n w (hg.trans hw) hn⟩

theorem in_after' {w2 W : World} {tb : Tm} {S : Nat → Prop} (hin : tb.In w2) (hon : tb.On S) (hc : ∀ b, S b → b < w2.heap.size → ∀ o, W.cell? ⟨b, o, none⟩ = w2.cell? ⟨b, o, none⟩) : tb.In W :=
  Tm.In.same (S := fun b => S b ∧ b < w2.heap.size) (fun b hb o => hc b hb.1 hb.2 o) hin (Tm.On.and hon (Tm.In.on hin))

theorem infoTermM : (Try.prog.info? 27).map (fun i => (i.zero, i.size, i.bytes)) = some (some (.agg #[.int .i64 0, .int .i64 0, .string ⟨#[]⟩, .slice none 0 0]), 4, 56) := by kernel_rfl

theorem after_make {w w1 : World} {v0 v1 v2 v3 u0 u1 u2 u3 : Value} (h : ((w.alloc (.cells #[v0, v1, v2, v3] 27)).alloc (.cells #[u0, u1, u2, u3] 27)).grownBy w1 none) :
    Blk4 w1 w.heap.size v0 v1 v2 v3 ∧ Hid (Blk4 w1 w.heap.size v0 v1 v2 v3 ∧ Blk4 w1 (w.heap.size + 1) u0 u1 u2 u3 ∧ Gr w w1) := by
  have hg0 := grownBy_below h (Nat.le_refl _) (fun _ h => by cases h)
  have h1 : Blk4 w1 w.heap.size v0 v1 v2 v3 := Blk4.gr (Blk4.old (Blk4.new w _ _ _ _) _) hg0
  refine ⟨h1, h1, Blk4.gr ?_ hg0, below_step hg0 (by go_grown)⟩
  have := Blk4.new (w.alloc (.cells #[v0, v1, v2, v3] 27)) u0 u1 u2 u3
  simpa only [World.size_alloc] using this

theorem fill_made {w w1 : World} {o1 o2 : Obj} {S : Nat → Prop} {n : Nat} {xs : List Value} (h : w1.ownsRow w.heap.size 27 4 (.slice (some ⟨((w.alloc o1).alloc o2).heap.size, 0, none⟩) n n) n xs) :
    Hid (Filling w1 (w.heap.size + 1 + 1) S (w.heap.size + 1 + 1) n []) := Filling.new (Nat.le_refl _) (by simpa only [World.size_alloc] using h)

set_option maxHeartbeats 2000000 in
set_option maxRecDepth 100000 in
theorem map_var (n : Int) (s : ByteArray) (p : Option Addr) (c : Nat) (l : List Tm) (fv : Value) (S : Nat → Prop) (f : Int → T) (w : World) (h : (Tm.mk 1 n s p c l).In w) (hf : MapFn fv S f w) :
    Calls Try.prog 142 #[(Tm.mk 1 n s p c l).val, fv] w (RetTm (fun b => S b ∨ w.heap.size ≤ b) (f n) w) := by
  rw [Tm.In] at h
  obtain ⟨hk, hn, hs, hlc, hc, hp, hIn⟩ := h
  clear hp hIn
  obtain ⟨hS, fid, cap, rfl, hq, hcall⟩ := hf
  have HS := Lib.hid hS
  clear hS
  have Hcall := Lib.hid hcall
  have Hn := Lib.hid hn
  clear hcall
  simp only [Tm.val, Tm.k, Tm.n, Tm.s, Tm.p, Tm.c, Tm.l]
  go_enter Try.func142, Try.ntmps142
  go_wp2_with fail
  refine (Hcall.out n _ (by go_grown) Hn.out).mono ?_
  rintro e w1 ⟨bm, hin, he, rfl, hb1, hon⟩
  obtain ⟨⟨y0, y1, y2, y3⟩, ⟨f0, f1, f2, f3⟩, hlt⟩ := (Blk4.gr (Blk4.new _ _ _ _ _) hb1).parts
  simp only [World.size_alloc] at y0 y1 y2 y3 f0 f1 f2 f3 hlt hon
  have g1 : Gr w w1 := below_step hb1 (by go_grown)
  have hs0 : w.heap.size + 1 < w1.heap.size := hlt
  have Hin := Lib.hid hin
  have Hon := Lib.hid hon
  have He := Lib.hid he
  clear hin hon he hb1
  obtain ⟨k', n', s', p', c', l'⟩ := bm
  simp only [Tm.val, Tm.k, Tm.n, Tm.s, Tm.p, Tm.c, Tm.l]
  go_wp2_with fail
  refine bodyPost_ret (v := (Tm.mk k' n' s' p' c' l').val) (by simp [results, Try.results142, go_sem, Tm.val, Tm.k, Tm.n, Tm.s, Tm.p, Tm.c, Tm.l, y0, y1, y2, y3]) rfl ⟨Tm.mk k' n' s' p' c' l', ?_, He.out, rfl, by go_grown, Hon.out.mono fun b hb => hb.imp id fun h => by omega⟩
  exact in_after' Hin.out Hon.out fun b h1 h2 o => by
    have : b ≠ w.heap.size + 1 := by rcases h1 with h1 | h1; · have := HS.out b h1; omega
                                     · omega
    rw [cell_set_ne this, cell_set_ne this, cell_set_ne this, cell_set_ne this]

set_option maxHeartbeats 2000000 in
set_option maxRecDepth 100000 in
theorem map_leaf (k n : Int) (s : ByteArray) (p : Option Addr) (c : Nat) (l : List Tm) (fv : Value) (w : World) (h : (Tm.mk k n s p c l).In w) (hk1 : k ≠ 1) (hk4 : k ≠ 4) :
    Calls Try.prog 142 #[(Tm.mk k n s p c l).val, fv] w (RetTm (w.heap.size ≤ ·) (.mk k n s.toList []) w) := by
  rw [Tm.In] at h
  obtain ⟨hk, hn, hs, hlc, hc, hp, hIn⟩ := h
  clear hp hIn
  have hk1' : (k == 1) = false := beq_eq_false_iff_ne.2 hk1
  have hk4' : (k == 4) = false := beq_eq_false_iff_ne.2 hk4
  have Hk := Lib.hid hk
  have Hn := Lib.hid hn
  have Hs := Lib.hid hs
  clear hk1 hk4 hk hn hs
  simp only [Tm.val, Tm.k, Tm.n, Tm.s, Tm.p, Tm.c, Tm.l]
  go_enter Try.func142, Try.ntmps142
  go_wp2_with fail
  refine bodyPost_ret (v := (Tm.mk k n s none 0 []).val) (by simp [results, Try.results142, go_sem, Tm.val, Tm.k, Tm.n, Tm.s, Tm.p, Tm.c, Tm.l]) rfl ⟨Tm.mk k n s none 0 [], ?_, by simp [Tm.erase, Tm.eraseL], rfl, by go_grown, ?_⟩
  · rw [Tm.In, Tm.InL]
    exact ⟨Hk.out, Hn.out, Hs.out, Nat.le_refl _, ⟨by simp, by omega⟩, .inl rfl, trivial⟩
  · rw [Tm.On, Tm.OnL]; exact ⟨.inl rfl, trivial⟩

set_option maxHeartbeats 4000000 in
set_option maxRecDepth 100000 in
theorem map_any (N : Nat) : ∀ (t : Tm) (fv : Value) (S : Nat → Prop) (f : Int → T) (w : World), SizeOf.sizeOf t ≤ N → t.In w → t.erase.formed = true → MapFn fv S f w →
    Calls Try.prog 142 #[t.val, fv] w (RetTm (fun b => S b ∨ w.heap.size ≤ b) (T.map f t.erase) w) := by
  induction N with
  | zero => intro t fv S f w h; cases t; simp at h
  | succ N ih =>
    intro t fv S f w hN h hfm hf
    obtain ⟨k, n, s, p, c, l⟩ := t
    by_cases hk1 : k = 1
    · subst hk1
      rw [Tm.erase, T.map, if_pos rfl]
      exact map_var n s p c l fv S f w h hf
    by_cases hk4 : k = 4
    · subst hk4
      obtain ⟨rfl, h100, hl1, hl50, hfl⟩ := formed_elem rfl hfm
      have hsz := fun x (hx : x ∈ l) => Tm.sizeOf_mem hx 4 0 s p c
      have HT := Lib.hid h
      have HSl := Lib.hid h.sl
      rw [Tm.In] at h
      obtain ⟨hk, hn, hs, hlc, hc, hp, hIn⟩ := h
      obtain ⟨b, o, rfl⟩ := HSl.out.ptr (by omega)
      have hbl : b < w.heap.size := Tm.row_lt (by rcases hp with rfl | ⟨b', o', he, hr⟩; · simp at hl1
                                                  · cases he; exact hr) (by rintro rfl; simp at hl1)
      obtain ⟨hS, fid, cap, rfl, hq, hcall⟩ := hf
      have HS := Lib.hid hS
      have Hf : Hid (MapFn (.func (.func fid) #[] cap) S f w) := ⟨hS, fid, cap, rfl, hq, hcall⟩
      have Hih := Lib.hid ih
      have Hsz := Lib.hid hsz
      have Hfl := Lib.hid hfl
      have Hs := Lib.hid hs
      clear hp hIn hcall hS hq ih hsz hfl hk hn hfm
      obtain ⟨i0, hi, hz0, hz1, hz2⟩ := info_parts infoTermM
      have Hi := Lib.hid hi
      clear hi
      rw [Tm.erase, T.map, if_neg (by decide), if_pos rfl]
      simp only [Tm.val, Tm.k, Tm.n, Tm.s, Tm.p, Tm.c, Tm.l]
      go_enter Try.func142, Try.ntmps142
      go_wp2_with
        (refine wpList_make_full _ rfl _ _ 25 rfl (w.heap.size) 27 i0 _ 4 Try.underlying25 Hi.out hz0 hz1 .i64 .i64 _ _ l.length rfl rfl rfl rfl (by rw [hz2]; omega) (by simp only [maxLen]; omega) (by simp; omega) ?_
         intro w1 hown hgrow
         have HF := fill_made (S := S) hown
         have HA := (after_make hgrow).2
         obtain ⟨⟨b0, b1, b2, b3⟩, _, _⟩ := (after_make hgrow).1.parts
         clear hown hgrow)
      obtain ⟨HB, HR, g1⟩ := HA.out
      replace HB := Lib.hid HB
      replace HR := Lib.hid HR
      have hg2 : w.heap.size + 1 + 1 < w1.heap.size := HF.out.lt
      clear b0 b1 b2 b3 HA
      go_loopw [25] (fun i wr => ∃ k : Nat, k ≤ l.length ∧ i = .int .i64 k ∧ Hid (∃ lm : List Tm, lm.length = k ∧ Tm.eraseL lm = T.mapL f (Tm.eraseL (l.take k)) ∧ Filling wr (w.heap.size + 1 + 1) S (w.heap.size + 1 + 1) l.length lm) ∧ Below (w.heap.size + 1 + 1) w1 wr)
        (fun i _ => l.length - (intOf i).toNat)
      case atStart => exact ⟨0, Nat.zero_le _, rfl, ⟨[], rfl, by simp [T.mapL, Tm.eraseL], HF.out⟩, Below.refl _ _⟩
      case round =>
        obtain ⟨k, hk, rfl, hlm, hb⟩ := hrel
        have hbs := hb.size
        have gr : Gr w wr := Below.trans g1 (hb.mono (by omega))
        have HB' : Hid _ := Lib.hid (HB.out.below hb (by omega))
        have HR' : Hid _ := Lib.hid (HR.out.below hb (by omega))
        by_cases hlt : k < l.length
        · obtain ⟨⟨c0, c1, c2, c3⟩, hx, _⟩ := (HSl.out.mono gr).elem k hlt
          have Hx := Lib.hid hx
          have hmem : l[k] ∈ l := List.getElem_mem hlt
          have Hz := Hsz.out _ hmem
          have Hfx := Lib.hid (Hfl.out _ hmem)
          have Htk : Hid (T.mapL f (Tm.eraseL (l.take (k + 1))) = T.mapL f (Tm.eraseL (l.take k)) ++ [T.map f l[k].erase]) := T.mapL_erase f l k hlt
          clear hx hmem
          generalize hxe : l[k] = x at *
          go_wp2_with fail
          refine (Hih.out x _ S f _ (by omega) (Tm.In_below (by go_grown) Hx.out) Hfx.out (Hf.out.gr (by go_grown))).mono ?_
          rintro e w2 ⟨xm, hin, he, rfl, hb2, hon⟩
          obtain ⟨lm, hl0, he0, hF⟩ := hlm.out
          have hF2 : Filling w2 (w.heap.size + 1 + 1) S (w.heap.size + 1 + 1) l.length lm := Filling.gr (w := wr) hF (below_step hb2 (by go_grown))
          have HF2 := Lib.hid hF2
          have g2 : Below (w.heap.size + 1 + 1) w1 w2 := Below.trans hb ((show Gr wr w2 from below_step hb2 (by go_grown)).mono (by omega))
          obtain ⟨⟨q0, r0⟩, fr0⟩ := hF2.spot (j := k * 4) (by omega)
          obtain ⟨⟨q1, r1⟩, fr1⟩ := hF2.spot (j := k * 4 + 1) (by omega)
          obtain ⟨⟨q2, r2⟩, fr2⟩ := hF2.spot (j := k * 4 + 2) (by omega)
          obtain ⟨⟨q3, r3⟩, fr3⟩ := hF2.spot (j := k * 4 + 3) (by omega)
          have hs2 := hb2.size
          simp only [World.size_alloc] at hs2 hon
          have Hl0 := Lib.hid hl0
          have He0 := Lib.hid he0
          have Hin := Lib.hid hin
          have Hon := Lib.hid hon
          have He := Lib.hid he
          clear hF hF2 hl0 he0 hin hon he hb2 hlm
          obtain ⟨k', n', s', p', c', l'⟩ := xm
          simp only [Tm.val, Tm.k, Tm.n, Tm.s, Tm.p, Tm.c, Tm.l]
          go_wp2_with fail
          go_roundw
          case rel =>
            refine ⟨k + 1, by omega, by go_num, ⟨lm ++ [.mk k' n' s' p' c' l'], by simp [Hl0.out], by rw [eraseL_append, He0.out, Htk.out]; simp [Tm.eraseL, He.out], ?_⟩, by go_grown⟩
            have := HF2.out.store (x := .mk k' n' s' p' c' l') (by rw [Hl0.out]; exact hlt) Hin.out (Hon.out.mono fun b hb => ?_)
            · rw [Hl0.out] at this
              simpa only [Tm.k, Tm.n, Tm.s, Tm.p, Tm.c, Tm.l] using this
            · rcases hb with hb | hb
              · exact ⟨.inl hb, by have := HS.out b hb; omega⟩
              · exact ⟨.inr (by omega), by omega⟩
          case measure => simp [intOf]; omega
        · obtain rfl : k = l.length := by omega
          obtain ⟨lm, hl0, he0, hF⟩ := hlm.out
          obtain ⟨⟨b0, b1, b2, b3⟩, ⟨e0, e1, e2, e3⟩, hbs1⟩ := HB'.out.parts
          obtain ⟨⟨y0, y1, y2, y3⟩, ⟨f0, f1, f2, f3⟩, hbs2⟩ := HR'.out.parts
          have HF := Lib.hid hF
          have Hl0 := Lib.hid hl0
          have He0 := Lib.hid he0
          clear hF hl0 he0 hlm
          go_wp2_with fail
          refine bodyPost_ret (v := (Tm.mk 4 0 s (some ⟨w.heap.size + 1 + 1, 0, none⟩) l.length lm).val) (by simp [results, Try.results142, go_sem, Tm.val, Tm.k, Tm.n, Tm.s, Tm.p, Tm.c, Tm.l, Hl0.out, y0, y1, y2, y3]) rfl ⟨_, ?_, ?_, rfl, by go_grown, ?_⟩
          · have hsl := HF.out.sl Hl0.out (by omega)
            have hin : (Tm.mk 4 0 s (some ⟨w.heap.size + 1 + 1, 0, none⟩) l.length lm).In wr := compTm_in Hs.out hsl.1
            have hon : (Tm.mk 4 0 s (some ⟨w.heap.size + 1 + 1, 0, none⟩) l.length lm).On (fun b => S b ∨ w.heap.size + 1 + 1 ≤ b) := by rw [Tm.On]; exact hsl.2
            exact in_after' hin hon fun b h1 h2 o => by
              have : b ≠ w.heap.size ∧ b ≠ w.heap.size + 1 := by
                rcases h1 with h1 | h1
                · have := HS.out b h1; omega
                · omega
              rw [cell_set_ne this.2, cell_set_ne this.2, cell_set_ne this.2, cell_set_ne this.2, cell_set_ne this.1]
          · rw [Tm.erase, He0.out, List.take_length]
          · have hsl := HF.out.sl Hl0.out (by omega)
            rw [Tm.On]
            exact ⟨hsl.2.1.imp id fun ⟨b, o, h1, h2⟩ => ⟨b, o, h1, h2.imp id fun h => by omega⟩, hsl.2.2.mono fun b hb => hb.imp id fun h => by omega⟩
    · rw [Tm.erase, T.map, if_neg hk1, if_neg hk4]
      exact (map_leaf k n s p c l fv w h hk1 hk4).mono fun e w' ⟨bm, h1, h2, h3, h4, h5⟩ => ⟨bm, h1, h2, h3, h4, h5.mono fun b hb => .inr hb⟩


mutual
theorem T.map_varT : ∀ {t : T}, t.formed = true → T.map varT t = t
  | .mk k n s l, h => by
    rw [T.formed] at h
    rw [T.map]
    by_cases h1 : k = 1
    · subst h1
      simp at h
      rw [if_pos rfl, varT, h.1.2, h.2]
    · rw [if_neg h1] at h ⊢
      by_cases h4 : k = 4
      · subst h4
        simp at h
        rw [if_pos rfl, T.mapL_varT h.2]
      · rw [if_neg h4]
        by_cases h2 : k = 2
        · subst h2
          simp at h
          rw [h.2]
        · by_cases h3 : k = 3
          · subst h3
            simp at h
            rw [h.2]
          · simp [h2, h3, h4] at h
theorem T.mapL_varT : ∀ {l : List T}, T.formedL l = true → T.mapL varT l = l
  | [], _ => by rw [T.mapL]
  | x :: xs, h => by
    rw [T.formedL, Bool.and_eq_true] at h
    rw [T.mapL, T.map_varT h.1, T.mapL_varT h.2]
end

theorem map_calls {t : Tm} {fv : Value} {S : Nat → Prop} {f : Int → T} {w : World} (h : t.In w) (hf : t.erase.formed = true) (hm : MapFn fv S f w) :
    Calls Try.prog 142 #[t.val, fv] w (RetTm (fun b => S b ∨ w.heap.size ≤ b) (T.map f t.erase) w) := map_any _ t fv S f w (Nat.le_refl _) h hf hm

theorem mapFn_V (w : World) : MapFn (.func (.func 80) #[] #[]) (fun _ => False) varT w :=
  ⟨fun _ h => h.elim, 80, #[], rfl, fun n w => by kernel_rfl, fun n w _ hn => (v_calls n w hn).mono fun e w' ⟨b, h1, h2, h3, h4, h5⟩ => ⟨b, h1, h2, h3, h4, h5.mono fun b hb => .inr hb⟩⟩

set_option maxHeartbeats 400000 in
/-- term.Copy: the same term in new memory. -/
theorem copy_calls {t : Tm} {w : World} (h : t.In w) (hf : t.erase.formed = true) : Calls Try.prog 90 #[t.val] w (RetTm (w.heap.size ≤ ·) t.erase w) := by
  have H := Lib.hid h
  have Hf := Lib.hid hf
  clear h hf
  simp only [Tm.val]
  go_enter Try.func90, Try.ntmps90
  go_wp2_with fail
  refine (map_calls (t := t) (Tm.In_below (by go_grown) H.out) Hf.out (mapFn_V _)).mono ?_
  rw [T.map_varT Hf.out]
  rintro e w1 ⟨bm, hin, he, rfl, hb1, hon⟩
  obtain ⟨⟨y0, y1, y2, y3⟩, ⟨f0, f1, f2, f3⟩, hlt⟩ := (Blk4.gr (Blk4.new _ _ _ _ _) hb1).parts
  simp only [World.size_alloc] at y0 y1 y2 y3 f0 f1 f2 f3 hlt hon
  have g1 : Gr w w1 := below_step hb1 (by go_grown)
  have Hin := Lib.hid hin
  have Hon := Lib.hid hon
  have He := Lib.hid he
  clear hin hon he hb1
  obtain ⟨k', n', s', p', c', l'⟩ := bm
  simp only [Tm.val, Tm.k, Tm.n, Tm.s, Tm.p, Tm.c, Tm.l]
  go_wp2_with fail
  refine bodyPost_ret (v := (Tm.mk k' n' s' p' c' l').val) (by simp [results, Try.results90, go_sem, Tm.val, Tm.k, Tm.n, Tm.s, Tm.p, Tm.c, Tm.l, y0, y1, y2, y3]) rfl ⟨Tm.mk k' n' s' p' c' l', ?_, He.out, rfl, by go_grown, Hon.out.mono fun b hb => hb.elim (fun h => h.elim) fun h => by omega⟩
  exact in_after' Hin.out Hon.out fun b h1 h2 o => by
    have : b ≠ w.heap.size + 1 := by rcases h1 with h1 | h1; · exact h1.elim
                                     · omega
    rw [cell_set_ne this, cell_set_ne this, cell_set_ne this, cell_set_ne this]

end Go.Proofs.Ytmecghjnghhhkaa
