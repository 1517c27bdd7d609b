/-
  Renaming, bodies and clauses: what they are (no program here).
  term.Is, hornref.Is, base.Callable, term.A, hornref.A
  A map from numbers to numbers that renames; what it keeps while it grows; term.Renamed's function.
  term.Map with the function of term.Renamed.
  hornkeep's marks and lists with spare room: markTerm, roomy.
-/
import Derived.Test.YthncdmijledpnaaTM03
import Derived.Maps.OwnSet
import Derived.Deep.LoopGhost
import Derived.Deep.CutRange
import Derived.Deep.CutBlock
import Derived.Lib.AppendZeros
import Derived.OwnWalk
namespace Go.Proofs.Ythncdmijledpnaa

/-! ### Variables in their order, and renaming -/
mutual
def T.vars : T → List Int → List Int
  | .mk k n _ l, V => if k = 1 then (if n ∈ V then V else V ++ [n]) else T.varsL l V
def T.varsL : List T → List Int → List Int
  | [], V => V
  | x :: xs, V => T.varsL xs (T.vars x V)
end

/-- The new number of a variable. -/
def swapF (d : Int) (V : List Int) (n : Int) : T := if n ∈ V then varT (d + (V.idxOf n : Int)) else varT n

theorem T.varsL_append : ∀ (l l' : List T) (V : List Int), T.varsL (l ++ l') V = T.varsL l' (T.varsL l V)
  | [], l', V => by rw [List.nil_append, T.varsL]
  | x :: xs, l', V => by rw [List.cons_append, T.varsL, T.varsL, T.varsL_append xs l']
theorem T.varsL_single (x : T) (V : List Int) : T.varsL [x] V = T.vars x V := by rw [T.varsL, T.varsL]

mutual
theorem T.vars_prefix : ∀ (t : T) (V : List Int), V <+: T.vars t V
  | .mk k n _ l, V => by
    rw [T.vars]
    split
    · split
      · exact List.prefix_rfl
      · exact List.prefix_append _ _
    · exact T.varsL_prefix l V
theorem T.varsL_prefix : ∀ (l : List T) (V : List Int), V <+: T.varsL l V
  | [], V => by rw [T.varsL]; exact List.prefix_rfl
  | x :: xs, V => by rw [T.varsL]; exact (T.vars_prefix x V).trans (T.varsL_prefix xs _)
end

theorem idxOf_prefix {V W : List Int} (h : V <+: W) {n : Int} (hn : n ∈ V) : W.idxOf n = V.idxOf n := by
  obtain ⟨s, rfl⟩ := h
  rw [List.idxOf_append, if_pos hn]

theorem swapF_prefix {d : Int} {V W : List Int} (h : V <+: W) {n : Int} (hn : n ∈ V) : swapF d W n = swapF d V n := by
  rw [swapF, swapF, if_pos (h.subset hn), if_pos hn, idxOf_prefix h hn]

mutual
/-- All variables of the term are in the list. -/
def T.within (V : List Int) : T → Prop
  | .mk k n _ l => (k = 1 → n ∈ V) ∧ T.withinL V l
def T.withinL (V : List Int) : List T → Prop
  | [] => True
  | x :: xs => T.within V x ∧ T.withinL V xs
end

mutual
theorem T.within_mono {V W : List Int} (h : ∀ n ∈ V, n ∈ W) : ∀ {t : T}, T.within V t → T.within W t
  | .mk _ _ _ _, ht => by
    rw [T.within] at ht ⊢
    exact ⟨fun hk => h _ (ht.1 hk), T.withinL_mono h ht.2⟩
theorem T.withinL_mono {V W : List Int} (h : ∀ n ∈ V, n ∈ W) : ∀ {l : List T}, T.withinL V l → T.withinL W l
  | [], _ => by rw [T.withinL]; trivial
  | _ :: _, hl => by
    rw [T.withinL] at hl ⊢
    exact ⟨T.within_mono h hl.1, T.withinL_mono h hl.2⟩
end

theorem formed_args {k n : Int} {s : List UInt8} {l : List T} (h : (T.mk k n s l).formed = true) : (k = 4 ∧ T.formedL l = true) ∨ (k ≠ 4 ∧ l = []) := by
  rw [T.formed] at h
  by_cases h1 : k = 1
  · subst h1
    simp at h
    exact .inr ⟨by decide, h.2⟩
  · by_cases h2 : k = 2
    · subst h2
      simp at h
      exact .inr ⟨by decide, h.2⟩
    · by_cases h3 : k = 3
      · subst h3
        simp at h
        exact .inr ⟨by decide, h.2⟩
      · by_cases h4 : k = 4
        · subst h4
          simp at h
          exact .inl ⟨rfl, h.2⟩
        · simp [h1, h2, h3, h4] at h

mutual
theorem T.vars_within : ∀ (t : T) (V : List Int), t.formed = true → T.within (T.vars t V) t
  | .mk k n s l, V, h => by
    rw [T.within]
    by_cases h1 : k = 1
    · subst h1
      rcases formed_args h with ⟨h4, _⟩ | ⟨_, rfl⟩
      · cases h4
      · refine ⟨fun _ => ?_, by rw [T.withinL]; trivial⟩
        rw [T.vars, if_pos rfl]
        split
        · assumption
        · simp
    · rw [T.vars, if_neg h1]
      refine ⟨fun e => absurd e h1, ?_⟩
      rcases formed_args h with ⟨_, hl⟩ | ⟨_, rfl⟩
      · exact T.varsL_within l V hl
      · rw [T.withinL]; trivial
theorem T.varsL_within : ∀ (l : List T) (V : List Int), T.formedL l = true → T.withinL (T.varsL l V) l
  | [], V, _ => by rw [T.withinL]; trivial
  | x :: xs, V, h => by
    rw [T.formedL, Bool.and_eq_true] at h
    rw [T.withinL, T.varsL]
    exact ⟨T.within_mono (fun n hn => (T.varsL_prefix xs _).subset hn) (T.vars_within x V h.1), T.varsL_within xs _ h.2⟩
end

mutual
theorem T.map_swap {d : Int} {V W : List Int} (h : V <+: W) : ∀ {t : T}, T.within V t → T.map (swapF d W) t = T.map (swapF d V) t
  | .mk k n s l, ht => by
    rw [T.within] at ht
    rw [T.map, T.map, T.mapL_swap h ht.2]
    by_cases hk : k = 1
    · rw [if_pos hk, if_pos hk, swapF_prefix h (ht.1 hk)]
    · rw [if_neg hk, if_neg hk]
theorem T.mapL_swap {d : Int} {V W : List Int} (h : V <+: W) : ∀ {l : List T}, T.withinL V l → T.mapL (swapF d W) l = T.mapL (swapF d V) l
  | [], _ => by rw [T.mapL, T.mapL]
  | x :: xs, hl => by
    rw [T.withinL] at hl
    rw [T.mapL, T.mapL, T.map_swap h hl.1, T.mapL_swap h hl.2]
end

/-- The list of variables is fit: each one once, each a variable's number. -/
def VarsOk (V : List Int) : Prop := V.Nodup ∧ ∀ n ∈ V, 0 ≤ n ∧ n ≤ 1099511627776

theorem VarsOk.len {V : List Int} (h : VarsOk V) : V.length ≤ 1099511627777 := by
  have h1 : V.Nodup := h.1
  have h2 : V ⊆ (List.range 1099511627777).map (fun i : Nat => (i : Int)) := by
    intro n hn
    have := h.2 n hn
    rw [List.mem_map]
    exact ⟨n.toNat, List.mem_range.2 (by omega), by omega⟩
  have h3 := h1.length_le_of_subset h2
  rw [List.length_map, List.length_range] at h3
  exact h3

theorem VarsOk.nil : VarsOk [] := ⟨List.nodup_nil, fun _ h => by cases h⟩

theorem formed_var {n : Int} {s : List UInt8} {l : List T} (h : (T.mk 1 n s l).formed = true) : (0 ≤ n ∧ n ≤ 1099511627776) ∧ s = [] ∧ l = [] := by
  rw [T.formed] at h
  simp at h
  exact ⟨h.1.1, h.1.2, h.2⟩

theorem VarsOk.one {V : List Int} (h : VarsOk V) {n : Int} (hn : 0 ≤ n ∧ n ≤ 1099511627776) : VarsOk (if n ∈ V then V else V ++ [n]) := by
  split
  · exact h
  · rename_i hm
    refine ⟨?_, fun k hk => ?_⟩
    · rw [List.nodup_append]
      exact ⟨h.1, by simp, fun a ha b hb => by rw [List.mem_singleton] at hb; subst hb; exact fun e => hm (e ▸ ha)⟩
    · rcases List.mem_append.1 hk with hk | hk
      · exact h.2 k hk
      · rw [List.mem_singleton] at hk; exact hk ▸ hn

mutual
theorem VarsOk.vars : ∀ (t : T) {V : List Int}, VarsOk V → t.formed = true → VarsOk (T.vars t V)
  | .mk k n s l, V, h, hf => by
    rw [T.vars]
    by_cases h1 : k = 1
    · subst h1
      rw [if_pos rfl]
      exact h.one (formed_var hf).1
    · rw [if_neg h1]
      rcases formed_args hf with ⟨_, hl⟩ | ⟨_, rfl⟩
      · exact VarsOk.varsL l h hl
      · rw [T.varsL]; exact h
theorem VarsOk.varsL : ∀ (l : List T) {V : List Int}, VarsOk V → T.formedL l = true → VarsOk (T.varsL l V)
  | [], V, h, _ => by rw [T.varsL]; exact h
  | x :: xs, V, h, hf => by
    rw [T.formedL, Bool.and_eq_true] at hf
    rw [T.varsL]
    exact VarsOk.varsL xs (VarsOk.vars x h hf.1) hf.2
end

/-! ### Bodies and clauses -/
def sTrue : List UInt8 := [116, 114, 117, 101]
def sCallT : List UInt8 := [99, 97, 108, 108]
def sNeck : List UInt8 := [58, 45]
def T.isOf (t : T) (s : List UInt8) (n : Int) : Bool := (decide (t.k = 4) || decide (t.k = 3)) && decide (t.s = s) && decide ((t.l.length : Int) = n)
def T.joins (t : T) : Bool := t.isOf [44] 2 || t.isOf [59] 2 || t.isOf [45, 62] 2

mutual
/-- A term as a body. -/
def T.body : T → Option T
  | .mk k n s l =>
    if k = 1 then some (compT sCallT [.mk k n s l])
    else if k = 2 then none
    else if (T.mk k n s l).joins then (T.bodyL l).map (compT s)
    else some (.mk k n s l)
def T.bodyL : List T → Option (List T)
  | [] => some []
  | x :: xs => match T.body x, T.bodyL xs with
    | some y, some ys => some (y :: ys)
    | _, _ => none
end

mutual
theorem formed_mapped (f : Int → T) (hf : ∀ n, 0 ≤ n → n ≤ 1099511627776 → (f n).formed = true) : ∀ t : T, t.formed = true → (T.map f t).formed = true
  | .mk k n s l, h => by
    rw [T.map]
    by_cases h1 : k = 1
    · subst h1
      rw [if_pos rfl]
      exact hf n (formed_var h).1.1 (formed_var h).1.2
    · rw [if_neg h1]
      by_cases h4 : k = 4
      · subst h4
        rw [if_pos rfl]
        rw [T.formed] at h ⊢
        simp only [show ¬ (4 : Int) = 1 by decide, show ¬ (4 : Int) = 2 by decide, show ¬ (4 : Int) = 3 by decide, if_false, if_true, Bool.and_eq_true, decide_eq_true_eq, T.mapL_length] at h ⊢
        exact ⟨h.1, formedL_mapped f hf l h.2⟩
      · rw [if_neg h4]
        rcases formed_args h with ⟨h5, _⟩ | ⟨_, rfl⟩
        · exact absurd h5 h4
        · exact h
theorem formedL_mapped (f : Int → T) (hf : ∀ n, 0 ≤ n → n ≤ 1099511627776 → (f n).formed = true) : ∀ l : List T, T.formedL l = true → T.formedL (T.mapL f l) = true
  | [], _ => by rw [T.mapL, T.formedL]
  | x :: xs, h => by
    rw [T.formedL, Bool.and_eq_true] at h
    rw [T.mapL, T.formedL, Bool.and_eq_true]
    exact ⟨formed_mapped f hf x h.1, formedL_mapped f hf xs h.2⟩
end

theorem varT_formed {n : Int} (h : 0 ≤ n ∧ n ≤ 1099511627776) : (varT n).formed = true := by
  rw [varT, T.formed]; simp [h.1, h.2]

/-- The parts of a clause as a term. -/
def T.parts (t : T) : T × T := if t.isOf sNeck 2 then (t.l.getD 0 zeroT, t.l.getD 1 zeroT) else (t, atomT sTrue)
def T.callable (t : T) : Bool := decide (t.k = 3) || decide (t.k = 4)
/-- A term as a clause; res: is a predicate reserved? -/
def T.make (res : List UInt8 → Int → Bool) (t : T) : Option (T × T) :=
  match T.body t.parts.2 with
  | none => none
  | some b => if t.parts.1.callable && !res t.parts.1.s (t.parts.1.l.length : Int) then some (T.map (swapF 0 (T.varsL [t.parts.1, b] [])) t.parts.1, T.map (swapF 0 (T.varsL [t.parts.1, b] [])) b) else none
end Go.Proofs.Ythncdmijledpnaa

namespace Go.Proofs.Ythncdmijledpnaa
open Go.RowKit

theorem atomR_calls (s : ByteArray) (w : World) : Calls Try.prog 76 #[.string s] w (Ret (.agg #[.int .i64 3, .int .i64 0, .string s, .slice none 0 0]) w) := by
  go_enter Try.func76, Try.ntmps76
  go_wp2_with fail
  exact bodyPost_ret (v := .agg #[.int .i64 3, .int .i64 0, .string s, .slice none 0 0]) (by simp [results, Try.results76, go_sem]) rfl ⟨rfl, by go_grown⟩

end Go.Proofs.Ythncdmijledpnaa

namespace Go.Proofs.Ythncdmijledpnaa
open Go.RowKit Go.Maps

/-- Nothing that was there has turned but on such blocks. -/
structure Kp (C : Nat → Prop) (w w' : World) : Prop where
  os : w'.os = w.os
  tape : w'.tape = w.tape
  output : w'.output = w.output
  size : w.heap.size ≤ w'.heap.size
  block : ∀ k, k < w.heap.size → ¬ C k → w'.heap[k]? = w.heap[k]?

section
variable {C C' : Nat → Prop} {w w' w'' : World}
theorem Kp.refl (C : Nat → Prop) (w : World) : Kp C w w := ⟨rfl, rfl, rfl, Nat.le_refl _, fun _ _ _ => rfl⟩
theorem Kp.trans (h : Kp C w w') (k : Kp C w' w'') : Kp C w w'' :=
  ⟨k.os.trans h.os, k.tape.trans h.tape, k.output.trans h.output, Nat.le_trans h.size k.size, fun i hi hc => (k.block i (Nat.lt_of_lt_of_le hi h.size) hc).trans (h.block i hi hc)⟩
theorem Kp.of_gr (h : Gr w w') : Kp C w w' := ⟨h.os, h.tape, h.output, h.size, fun i hi _ => h.block i hi⟩
theorem Kp.mono (hC : ∀ b, C b → C' b) (h : Kp C w w') : Kp C' w w' := ⟨h.os, h.tape, h.output, h.size, fun i hi hc => h.block i hi fun h => hc (hC i h)⟩
theorem Kp.weaken (hC : ∀ b, b < w.heap.size → C b → C' b) (h : Kp C w w') : Kp C' w w' := ⟨h.os, h.tape, h.output, h.size, fun i hi hc => h.block i hi fun h => hc (hC i hi h)⟩
theorem Kp.below {B : Nat} (h : Kp C w w') (hC : ∀ b, C b → B ≤ b) (hB : B ≤ w.heap.size) : Below B w w' :=
  ⟨h.os, h.tape, h.output, h.size, fun i hi => h.block i (by omega) fun hc => by have := hC i hc; omega⟩
theorem Kp.cell {p : Addr} {v : Value} (h : Kp C w w') (hc : w.cell? p = some v) (hn : ¬ C p.block) : w'.cell? p = some v :=
  (World.cell?_of_block (h.block p.block (World.block_lt_of_cell? _ _ hc) hn)).trans hc
theorem Kp.set {b o : Nat} {v : Value} (hb : C b) : Kp C w (w.setCell ⟨b, o, none⟩ v) :=
  ⟨rfl, rfl, rfl, by simp, fun i _ hc => Below.heap_setCell w ⟨b, o, none⟩ v i fun e => hc (by rw [e]; exact hb)⟩
theorem Kp.of_grownBy {r : Nat} (h : w.grownBy w' (some r)) (hr : C r) : Kp C w w' :=
  ⟨h.os, h.tape, h.output, h.size, fun i hi hc => h.block i hi fun e => hc (by cases e; exact hr)⟩
end

/-- Block b is a map: the i-th number of V has the value d + i; no other is there. -/
def NumMap (w : World) (b : Nat) (d : Int) (V : List Int) : Prop :=
  ∃ D : DataW Unit, w.ownsMap Try.prog 2 (plainElem Try.prog 2) b V.length D ∧ IsMap D ∧
    ∀ n, In64 n → (n ∈ V → has D (.int .i64 n) = true ∧ D.atKey (.int .i64 n) (.lit (.int .i64 0)) = .lit (.int .i64 (d + (V.idxOf n : Int)))) ∧ (n ∉ V → has D (.int .i64 n) = false)

theorem wf_64 {c : Int} (h : In64 c) : (Lit.int .i64 c).wf = true := WalkArith.wf_i64 h

section
variable {w w' : World} {b : Nat} {d : Int} {V : List Int}
theorem NumMap.lt (h : NumMap w b d V) : b < w.heap.size := by
  obtain ⟨D, h1, _⟩ := h
  exact h1.lt
theorem NumMap.same (h : NumMap w b d V) (hb : w'.heap[b]? = w.heap[b]?) : NumMap w' b d V := by
  obtain ⟨D, ⟨es, clock, hb0, h2⟩, h3⟩ := h
  exact ⟨D, ⟨es, clock, hb.trans hb0, h2⟩, h3⟩
theorem NumMap.made (w : World) (d : Int) : NumMap (w.alloc (.map #[] 0)) w.heap.size d [] :=
  ⟨.map [], World.ownsMap_made w _ _ _, isMap_empty, fun n _ => ⟨fun h => (by cases h), fun _ => rfl⟩⟩
theorem zero_int64 (w : World) : (zeroValue 2).run Try.prog w = .ok (.int .i64 0) w := by kernel_rfl

set_option maxRecDepth 100000 in
theorem NumMap.run (h : NumMap w b d V) {n : Int} (hn : In64 n) :
    (n ∈ V → (Instr.lookup 149 (.map (some b)) (.int .i64 n) true).run Try.prog w = .ok (.tuple #[.int .i64 (d + (V.idxOf n : Int)), .bool true]) w) ∧
    (n ∉ V → (Instr.lookup 149 (.map (some b)) (.int .i64 n) true).run Try.prog w = .ok (.tuple #[.int .i64 0, .bool false]) w) := by
  obtain ⟨D, h1, _, h3⟩ := h
  obtain ⟨v, ps, hrun, hv⟩ := h1.look_ok (t := 149) (int_keyed Try.underlying2) Try.underlying149 (zero_int64 w) (plainElem_int Try.underlying2 (wf_64 (c := 0) ⟨by omega, by omega⟩)) (keyOf_int_mk Try.underlying2 (wf_64 hn))
  obtain ⟨c, rfl, hc, _⟩ := plainElem_int_inv Try.underlying2 hv
  simp only [Prod.mk.injEq] at hc
  obtain ⟨h4, h5⟩ := h3 n hn
  refine ⟨fun hm => ?_, fun hm => ?_⟩
  · obtain ⟨h6, h7⟩ := h4 hm
    rw [h7] at hc
    have hc1 := hc.1
    injection hc1 with hc1
    injection hc1 with _ hc1
    rw [hrun, h6, hc1]
  · rw [atKey_of_not_has (h5 hm)] at hc
    have hc1 := hc.1
    injection hc1 with hc1
    injection hc1 with _ hc1
    rw [hrun, h5 hm, hc1]

theorem wpList_update_num {P : Program} {ops : Array Oper} {rest : List Oper} {o : Oper} {a : Act} {Q : Exit → Act → World → Prop} (hg : o.guard = none) (m x v : Operand)
    (hop : o.op = Op.mapUpdate 149 m x v) (hP : P = Try.prog) (b : Nat) (d : Int) (V : List Int) (n : Int)
    (hm : a.eval m = .map (some b)) (hx : a.eval x = .int .i64 n) (hv : a.eval v = .int .i64 (d + (V.length : Int))) (h : NumMap w b d V) (hn : In64 n) (hno : n ∉ V) (hl : V.length < maxLen) (hc : In64 (d + (V.length : Int)))
    (hK : ∀ w', NumMap w' b d (V ++ [n]) → w.grownBy w' (some b) → wpList P ops Q rest (a.put o.dst undef) w') : wpList P ops Q (o :: rest) a w := by
  subst hP
  obtain ⟨D, h1, h2, h3⟩ := h
  refine wpList_mapUpdate_own w hg m x v 149 hop 2 2 (int_keyed Try.underlying2) Try.underlying149 (plainElem Try.prog 2) b V.length D hm h1 hl _ _ (.int .i64 n) hx hv
    (keyOf_int_mk Try.underlying2 (wf_64 hn)) (.lit (.int .i64 (d + (V.length : Int)))) [] (plainElem_int Try.underlying2 (wf_64 hc)) ?_
  intro w' h4 h5
  refine hK w' ⟨_, by rw [List.length_append]; exact h4, h2.put _ _, fun t ht => ?_⟩ h5
  by_cases e : t = n
  · subst e
    refine ⟨fun _ => ⟨has_put_same h2 (by simp [WideAt.IsKeyLit]) _, ?_⟩, fun hm => absurd (List.mem_append_right _ (List.mem_singleton.2 rfl)) hm⟩
    rw [atKey_put_same h2 (by simp [WideAt.IsKeyLit]), List.idxOf_append, if_neg hno]
    simp
  · have hne : (Lit.int .i64 t : Lit) ≠ .int .i64 n := fun e2 => e (by injection e2)
    rw [has_put_other hne, atKey_put_other hne]
    refine ⟨fun hm => ?_, fun hm => (h3 t ht).2 fun h => hm (List.mem_append_left _ h)⟩
    have hm' : t ∈ V := by
      rcases List.mem_append.1 hm with h | h
      · exact h
      · exact absurd (List.mem_singleton.1 h) e
    rw [List.idxOf_append, if_pos hm']
    exact (h3 t ht).1 hm'
end

/-- The state of a renaming: the box of its map, its map, the box of its next number. -/
structure RenSt (d : Int) (V : List Int) (N M F : Nat) (w : World) : Prop where
  box : w.heap[N]? = some (.cells #[.map (some M)] 149)
  next : w.heap[F]? = some (.cells #[.int .i64 (d + (V.length : Int))] 2)
  map : NumMap w M d V
  apart : N ≠ M ∧ N ≠ F ∧ M ≠ F

theorem RenSt.gr {d : Int} {V : List Int} {N M F : Nat} {w w' : World} (h : RenSt d V N M F w) (hg : Gr w w') : RenSt d V N M F w' :=
  ⟨(hg.block N (Array.getElem?_eq_some_iff.1 h.box).1).trans h.box, (hg.block F (Array.getElem?_eq_some_iff.1 h.next).1).trans h.next, h.map.same (hg.block M h.map.lt), h.apart⟩
theorem RenSt.kp {C : Nat → Prop} {d : Int} {V : List Int} {N M F : Nat} {w w' : World} (h : RenSt d V N M F w) (hg : Kp C w w') (hN : ¬ C N) (hM : ¬ C M) (hF : ¬ C F) : RenSt d V N M F w' :=
  ⟨(hg.block N (Array.getElem?_eq_some_iff.1 h.box).1 hN).trans h.box, (hg.block F (Array.getElem?_eq_some_iff.1 h.next).1 hF).trans h.next, h.map.same (hg.block M h.map.lt hM), h.apart⟩
theorem RenSt.lts {d : Int} {V : List Int} {N M F : Nat} {w : World} (h : RenSt d V N M F w) : N < w.heap.size ∧ M < w.heap.size ∧ F < w.heap.size :=
  ⟨(Array.getElem?_eq_some_iff.1 h.box).1, h.map.lt, (Array.getElem?_eq_some_iff.1 h.next).1⟩

theorem vV_calls (n : Int) (w : World) : Calls Try.prog 87 #[.int .i64 n] w (Ret (.agg #[.int .i64 1, .int .i64 n, .string ⟨#[]⟩, .slice none 0 0]) w) := by
  go_enter Try.func87, Try.ntmps87
  go_wp2_with fail
  exact bodyPost_ret (v := .agg #[.int .i64 1, .int .i64 n, .string ⟨#[]⟩, .slice none 0 0]) (by simp [results, Try.results87, go_sem]) rfl ⟨rfl, by go_grown⟩

def withVar (V : List Int) (n : Int) : List Int := if n ∈ V then V else V ++ [n]

theorem set_next {d : Int} {V : List Int} {N M F : Nat} {n : Int} {w w1 : World} (h : RenSt d V N M F w) (hg : w.grownBy w1 (some M)) (hm : NumMap w1 M d (V ++ [n])) (hF : w1.heap[F]? = some (.cells #[.int .i64 (d + (V.length : Int))] 2)) :
    RenSt d (V ++ [n]) N M F (w1.setCell ⟨F, 0, none⟩ (.int .i64 (d + (V.length : Int) + 1))) ∧ Kp (fun b => b = M ∨ b = F) w (w1.setCell ⟨F, 0, none⟩ (.int .i64 (d + (V.length : Int) + 1))) ∧
      ∀ {R : Nat} {v0 v1 v2 v3 : Value}, Blk4 w R v0 v1 v2 v3 → R ≠ M → R ≠ F → Blk4 (w1.setCell ⟨F, 0, none⟩ (.int .i64 (d + (V.length : Int) + 1))) R v0 v1 v2 v3 := by
  obtain ⟨hNM, hNF, hMF⟩ := h.apart
  have hK : Kp (fun b => b = M ∨ b = F) w (w1.setCell ⟨F, 0, none⟩ (.int .i64 (d + (V.length : Int) + 1))) := (Kp.of_grownBy hg (.inl rfl)).trans (Kp.set (.inr rfl))
  refine ⟨⟨?_, ?_, hm.same (Below.heap_setCell w1 ⟨F, 0, none⟩ _ M hMF), h.apart⟩, hK, fun hB h1 h2 => ?_⟩
  · exact (hK.block N (Array.getElem?_eq_some_iff.1 h.box).1 (fun h => h.elim hNM hNF)).trans h.box
  · rw [heap_setCell_same _ F _ _ _ _ hF]
    simp only [List.setIfInBounds_toArray, List.set_cons_zero, List.length_append, List.length_cons, List.length_nil]
    rw [show d + ((V.length + (0 + 1) : Nat) : Int) = d + (V.length : Int) + 1 by omega]
  · exact (hK.block _ (Array.getElem?_eq_some_iff.1 hB).1 (fun h => h.elim h1 h2)).trans hB

set_option maxHeartbeats 1000000 in
set_option maxRecDepth 100000 in
theorem rename1_calls (d : Int) (V : List Int) (N M F : Nat) (n : Int) (w : World) (h : RenSt d V N M F w) (hn : In64 n) (hd : In64 d ∧ In64 (d + V.length + 1)) (hl : V.length < maxLen) :
    Calls Try.prog 160 #[.int .i64 n, .pointer (some ⟨N, 0, none⟩), .pointer (some ⟨F, 0, none⟩)] w fun e w' =>
      e = .returned (varTm (d + ((withVar V n).idxOf n : Int))).val ∧ RenSt d (withVar V n) N M F w' ∧ Kp (fun b => b = M ∨ b = F) w w' := by
  generalize hQ : (fun (e : Ending) (w' : World) => e = .returned (varTm (d + ((withVar V n).idxOf n : Int))).val ∧ RenSt d (withVar V n) N M F w' ∧ Kp (fun b => b = M ∨ b = F) w w') = Q
  have hR : Hid (∀ k w', d + ((withVar V n).idxOf n : Int) = k → RenSt d (withVar V n) N M F w' → Kp (fun b => b = M ∨ b = F) w w' → Q (.returned (varTm k).val) w') := fun k w' hk h1 h2 => by rw [← hQ, ← hk]; exact ⟨rfl, h1, h2⟩
  clear hQ
  obtain ⟨⟨hd1, hd2⟩, hd3, hd4⟩ := hd
  have HS := Lib.hid h
  obtain ⟨hlN, hlM, hlF⟩ := h.lts
  obtain ⟨hNM, hNF, hMF⟩ := h.apart
  have cN := cell_of_row w N 0 _ _ _ h.box
  have cF := cell_of_row w F 0 _ _ _ h.next
  have fF := frozen_of_row w F 0 _ _ h.next
  simp only [List.getElem?_toArray, List.getElem?_cons_zero] at cN cF
  go_enter Try.func160, Try.ntmps160
  try simp only [List.append_eq, List.cons_append, List.nil_append]
  go_upto_region 1 with fail
  have hB := Blk4.new w (.int .i64 0) (.int .i64 0) (.string ⟨#[]⟩) (.slice none 0 0)
  have gA : Gr w (w.alloc (.cells #[.int .i64 0, .int .i64 0, .string ⟨#[]⟩, .slice none 0 0] 25)) := by go_grown
  have hsz : (w.alloc (.cells #[.int .i64 0, .int .i64 0, .string ⟨#[]⟩, .slice none 0 0] 25)).heap.size = w.heap.size + 1 := by simp
  generalize w.alloc (.cells #[.int .i64 0, .int .i64 0, .string ⟨#[]⟩, .slice none 0 0] 25) = wA at *
  have HSA := Lib.hid (h.gr gA)
  have HB := Lib.hid hB
  replace cN := Gr.at gA cN
  clear h hB cF fF
  by_cases hm : n ∈ V
  · have hV : Hid (withVar V n = V) := if_pos hm
    have hrun := (HSA.out.map.run hn).1 hm
    clear hm
    rw [hV.out] at hR
    go_wp2_with (first
      | (go_at_call 87; refine (vV_calls _ _).mono ?_; rintro e w' ⟨rfl, hb⟩; obtain ⟨⟨y0, y1, y2, y3⟩, ⟨f0, f1, f2, f3⟩, hlt⟩ := (HB.out.gr hb).parts; have g2 := gA.trans hb; clear hb)
      | fail)
    refine bodyPost_ret (v := (varTm (d + (V.idxOf n : Int))).val) (by simp [results, Try.results160, go_sem, varTm, Tm.val, Tm.k, Tm.n, Tm.s, Tm.p, Tm.c, Tm.l, y0, y1, y2, y3]) rfl ?_
    have g3 := g2
    exact hR.out _ _ rfl (HS.out.gr (by go_grown)) (Kp.of_gr (by go_grown))
  · have hV : Hid (withVar V n = V ++ [n]) := if_neg hm
    have hidx : Hid (d + ((V ++ [n]).idxOf n : Int) = d + (V.length : Int)) := by show _ = _; rw [List.idxOf_append, if_neg hm]; simp
    have hrun := (HSA.out.map.run hn).2 hm
    have Hm := Lib.hid hm
    clear hm
    rw [hV.out] at hR
    have cF := cell_of_row wA F 0 _ _ _ HSA.out.next
    simp only [List.getElem?_toArray, List.getElem?_cons_zero] at cF
    have hw1 : IntKind.i64.wrap (d + (V.length : Int) + 1) = d + (V.length : Int) + 1 := IntWalk.i64_in _ (by omega)
    go_wp2_with (first
      | (at_mapUpdate; refine wpList_update_num rfl _ _ _ rfl rfl _ d V n rfl rfl rfl HSA.out.map hn Hm.out hl ⟨by omega, by omega⟩ ?_; intro w1 n1 hg1; have HN1 := Lib.hid n1; have HG1 := Lib.hid hg1; have hF1 : w1.heap[F]? = some (.cells #[.int .i64 (d + (V.length : Int))] 2) := (hg1.block F (Array.getElem?_eq_some_iff.1 HSA.out.next).1 (fun e => hMF (by cases e; rfl))).trans HSA.out.next; have cF1 := cell_of_row w1 F 0 _ _ _ hF1; have fF1 := frozen_of_row w1 F 0 _ _ hF1; simp only [List.getElem?_toArray, List.getElem?_cons_zero] at cF1; clear n1 hg1 cF)
      | (go_at_call 87; have X := set_next HSA.out HG1.out HN1.out hF1; refine (vV_calls _ _).mono ?_; rintro e w' ⟨rfl, hb⟩; have HS2 := Lib.hid (X.1.gr hb); have HK2 := Lib.hid (((Kp.of_gr gA).trans X.2.1).trans (Kp.of_gr hb)); obtain ⟨⟨y0, y1, y2, y3⟩, ⟨f0, f1, f2, f3⟩, hlt⟩ := ((X.2.2 HB.out (by omega) (by omega)).gr hb).parts; clear hb X cF1 fF1 hF1)
      | fail)
    refine bodyPost_ret (v := (varTm (d + (V.length : Int))).val) (by simp [results, Try.results160, go_sem, varTm, Tm.val, Tm.k, Tm.n, Tm.s, Tm.p, Tm.c, Tm.l, y0, y1, y2, y3]) rfl ?_
    have hK4 : ∀ a b c e : Value, Kp (fun b => b = w.heap.size) w' ((((w'.setCell ⟨w.heap.size, 0, none⟩ a).setCell ⟨w.heap.size, 1, none⟩ b).setCell ⟨w.heap.size, 2, none⟩ c).setCell ⟨w.heap.size, 3, none⟩ e) := fun a b c e =>
      (((Kp.set (C := fun b => b = w.heap.size) rfl).trans (Kp.set rfl)).trans (Kp.set rfl)).trans (Kp.set rfl)
    exact hR.out _ _ hidx.out (HS2.out.kp (hK4 _ _ _ _) (by omega) (by omega) (by omega)) (((HK2.out.mono (C' := fun b => (b = M ∨ b = F) ∨ b = w.heap.size) fun _ h => .inl h).trans ((hK4 _ _ _ _).mono fun _ h => .inr h)).weaken fun b hb hc => hc.resolve_right (by omega))
end Go.Proofs.Ythncdmijledpnaa

namespace Go.Proofs.Ythncdmijledpnaa
open Go.RowKit Go.Maps

theorem Kp.set4 {C : Nat → Prop} {W : World} {R o1 o2 o3 o4 : Nat} {a b c e : Value} (hC : C R) :
    Kp C W ((((W.setCell ⟨R, o1, none⟩ a).setCell ⟨R, o2, none⟩ b).setCell ⟨R, o3, none⟩ c).setCell ⟨R, o4, none⟩ e) := (((Kp.set hC).trans (Kp.set hC)).trans (Kp.set hC)).trans (Kp.set hC)
theorem Blk4.kp {C : Nat → Prop} {w w' : World} {b : Nat} {v0 v1 v2 v3 : Value} (h : Blk4 w b v0 v1 v2 v3) (hg : Kp C w w') (hb : ¬ C b) : Blk4 w' b v0 v1 v2 v3 := (hg.block b (Array.getElem?_eq_some_iff.1 h).1 hb).trans h

/-- What the function touches. -/
abbrev MF (M F : Nat) : Nat → Prop := fun b => b = M ∨ b = F

theorem Filling.kp {C : Nat → Prop} {w w' : World} {B : Nat} {g n : Nat} {l : List Tm} (h : Filling w B (fun _ => False) g n l) (hg : Kp C w w') (hC : ∀ b, B ≤ b → ¬ C b) : Filling w' B (fun _ => False) g n l := by
  obtain ⟨h1, h2, ⟨cur, h3, h4⟩, h5, h6⟩ := h
  refine ⟨h1, h2, ⟨cur, (hg.block g (Array.getElem?_eq_some_iff.1 h3).1 (hC g h1)).trans h3, h4⟩, Tm.InL.same (fun b hb o => World.cell?_of_block (hg.block b hb.2.1 (hC b (hb.1.resolve_left id)))) h5 h6,
    h6.mono fun b hb => ⟨hb.1, Nat.lt_of_lt_of_le hb.2.1 hg.size, hb.2.2⟩⟩

theorem two_blocks (w : World) (v0 v1 v2 v3 u0 u1 u2 u3 : Value) :
    Hid (Blk4 ((w.alloc (.cells #[v0, v1, v2, v3] 25)).alloc (.cells #[u0, u1, u2, u3] 25)) w.heap.size v0 v1 v2 v3) ∧
    Hid (Blk4 ((w.alloc (.cells #[v0, v1, v2, v3] 25)).alloc (.cells #[u0, u1, u2, u3] 25)) (w.heap.size + 1) u0 u1 u2 u3) ∧
    Gr w ((w.alloc (.cells #[v0, v1, v2, v3] 25)).alloc (.cells #[u0, u1, u2, u3] 25)) := by
  have h1 := Blk4.new (w.alloc (.cells #[v0, v1, v2, v3] 25)) u0 u1 u2 u3
  rw [World.size_alloc] at h1
  exact ⟨Blk4.old (Blk4.new w _ _ _ _) _, h1, by go_grown⟩
theorem varTm_val (n : Int) : (varTm n).val = .agg #[.int .i64 1, .int .i64 n, .string ⟨#[]⟩, .slice none 0 0] := rfl

set_option maxHeartbeats 1000000 in
set_option maxRecDepth 100000 in
theorem mapRen_var (d : Int) (V : List Int) (n : Int) (s : ByteArray) (p : Option Addr) (c : Nat) (l : List Tm) (N M F : Nat) (w : World) (hn : 0 ≤ n ∧ n ≤ 1099511627776) (hd : 0 ≤ d ∧ d ≤ 1099511627777) (hV : VarsOk V) (h : RenSt d V N M F w) :
    Calls Try.prog 126 #[(Tm.mk 1 n s p c l).val, .func (.func 160) #[] #[.pointer (some ⟨N, 0, none⟩), .pointer (some ⟨F, 0, none⟩)]] w fun e w' =>
      e = .returned (varTm (d + ((withVar V n).idxOf n : Int))).val ∧ RenSt d (withVar V n) N M F w' ∧ Kp (MF M F) w w' := by
  generalize hQ : (fun (e : Ending) (w' : World) => e = .returned (varTm (d + ((withVar V n).idxOf n : Int))).val ∧ RenSt d (withVar V n) N M F w' ∧ Kp (MF M F) w w') = Q
  have hR : Hid (∀ w', RenSt d (withVar V n) N M F w' → Kp (MF M F) w w' → Q (.returned (varTm (d + ((withVar V n).idxOf n : Int))).val) w') := fun w' h1 h2 => by rw [← hQ]; exact ⟨rfl, h1, h2⟩
  clear hQ
  have hlen := hV.len
  obtain ⟨hlN, hlM, hlF⟩ := h.lts
  have hen : ∀ args w, (callFunc 160 args).run Try.prog w = .ok (.enter 160 args) w := fun args w => by kernel_rfl
  have hc := Lib.hid (fun W (hW : Gr w W) => rename1_calls d V N M F n W (h.gr hW) ⟨by omega, by omega⟩ ⟨⟨by omega, by omega⟩, by omega, by omega⟩ (by unfold maxLen; omega))
  clear h
  generalize d + ((withVar V n).idxOf n : Int) = m at *
  simp only [Tm.val, Tm.k, Tm.n, Tm.s, Tm.p, Tm.c, Tm.l]
  go_enter Try.func126, Try.ntmps126
  try simp only [List.append_eq, List.cons_append, List.nil_append]
  go_upto_region 1 with fail
  obtain ⟨HB, HR, gA⟩ := two_blocks w (.int .i64 1) (.int .i64 n) (.string s) (.slice p l.length c) (.int .i64 0) (.int .i64 0) (.string ⟨#[]⟩) (.slice none 0 0)
  generalize (w.alloc (.cells #[.int .i64 1, .int .i64 n, .string s, .slice p l.length c] 25)).alloc (.cells #[.int .i64 0, .int .i64 0, .string ⟨#[]⟩, .slice none 0 0] 25) = wA at *
  obtain ⟨⟨b0, b1, b2, b3⟩, _, _⟩ := HB.out.parts
  go_wp2_with (first
    | (go_at_call 160; refine (hc.out _ gA).mono ?_; rintro e w' ⟨rfl, hs, hk⟩; rewrite [varTm_val]; have HS := Lib.hid hs; have HK := Lib.hid hk; obtain ⟨⟨y0, y1, y2, y3⟩, ⟨f0, f1, f2, f3⟩, hlt⟩ := (HR.out.kp hk (by omega)).parts; clear hs hk b0 b1 b2 b3)
    | fail)
  refine bodyPost_ret (v := (varTm m).val) (by simp [results, Try.results126, go_sem, varTm, Tm.val, Tm.k, Tm.n, Tm.s, Tm.p, Tm.c, Tm.l, y0, y1, y2, y3]) rfl ?_
  exact hR.out _ (HS.out.kp (Kp.set4 (C := fun b => b = w.heap.size + 1) rfl) (by omega) (by omega) (by omega))
    ((((Kp.of_gr gA).trans (HK.out.mono (C' := fun b => MF M F b ∨ b = w.heap.size + 1) fun _ h => .inl h)).trans (Kp.set4 (.inr rfl))).weaken fun b hb hc => hc.resolve_right (by omega))
end Go.Proofs.Ythncdmijledpnaa

namespace Go.Proofs.Ythncdmijledpnaa
open Go.RowKit Go.Lib

def spoiltB : ByteArray := ⟨#[115, 112, 111, 105, 108, 116]⟩
/-- What is written over. -/
def markTm : Tm := .mk 9 (-77) spoiltB none 0 []
def marks : List Value := markTm.cells ++ markTm.cells ++ markTm.cells
theorem markTm_val : markTm.val = .agg #[.int .i64 9, .int .i64 (-77), .string spoiltB, .slice none 0 0] := rfl

theorem markY_calls (w : World) : Calls Try.prog 79 #[] w (Ret markTm.val w) := by
  have hR : Hid (∀ w', Gr w w' → Ret markTm.val w (.returned (.agg #[.int .i64 9, .int .i64 (-77), .string ⟨#[115, 112, 111, 105, 108, 116]⟩, .slice none 0 0])) w') := fun w' hg => ⟨rfl, hg⟩
  generalize hQ : Ret markTm.val w = Q at hR ⊢
  clear hQ
  go_enter Try.func79, Try.ntmps79
  go_wp2_with fail
  exact bodyPost_ret (by simp (maxDischargeDepth := 9) [results, Try.results79, go_sem]) rfl (hR.out _ (by go_grown))

/-- The cells of a row, one behind the other. -/
theorem flat_cells {w : World} {b o : Nat} {l : List Tm} (h : Tm.row w b o l) : ∀ j u, (l.flatMap Tm.cells)[j]? = some u → w.cell? ⟨b, o + j, none⟩ = some u := by
  intro j u hu
  have hj : j < l.length * 4 := by rw [← cells_len l]; exact (List.getElem?_eq_some_iff.1 hu).1
  have hi : j / 4 < l.length := by omega
  have hx : l[j / 4]? = some l[j / 4] := List.getElem?_eq_getElem hi
  have hr : j % 4 < 4 := Nat.mod_lt _ (by decide)
  have hj' : j / 4 * 4 + j % 4 = j := by omega
  have hc := cells_at hx (j % 4) hr
  rw [hj', hu] at hc
  obtain ⟨h0, h1, h2, h3⟩ := h (j / 4) _ hx
  generalize l[j / 4] = x at *
  rw [← hj']
  match hm : j % 4, hr with
  | 0, _ => rw [hm] at hc; cases hc; simpa using h0
  | 1, _ => rw [hm] at hc; cases hc; simpa [Nat.add_assoc] using h1
  | 2, _ => rw [hm] at hc; cases hc; simpa [Nat.add_assoc] using h2
  | 3, _ => rw [hm] at hc; cases hc; simpa [Nat.add_assoc] using h3

theorem cells_one (x : Tm) : ∀ u ∈ x.cells, u.oneCell' = true := by
  intro u hu
  simp only [Tm.cells, List.mem_cons, List.mem_nil_iff, or_false] at hu
  rcases hu with rfl | rfl | rfl | rfl <;> rfl
theorem flat_one (l : List Tm) : ∀ u ∈ l.flatMap Tm.cells, u.oneCell' = true := by
  intro u hu
  obtain ⟨x, _, hx⟩ := List.mem_flatMap.1 hu
  exact cells_one x u hx
theorem marks_one : ∀ u ∈ marks, u.oneCell' = true := by
  intro u hu
  simp only [marks, List.mem_append] at hu
  rcases hu with (h | h) | h <;> exact cells_one _ u h
theorem marks_len : marks.length = 12 := rfl

/-- append where there is room, into a row of the call's own. -/
theorem append_into {P : Program} (w : World) (t ty e : TypeId) (i : TypeInfo) (ht : P.underlying t = some (.slice e)) (hi : P.info? e = some i) (hsz : i.size = 4) (g n cap : Nat) (cur : Array Value) (hg : w.heap[g]? = some (.cells cur e)) (hc : cur.size = cap * 4)
    (a : Addr) (m c : Nat) (news : List Value) (hl : news.length = m * 4) (hnews : ∀ j u, news[j]? = some u → w.cell? (a.add j) = some u) (h1 : ∀ u ∈ news, u.oneCell' = true) (hroom : n + m ≤ cap) :
    ∃ w', (Builtin.append_ #[t, t] ty #[.slice (some ⟨g, 0, none⟩) n cap, .slice (some a) m c]).run P w = .ok (.slice (some ⟨g, 0, none⟩) (n + m) cap) w' ∧
      w'.heap[g]? = some (.cells (cur.toList.take (n * 4) ++ news ++ cur.toList.drop (n * 4 + news.length)).toArray e) ∧ Kp (fun b => b = g) w w' := by
  have hr := run_append_room (P := P) w t ty e i ht hi g n cap cur hg a m c news (by rw [hsz]; exact hl) hnews h1 hroom (by rw [hsz, hl, hc]; omega)
  rw [hsz] at hr
  exact ⟨_, hr, setRow_heap w g cur _ e _ hg, ⟨rfl, rfl, rfl, by simp, fun k _ hk => setRow_other w g k _ hk⟩⟩

/-- A list with three marks behind it is handed back. -/
def RetRoomy (l : List Tm) (w : World) (e : Ending) (w' : World) : Prop :=
  ∃ g, e = .returned (.slice (some ⟨g, 0, none⟩) l.length (l.length + 3)) ∧ w.heap.size ≤ g ∧ w'.heap[g]? = some (.cells (l.flatMap Tm.cells ++ marks).toArray 25) ∧ Gr w w'

set_option maxHeartbeats 2000000 in
set_option maxRecDepth 100000 in
theorem roomy_calls (p : Option Addr) (c : Nat) (l : List Tm) (w : World) (h : Tm.Sl w p c l) (hl : 0 < l.length) : Calls Try.prog 78 #[.slice p l.length c, markTm.val] w (RetRoomy l w) := by
  have hR : Hid (∀ g w', w.heap.size ≤ g → w'.heap[g]? = some (.cells (l.flatMap Tm.cells ++ marks).toArray 25) → Gr w w' → RetRoomy l w (.returned (.slice (some ⟨g, 0, none⟩) l.length (l.length + 3))) w') := fun g w' h1 h2 h3 => ⟨g, rfl, h1, h2, h3⟩
  generalize hQ : RetRoomy l w = Q at hR ⊢
  clear hQ
  obtain ⟨b, o, rfl⟩ := h.ptr hl
  have hrow : Tm.row w b o l := by
    obtain ⟨_, _, h3, _⟩ := h
    rcases h3 with rfl | ⟨b', o', hp, hr⟩
    · simp at hl
    · cases hp; exact hr
  have hbl := Tm.row_lt hrow (by rintro rfl; simp at hl)
  have hlen := h.2.1.1
  have HFl := Lib.hid (flat_cells hrow)
  have hcl := cells_len l
  have HOne := Lib.hid (flat_one l)
  clear h hrow
  obtain ⟨i0, hi, hz0, hz1, hz2⟩ := info_parts infoTermM
  have Hi := Lib.hid hi
  clear hi
  rw [markTm_val]
  go_enter Try.func78, Try.ntmps78
  try simp only [List.append_eq, List.cons_append, List.nil_append]
  go_upto_region 1 with fail
  have hN := Blk4.new w (.int .i64 9) (.int .i64 (-77)) (.string spoiltB) (.slice none 0 0)
  have gA : Gr w (w.alloc (.cells #[.int .i64 9, .int .i64 (-77), .string spoiltB, .slice none 0 0] 25)) := by go_grown
  generalize w.alloc (.cells #[.int .i64 9, .int .i64 (-77), .string spoiltB, .slice none 0 0] 25) = w1 at *
  have HM := Lib.hid hN
  clear hN
  have hs1 := gA.size
  have hMl := HM.out.parts.2.2
  go_upto_region 2 with (first
    | (refine wpList_make_own _ rfl _ _ 23 rfl (w.heap.size) 25 i0 _ 4 Try.underlying23 Hi.out hz0 hz1 .i64 .i64 _ (l.length + 3) rfl rfl (by simp) (by rw [hz2]; omega) (by simp only [maxLen]; omega) (by omega) ?_
       intro w2 hown hgrow
       have gB := grownBy_below hgrow (Nat.le_refl _) fun k hk => by cases hk)
    | fail)
  obtain ⟨cur, hg0, hcur⟩ : ∃ cur : Array Value, w2.heap[w1.heap.size]? = some (.cells cur 25) ∧ cur.size = (l.length + 3) * 4 := by
    rcases hown.2 with ⟨h0, _⟩ | ⟨g, cap, cur, h0, _, h1, _, _, h2, _⟩
    · cases h0
    · cases h0; exact ⟨cur, h1, h2⟩
  have gAB : Gr w w2 := gA.trans gB
  have hgl : w1.heap.size < w2.heap.size := (Array.getElem?_eq_some_iff.1 hg0).1
  have HM2 := Lib.hid (HM.out.gr gB)
  generalize hge : w1.heap.size = g at *
  obtain ⟨w3, hr3, hg3, hk3⟩ := append_into (P := Try.prog) w2 23 23 25 i0 Try.underlying23 Hi.out hz1 g 0 (l.length + 3) cur hg0 hcur ⟨b, o, none⟩ l.length c (l.flatMap Tm.cells) hcl
    (fun j u hu => by rw [Go.WideShapes.add_plain]; exact Gr.at gAB (HFl.out j u hu)) HOne.out (by omega)
  have Hr3 := Lib.hid hr3
  rw [Nat.zero_add] at Hr3
  have HM3 := Lib.hid (HM2.out.kp hk3 (by omega))
  clear hown hgrow hr3 HM HM2
  go_upto_region 3 with (first
    | (refine wpList_append_run w2 rfl _ _ _ _ rfl _ _ (by rfl) (by rfl) _ _ Hr3.out ?_)
    | fail)
  obtain ⟨⟨m0, m1, m2, m3⟩, _, _⟩ := HM3.out.parts
  have hs3 := hk3.size
  have hg4 : (w3.alloc (.cells marks.toArray 25)).heap[g]? = some (.cells (cur.toList.take (0 * 4) ++ l.flatMap Tm.cells ++ cur.toList.drop (0 * 4 + (l.flatMap Tm.cells).length)).toArray 25) := (heap_alloc_old w3 _ (by omega)).trans hg3
  have hmk : (w3.alloc (.cells marks.toArray 25)).heap[w3.heap.size]? = some (.cells marks.toArray 25) := heap_alloc_new w3 _
  obtain ⟨w5, hr5, hg5, hk5⟩ := append_into (P := Try.prog) (w3.alloc (.cells marks.toArray 25)) 23 23 25 i0 Try.underlying23 Hi.out hz1 g l.length (l.length + 3) _ hg4
    (by simp only [List.size_toArray, List.length_append, List.length_take, List.length_drop, hcl, Array.length_toList, hcur]; omega) ⟨w3.heap.size, 0, none⟩ 3 3 marks rfl
    (fun j u hu => by rw [Go.WideShapes.add_plain, Nat.zero_add, cell_of_row _ _ j _ _ _ hmk]; simpa using hu) marks_one (by omega)
  have Hr5 := Lib.hid hr5
  have hfin : Hid (w5.heap[g]? = some (.cells (l.flatMap Tm.cells ++ marks).toArray 25)) := by
    show _ = _
    rw [hg5]
    have e1 : (cur.toList.take (0 * 4) ++ l.flatMap Tm.cells ++ cur.toList.drop (0 * 4 + (l.flatMap Tm.cells).length)).take (l.length * 4) = l.flatMap Tm.cells := by
      rw [Nat.zero_mul, List.take_zero, List.nil_append, ← hcl, List.take_left']
      rfl
    have e2 : (cur.toList.take (0 * 4) ++ l.flatMap Tm.cells ++ cur.toList.drop (0 * 4 + (l.flatMap Tm.cells).length)).drop (l.length * 4 + marks.length) = [] := by
      apply List.drop_eq_nil_of_le
      simp only [List.length_append, List.length_take, List.length_drop, hcl, Array.length_toList, hcur, marks_len]
      omega
    rw [e1, e2, List.append_nil]
  have hgw : Gr w w5 := by
    have k1 : Gr w w3 := Below.trans gAB (hk3.below (B := w.heap.size) (fun x hx => by omega) gAB.size)
    have k2 : Gr w (w3.alloc (.cells marks.toArray 25)) := k1.trans (by go_grown)
    exact Below.trans k2 (hk5.below (B := w.heap.size) (fun x hx => by omega) k2.size)
  clear hg0 hcur hr5 hg5 hk5 hk3 hg3 hg4 hmk
  go_wp2_with (first
    | (refine wpList_append_run _ rfl _ _ _ _ rfl _ _ (by rfl) (by rfl) _ _ Hr5.out ?_)
    | fail)
  exact hR.out g _ (by omega) hfin.out hgw
end Go.Proofs.Ythncdmijledpnaa
