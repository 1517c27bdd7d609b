/-
  term.general where the two are not of one functor; what term.general answers.
-/
import Derived.Test.YthncdmijledpnaaTM12
import Derived.Test.YthncdmijledpnaaTM22
import Derived.Test.YthncdmijledpnaaTM04
namespace Go.Proofs.Ythncdmijledpnaa
open Go.RowKit Go.Maps Go.Lib

theorem gen_eq {a b : T} (h4 : ¬ T.alike a b = true) (ho : a.k ≠ 1 ∧ T.order a b = 0) (E : List (T × T)) : T.gen a b E = (a, E) := by
  obtain ⟨k, n, s, l⟩ := a
  rw [T.gen, if_neg h4]
  exact if_pos ho
theorem gen_var {a b : T} (h4 : ¬ T.alike a b = true) (ho : ¬ (a.k ≠ 1 ∧ T.order a b = 0)) (E : List (T × T)) : T.gen a b E = (varT (seekP E a b), if seekP E a b < E.length then E else E ++ [(a, b)]) := by
  obtain ⟨k, n, s, l⟩ := a
  rw [T.gen, if_neg h4]
  exact if_neg ho
theorem pair_new (w : World) (y : Pr) (W : World) (h : w.alloc (.cells #[.int .i64 y.a.k, .int .i64 y.a.n, .string y.a.s, .slice y.a.p y.a.l.length y.a.c, .int .i64 y.b.k, .int .i64 y.b.n, .string y.b.s, .slice y.b.p y.b.l.length y.b.c] 33) = W) :
    (W.cell? ⟨w.heap.size, 0, none⟩ = some (.int .i64 y.a.k) ∧ W.cell? ⟨w.heap.size, 1, none⟩ = some (.int .i64 y.a.n) ∧ W.cell? ⟨w.heap.size, 2, none⟩ = some (.string y.a.s) ∧ W.cell? ⟨w.heap.size, 3, none⟩ = some (.slice y.a.p y.a.l.length y.a.c)) ∧
    (W.cell? ⟨w.heap.size, 4, none⟩ = some (.int .i64 y.b.k) ∧ W.cell? ⟨w.heap.size, 5, none⟩ = some (.int .i64 y.b.n) ∧ W.cell? ⟨w.heap.size, 6, none⟩ = some (.string y.b.s) ∧ W.cell? ⟨w.heap.size, 7, none⟩ = some (.slice y.b.p y.b.l.length y.b.c)) ∧ Gr w W := by
  subst h
  have h1 := BlkT.new w 33 #[.int .i64 y.a.k, .int .i64 y.a.n, .string y.a.s, .slice y.a.p y.a.l.length y.a.c, .int .i64 y.b.k, .int .i64 y.b.n, .string y.b.s, .slice y.b.p y.b.l.length y.b.c]
  exact ⟨⟨h1.cell 0 rfl, h1.cell 1 rfl, h1.cell 2 rfl, h1.cell 3 rfl⟩, ⟨h1.cell 4 rfl, h1.cell 5 rfl, h1.cell 6 rfl, h1.cell 7 rfl⟩, by go_grown⟩
theorem seek_at {l : List Pr} {a b : T} {j : Nat} (hj : j < l.length) (hno : ∀ (i : Nat) (h : i < l.length), i < j → T.twin a b (l[i].a.erase, l[i].b.erase) = false) (hy : T.twin a b (l[j].a.erase, l[j].b.erase) = true) : seekP (seePrs l) a b = j := by
  have hl : (seePrs l).length = l.length := List.length_map ..
  rw [seekP, List.findIdx_eq (by omega)]
  refine ⟨by simpa [seePrs] using hy, fun i hi => ?_⟩
  have := hno i (by omega) hi
  simpa [seePrs] using this
theorem seek_none {l : List Pr} {a b : T} (hno : ∀ (i : Nat) (h : i < l.length), i < l.length → T.twin a b (l[i].a.erase, l[i].b.erase) = false) : seekP (seePrs l) a b = l.length := by
  have hl : (seePrs l).length = l.length := List.length_map ..
  rw [seekP, ← hl, List.findIdx_eq_length]
  intro x hx
  obtain ⟨y, hy, rfl⟩ := List.mem_map.1 hx
  obtain ⟨i, hi, rfl⟩ := List.getElem_of_mem hy
  exact hno i hi hi
/-- One more pair. -/
theorem PSt.push {S : Nat → Prop} {P : Nat} {v v' : Value} {l : List Pr} {w w6 : World} {a b : Tm} (h : PSt S P v l w) (ia : a.In w) (ib : b.In w) (oa : a.On S) (ob : b.On S) (r : BuiltPrs w6 (P + 1) v' (l ++ [⟨a, b⟩])) (g : w.grownBy w6 v.ownBlock) (ho : v'.ownBlock = v.ownBlock ∨ v'.ownBlock = some w.heap.size) :
    PSt S P v' (l ++ [⟨a, b⟩]) (w6.setCell ⟨P, 0, none⟩ v') ∧ Kp (PMut P v) w (w6.setCell ⟨P, 0, none⟩ v') ∧ BlkT w6 P 22 #[v] ∧ ∀ x, v'.ownBlock = some x → v.ownBlock = some x ∨ w.heap.size ≤ x := by
  have k1 : Kp (fun b => v.ownBlock = some b) w w6 := ⟨g.os, g.tape, g.output, g.size, fun i hi hc => g.block i hi (Ne.symm hc)⟩
  have k2 : Kp (· = P) w6 (w6.setCell ⟨P, 0, none⟩ v') := Kp.set rfl
  have kk : Kp (PMut P v) w (w6.setCell ⟨P, 0, none⟩ v') := (k1.mono fun b hb => .inr hb).trans (k2.mono fun b hb => .inl hb)
  have hPv : ¬ v.ownBlock = some P := fun e => by have := h.own e; omega
  have hb6 : BlkT w6 P 22 #[v] := BlkT.kp (show BlkT w P 22 #[v] from h.cell) k1 hPv
  have hS : ∀ b, S b → ¬ PMut P v b := fun b hb hc => by
    have h1 := h.low b hb
    rcases hc with hc | hc
    · omega
    · have := h.own hc; omega
  refine ⟨⟨hb6.set 0 v', ownsRow_kpG r k2 (fun b hb e => by have := r.ge hb; omega), fun y hy => ?_, h.low⟩, kk, hb6, fun x hx => ?_⟩
  · rcases List.mem_append.1 hy with hy | hy
    · obtain ⟨h1, h2, h3, h4⟩ := h.terms y hy
      exact ⟨kp_in h1 h3 hS kk, kp_in h2 h4 hS kk, h3, h4⟩
    · rw [List.mem_singleton] at hy
      subst hy
      exact ⟨kp_in ia oa hS kk, kp_in ib ob hS kk, oa, ob⟩
  · rcases ho with ho | ho
    · exact .inl (ho ▸ hx)
    · rw [ho] at hx
      cases hx
      exact .inr (Nat.le_refl _)
theorem BuiltPrs.form {w : World} {B : Nat} {v : Value} {l : List Pr} (h : BuiltPrs w B v l) : ∃ p c, v = .slice p l.length c := by
  rcases h.2 with ⟨rfl, h0⟩ | ⟨g, cap, cur, rfl, _⟩
  · exact ⟨none, 0, by rw [h0]⟩
  · exact ⟨_, _, rfl⟩

/-- The pair has been appended; the store of the row has been turned. -/
def pushX (P : Nat) (v : Value) (l : List Pr) (x : Pr) (w0 : World) : VP := fun v' w => ∃ w5 w6, Gr w0 w5 ∧ BuiltPrs w6 (P + 1) v' (l ++ [x]) ∧ w5.grownBy w6 v.ownBlock ∧ (v'.ownBlock = v.ownBlock ∨ v'.ownBlock = some w5.heap.size) ∧ Gr w6 w
def pushY (P : Nat) (v : Value) (l : List Pr) (x : Pr) (w0 : World) (w : World) : Prop := ∃ v' w5 w6 w7, Gr w0 w5 ∧ BuiltPrs w6 (P + 1) v' (l ++ [x]) ∧ w5.grownBy w6 v.ownBlock ∧ (v'.ownBlock = v.ownBlock ∨ v'.ownBlock = some w5.heap.size) ∧ Gr w6 w7 ∧ Gr (w7.setCell ⟨P, 0, none⟩ v') w
theorem pushX_gr {P : Nat} {v : Value} {l : List Pr} {x : Pr} {w0 : World} : ∀ u w w', pushX P v l x w0 u w → Gr w w' → pushX P v l x w0 u w' := fun _ _ _ ⟨w5, w6, h1, h2, h3, h4, h5⟩ hg => ⟨w5, w6, h1, h2, h3, h4, h5.trans hg⟩
theorem pushY_gr {P : Nat} {v : Value} {l : List Pr} {x : Pr} {w0 : World} : ∀ w w', pushY P v l x w0 w → Gr w w' → pushY P v l x w0 w' := fun _ _ ⟨v', w5, w6, w7, h1, h2, h3, h4, h5, h6⟩ hg => ⟨v', w5, w6, w7, h1, h2, h3, h4, h5, h6.trans hg⟩
def anyV : VP := fun _ _ => True
theorem anyV_stable {R : World → World → Prop} : ∀ v w w', anyV v w → R w w' → anyV v w' := fun _ _ _ _ _ => trivial
theorem grownBy_gr {w w6 w7 : World} {b : Option Nat} (h : w.grownBy w6 b) (g : Gr w6 w7) : w.grownBy w7 b := ⟨g.os.trans h.os, g.tape.trans h.tape, g.output.trans h.output, Nat.le_trans h.size g.size, fun i hi hn => (g.block i (Nat.lt_of_lt_of_le hi h.size)).trans (h.block i hi hn)⟩
theorem prNew_kp {C : Nat → Prop} {B0 : Nat} {x : Pr} (hC : ∀ b, C b → b < B0) : ∀ v w w', prNew B0 x v w → Kp C w w' → prNew B0 x v w' := fun _ _ _ ⟨B, h1, h2, h3⟩ hg => ⟨B, h1, h2, h3.kp hg fun h => by have := hC B h; omega⟩
theorem wp_append_pr {P : Program} {w : World} {o : Oper} {a : Act} {Q : Exit → Act → World → Prop} {K : Act → World → Prop} (s y : Operand)
    (ho : o.op = .call { callee := .builtin .append, args := #[s, y], argTypes := #[22, 22] }) (hP : P = Try.prog)
    (B : Nat) (v : Value) (l : List Pr) (x : Pr) (b c : Nat) (hs : a.eval s = v) (hy : a.eval y = .slice (some ⟨b, 0, none⟩) 1 c) (h : BuiltPrs w B v l) (hB : B ≤ w.heap.size) (hl : (l.length + 1) * 112 ≤ 140737488351232)
    (hX : BlkT w b 33 (prCells x))
    (hK : ∀ v' w', BuiltPrs w' B v' (l ++ [x]) → w.grownBy w' v.ownBlock → (v'.ownBlock = v.ownBlock ∨ v'.ownBlock = some w.heap.size) → K (a.put o.dst v') w') : o.wp P a w K Q := by
  subst hP
  obtain ⟨i0, hi, hz0, hz1, hz2⟩ := info_parts infoPr
  obtain ⟨v', w', hr, h2, h3, h4⟩ := run_append_own_fresh (P := Try.prog) w B 22 o.type 33 i0 _ 8 112 Try.underlying22 hi hz0 hz1 hz2 rfl (by decide) v l.length (l.flatMap Pr.cells) h
    ⟨b, 0, none⟩ 1 c x.cells rfl (by
      intro j u hu
      rw [Go.WideShapes.add_plain, Nat.zero_add]
      match j, hu with
      | 0, hu => cases hu; exact hX.cell 0 rfl
      | 1, hu => cases hu; exact hX.cell 1 rfl
      | 2, hu => cases hu; exact hX.cell 2 rfl
      | 3, hu => cases hu; exact hX.cell 3 rfl
      | 4, hu => cases hu; exact hX.cell 4 rfl
      | 5, hu => cases hu; exact hX.cell 5 rfl
      | 6, hu => cases hu; exact hX.cell 6 rfl
      | 7, hu => cases hu; exact hX.cell 7 rfl
      | j + 8, hu => simp [Pr.cells, Tm.cells] at hu) (by
      intro u hu
      simp only [Pr.cells, Tm.cells, List.cons_append, List.nil_append, List.mem_cons, List.mem_nil_iff, or_false] at hu
      rcases hu with rfl | rfl | rfl | rfl | rfl | rfl | rfl | rfl <;> rfl) (by simp only [maxLen]; omega) (by omega) hB (by omega)
  refine wp_append_run w s y _ _ ho _ _ hs hy v' w' hr (hK v' w' ?_ h3 h4)
  show w'.ownsRow B _ 8 v' _ _
  rw [List.length_append, List.flatMap_append]
  simpa using h2

set_option maxHeartbeats 4000000 in
set_option maxRecDepth 100000 in
theorem gen_leafs (a b : Tm) (h4 : ¬ T.alike a.erase b.erase = true) (S : Nat → Prop) (P : Nat) (v : Value) (l : List Pr) (w : World) (ia : a.In w) (ib : b.In w) (fa : a.erase.formed = true) (oa : a.On S) (ob : b.On S) (st : PSt S P v l w) (sz : l.length + T.sz a.erase ≤ 1048576) :
    Calls Try.prog 89 #[a.val, b.val, .pointer (some ⟨P, 0, none⟩)] w (RetGen S P v l a.erase b.erase w) := by
  have Ia := Lib.hid ia
  have Ib := Lib.hid ib
  have Fa := Lib.hid fa
  have hll : l.length ≤ 1048576 := by omega
  obtain ⟨p, c, rfl, hprs⟩ := st.row.prs (by omega) (fun y hy => ⟨(st.terms y hy).1, (st.terms y hy).2.1⟩)
  have HP := Lib.hid hprs
  have St := Lib.hid st
  have hPl := st.lt
  have Hpush := Lib.hid (fun (v' : Value) (w5 w6 : World) (g : Gr w w5) => PSt.push (a := a) (b := b) (v' := v') (w6 := w6) (st.gr g) (Tm.In_below g ia) (Tm.In_below g ib) oa ob)
  have hvl : Hid (∀ b, (Value.slice p l.length c).ownBlock = some b → P < b ∧ b < w.heap.size) := fun b hb => ⟨st.own hb, (st.row.lt b hb).2⟩
  have hord := Lib.hid (fun (w' : World) (g : Gr w w') => show Calls Try.prog 95 #[.agg #[.int .i64 a.k, .int .i64 a.n, .string a.s, .slice a.p a.l.length a.c], .agg #[.int .i64 b.k, .int .i64 b.n, .string b.s, .slice b.p b.l.length b.c]] w' (Ret (.int .i64 (T.order a.erase b.erase)) w') from order_calls (t := a) (u := b) (Tm.In_below g ia) (Tm.In_below g ib))
  have hcopy := Lib.hid (fun (w' : World) (g : Gr w w') => show Calls Try.prog 82 #[.agg #[.int .i64 a.k, .int .i64 a.n, .string a.s, .slice a.p a.l.length a.c]] w' (RetTmT (w'.heap.size ≤ ·) a.erase w') from copyT_calls (t := a) (Tm.In_below g ia) fa)
  have hQ0 : Hid (∀ (g : Tm) v' l' w', g.In w' → g.erase = (T.gen a.erase b.erase (seePrs l)).1 → seePrs l' = (T.gen a.erase b.erase (seePrs l)).2 → PSt S P v' l' w' → Kp (PMut P (Value.slice p l.length c)) w w' →
      g.On (fun x => w.heap.size ≤ x ∧ v'.ownBlock ≠ some x) → (∀ x, v'.ownBlock = some x → (Value.slice p l.length c).ownBlock = some x ∨ w.heap.size ≤ x) → g.Mine w' → RetGen S P (Value.slice p l.length c) l a.erase b.erase w (.returned g.val) w') := fun g v' l' w' h1 h2 h3 h4 h5 h6 h7 h8 =>
    ⟨g, v', l', rfl, h1, h2, h3, h4, h5, h6, h7, h8⟩
  generalize RetGen S P (Value.slice p l.length c) l a.erase b.erase w = Q at hQ0 ⊢
  have HQ := hQ0
  have Heq := Lib.hid (gen_eq h4 (E := seePrs l))
  have Hvar := Lib.hid (gen_var h4 (E := seePrs l))
  have halk : Hid ((a.k = 4 → b.k = 4 → a.s.toList = b.s.toList → ¬ (a.l.length : Int) = b.l.length)) := fun h1 h2 h3 h5 => h4 (by
    obtain ⟨ak, an, sa, ap, ac, al⟩ := a
    obtain ⟨bk, bn, sb, bp, bc, bl⟩ := b
    rw [Tm.erase, Tm.erase]
    simp only [Tm.k, Tm.s, Tm.l] at h1 h2 h3 h5
    simp [T.alike, T.k, T.s, T.l, Tm.eraseL_length, h1, h2, h3]
    omega)
  have HQv := Lib.hid (fun (d : Int) (h : In64 d) (v' : Value) (l' : List Pr) (w' : World) (h2 : varT d = (T.gen a.erase b.erase (seePrs l)).1) (h3 : seePrs l' = (T.gen a.erase b.erase (seePrs l)).2) (h4 : PSt S P v' l' w') (h5 : Kp (PMut P (Value.slice p l.length c)) w w') (h7 : ∀ x, v'.ownBlock = some x → (Value.slice p l.length c).ownBlock = some x ∨ w.heap.size ≤ x) =>
    show Q (.returned (.agg #[.int .i64 1, .int .i64 d, .string ⟨#[]⟩, .slice none 0 0])) w' from hQ0.out (varTm d) v' l' w' (varTm_in h w') (by rw [varTm_erase]; exact h2) h3 h4 h5 (varTm_on d) h7 (by rw [varTm, Tm.Mine, Tm.MineL]; exact ⟨.inl ⟨rfl, rfl, rfl⟩, trivial⟩))
  clear ia ib fa oa ob st sz hprs hQ0 h4
  rw [show a.val = .agg #[.int .i64 a.k, .int .i64 a.n, .string a.s, .slice a.p a.l.length a.c] from rfl, show b.val = .agg #[.int .i64 b.k, .int .i64 b.n, .string b.s, .slice b.p b.l.length b.c] from rfl]
  go_enter Try.func89, Try.ntmps89
  try simp only [List.append_eq, List.cons_append, List.nil_append]
  go_upto_region 1 with fail
  obtain ⟨h3, h4, h5, gA⟩ := three_blocks w (.int .i64 a.k) (.int .i64 a.n) (.string a.s) (.slice a.p a.l.length a.c) (.int .i64 b.k) (.int .i64 b.n) (.string b.s) (.slice b.p b.l.length b.c) (.int .i64 0) (.int .i64 0) (.string ⟨#[]⟩) (.slice none 0 0)
  have sA : (((w.alloc (.cells #[.int .i64 a.k, .int .i64 a.n, .string a.s, .slice a.p a.l.length a.c] 25)).alloc (.cells #[.int .i64 b.k, .int .i64 b.n, .string b.s, .slice b.p b.l.length b.c] 25)).alloc (.cells #[.int .i64 0, .int .i64 0, .string ⟨#[]⟩, .slice none 0 0] 25)).heap.size = w.heap.size + 3 := by simp
  generalize (((w.alloc (.cells #[.int .i64 a.k, .int .i64 a.n, .string a.s, .slice a.p a.l.length a.c] 25)).alloc (.cells #[.int .i64 b.k, .int .i64 b.n, .string b.s, .slice b.p b.l.length b.c] 25)).alloc (.cells #[.int .i64 0, .int .i64 0, .string ⟨#[]⟩, .slice none 0 0] 25)) = wA at *
  obtain ⟨⟨x0, x1, x2, x3⟩, _, _⟩ := h3.out.parts
  obtain ⟨⟨y0, y1, y2, y3⟩, _, _⟩ := h4.out.parts
  go_cut [11] from 12 to 35 (fun v wx => v = .bool false ∧ wA = wx)
  case first =>
    by_cases g1 : a.k = 4
    · have g1' : (a.k == 4) = true := by simp [g1]
      by_cases g2 : b.k = 4
      · have g2' : (b.k == 4) = true := by simp [g2]
        by_cases g3 : a.s.toList = b.s.toList
        · have g3' : (a.s.toList == b.s.toList) = true := by simp [g3]
          have g4' : ((a.l.length : Int) == b.l.length) = false := by
            have := halk.out g1 g2 g3
            simpa using this
          clear g1 g2 g3
          go_wp2_with fail
          go_meet
          exact ⟨rfl, rfl⟩
        · have g3' : (a.s.toList == b.s.toList) = false := by simp [g3]
          clear g1 g2 g3
          go_wp2_with fail
          go_meet
          exact ⟨rfl, rfl⟩
      · have g2' : (b.k == 4) = false := by simp [g2]
        clear g1 g2
        go_wp2_with fail
        go_meet
        exact ⟨rfl, rfl⟩
    · have g1' : (a.k == 4) = false := by simp [g1]
      clear g1
      go_wp2_with fail
      go_meet
      exact ⟨rfl, rfl⟩
  obtain ⟨rfl, rfl⟩ := hcut
  go_upto_region 9 with fail
  go_cut [62] from 63 to 71 (fun v wx => ∃ d : Bool, v = .bool d ∧ (d = true ↔ a.erase.k ≠ 1 ∧ T.order a.erase b.erase = 0) ∧ Gr wA wx)
  case first =>
    by_cases g1 : a.k = 1
    · have g1' : (a.k != 1) = false := by simp [g1]
      have G1 := Lib.hid g1
      clear g1
      go_wp2_with fail
      go_meet
      exact ⟨false, rfl, ⟨(fun h => nomatch h), fun h => absurd G1.out (by rw [Tm.erase_k] at h; exact h.1)⟩, Gr.rfl' _⟩
    · have g1' : (a.k != 1) = true := by simp [g1]
      have G1 := Lib.hid g1
      have Ho := Lib.hid (hord.out wA gA)
      clear g1
      go_wp2_with fail
      refine Ho.out.mono ?_
      rintro e w5 ⟨rfl, g5⟩
      replace g5 : Gr wA w5 := g5
      clear x0 x1 x2 x3 y0 y1 y2 y3
      go_wp2_with fail
      go_meet
      exact ⟨_, rfl, by rw [Tm.erase_k]; simp [G1.out], g5⟩
  obtain ⟨d, rfl, hd, g9⟩ := hcut
  rename World => wB
  clear x0 x1 x2 x3 y0 y1 y2 y3
  obtain ⟨⟨x0, x1, x2, x3⟩, _, _⟩ := (h3.out.gr g9).parts
  obtain ⟨⟨y0, y1, y2, y3⟩, _, _⟩ := (h4.out.gr g9).parts
  have gw : Gr w wB := gA.trans g9
  cases d with
  | true =>
    have Hge := Lib.hid (Heq.out (hd.1 rfl))
    have Hc := Lib.hid (hcopy.out wB gw)
    clear hd hcopy hord Hvar HP
    go_wp2_with fail
    refine Hc.out.mono ?_
    rintro e w5 ⟨g, gin, ge, rfl, g5, gon, gwh, _⟩
    have gw5 : Gr w w5 := gw.trans g5
    have hs5 : wA.heap.size ≤ w5.heap.size := Nat.le_trans g9.size g5.size
    have hsB : w.heap.size + 3 ≤ wB.heap.size := by have := g9.size; omega
    rw [show g.val = .agg #[.int .i64 g.k, .int .i64 g.n, .string g.s, .slice g.p g.l.length g.c] from rfl]
    obtain ⟨⟨r0, r1, r2, r3⟩, ⟨z0, z1, z2, z3⟩, _⟩ := (h5.out.gr (g9.trans g5)).parts
    have kk := Kp.sets (C := (· = w.heap.size + 2)) (w := w5) (b := w.heap.size + 2) rfl (.int .i64 g.k) (.int .i64 g.n) (.string g.s) (.slice g.p g.l.length g.c)
    have Hb := Lib.hid (HQ.out g _ l _ (kp_in gin gon (fun b hb e => by have hb' : wB.heap.size ≤ b := hb; omega) kk) (by rw [ge, Hge.out]) (by rw [Hge.out]) ((St.out.gr gw5).kp kk (by omega) (fun b hb e => by have := hvl.out b hb; omega) (fun b hb e => by have := St.out.low b hb; omega))
      (Kp.weaken (C := (· = w.heap.size + 2)) (fun b hb e => by omega) ((Kp.of_gr gw5).trans kk)) (gon.mono fun b hb => ⟨by have hb' : wB.heap.size ≤ b := hb; omega, fun e => by have := hvl.out b e; have hb' : wB.heap.size ≤ b := hb; omega⟩) (fun x hx => .inl hx) (mine_kp gwh.mine gin gon (fun b hb e => by have hb' : wB.heap.size ≤ b := hb; omega) kk))
    clear x0 x1 x2 x3 y0 y1 y2 y3 kk gwh gin gon ge
    go_wp2_with fail
    exact bodyPost_ret (v := g.val) (by simp (maxDischargeDepth := 9) [results, Try.results89, go_sem, Tm.val, r0, r1, r2, r3]) rfl Hb.out
  | false =>
    have Hgv := Lib.hid (Hvar.out (fun h => nomatch hd.2 h))
    have hpc := cell_of_row wB P 0 _ _ _ ((St.out.gr gw).cell)
    replace hpc : wB.cell? ⟨P, 0, none⟩ = some (.slice p l.length c) := hpc
    clear hd hcopy Hvar Heq
    go_wp2_with fail
    clear x0 x1 x2 x3 y0 y1 y2 y3 hpc
    go_loopg [78] l.length (fun m i wr => ∃ j : Nat, j ≤ l.length ∧ m = l.length - j ∧ i = .int .i64 j ∧ Hid (∀ (i : Nat) (h : i < l.length), i < j → T.twin a.erase b.erase (l[i].a.erase, l[i].b.erase) = false) ∧ Gr wB wr)
    case atStart => exact ⟨0, Nat.zero_le _, rfl, rfl, (fun i h hi => absurd hi (Nat.not_lt_zero i)), Gr.rfl' _⟩
    case round =>
      obtain ⟨j, hj, rfl, rfl, hno, gr⟩ := hrel
      have gwr : Gr w wr := gw.trans gr
      have gAr : Gr wA wr := g9.trans gr
      have hsr : w.heap.size + 3 ≤ wr.heap.size := by have := gAr.size; omega
      by_cases hlt : j < l.length
      · obtain ⟨b1, o1, rfl⟩ := HP.out.ptr (by omega)
        obtain ⟨⟨⟨c0, c1, c2, c3⟩, ⟨d0, d1, d2, d3⟩⟩, ⟨hia, hib⟩, hbl⟩ := (HP.out.mono gwr).elem j hlt
        have Hnext := Lib.hid (fun (h : T.twin a.erase b.erase (l[j].a.erase, l[j].b.erase) = false) (i : Nat) (hi : i < l.length) (hij : i < j + 1) => show T.twin a.erase b.erase (l[i].a.erase, l[i].b.erase) = false from by
          by_cases hij' : i < j
          · exact hno.out i hi hij'
          · obtain rfl : i = j := by omega
            exact h)
        have Hat := Lib.hid (fun (h : T.twin a.erase b.erase (l[j].a.erase, l[j].b.erase) = true) => seek_at (l := l) (a := a.erase) (b := b.erase) hlt hno.out h)
        have Hia := Lib.hid hia
        have Hib := Lib.hid hib
        clear hia hib
        generalize l[j] = y at *
        go_upto_region 14 with fail
        obtain ⟨⟨u0, u1, u2, u3⟩, ⟨v0, v1, v2, v3⟩, gP⟩ := pair_new wr y _ rfl
        generalize (wr.alloc (.cells #[.int .i64 y.a.k, .int .i64 y.a.n, .string y.a.s, .slice y.a.p y.a.l.length y.a.c, .int .i64 y.b.k, .int .i64 y.b.n, .string y.b.s, .slice y.b.p y.b.l.length y.b.c] 33)) = wP at *
        clear c0 c1 c2 c3 d0 d1 d2 d3
        have gAP : Gr wA wP := gAr.trans gP
        obtain ⟨⟨x0, x1, x2, x3⟩, _, _⟩ := (h3.out.gr gAP).parts
        obtain ⟨⟨y0, y1, y2, y3⟩, _, _⟩ := (h4.out.gr gAP).parts
        have Ho1 := Lib.hid (show Calls Try.prog 95 #[.agg #[.int .i64 y.a.k, .int .i64 y.a.n, .string y.a.s, .slice y.a.p y.a.l.length y.a.c], .agg #[.int .i64 a.k, .int .i64 a.n, .string a.s, .slice a.p a.l.length a.c]] wP (Ret (.int .i64 (T.order y.a.erase a.erase)) wP) from order_calls (t := y.a) (u := a) (Tm.In_below gP Hia.out) (Tm.In_below (gwr.trans gP) Ia.out))
        have Ho2 := Lib.hid (fun (w' : World) (g : Gr wP w') => show Calls Try.prog 95 #[.agg #[.int .i64 y.b.k, .int .i64 y.b.n, .string y.b.s, .slice y.b.p y.b.l.length y.b.c], .agg #[.int .i64 b.k, .int .i64 b.n, .string b.s, .slice b.p b.l.length b.c]] w' (Ret (.int .i64 (T.order y.b.erase b.erase)) w') from order_calls (t := y.b) (u := b) (Tm.In_below (gP.trans g) Hib.out) (Tm.In_below ((gwr.trans gP).trans g) Ib.out))
        go_cut [94] from 83 to 94 (fun v wx => v = .bool (T.twin a.erase b.erase (y.a.erase, y.b.erase)) ∧ Gr wP wx)
        case first =>
          go_wp2_with fail
          refine Ho1.out.mono ?_
          rintro e w5 ⟨rfl, g5⟩
          replace g5 : Gr wP w5 := g5
          by_cases hz : T.order y.a.erase a.erase = 0
          · have hz1 : (T.order y.a.erase a.erase == 0) = true := by simp [hz]
            have HO2 := Lib.hid (Ho2.out w5 g5)
            have q0 := Gr.at g5 v0
            have q1 := Gr.at g5 v1
            have q2 := Gr.at g5 v2
            have q3 := Gr.at g5 v3
            have t0 := Gr.at g5 y0
            have t1 := Gr.at g5 y1
            have t2 := Gr.at g5 y2
            have t3 := Gr.at g5 y3
            have Hz := Lib.hid hz
            clear hz x0 x1 x2 x3 y0 y1 y2 y3 u0 u1 u2 u3 v0 v1 v2 v3
            go_wp2_with fail
            refine HO2.out.mono ?_
            rintro e w6 ⟨rfl, g6⟩
            replace g6 : Gr w5 w6 := g6
            clear q0 q1 q2 q3 t0 t1 t2 t3
            go_wp2_with fail
            go_meet
            exact ⟨by simp [T.twin, Hz.out]; rfl, g5.trans g6⟩
          · have hz1 : (T.order y.a.erase a.erase == 0) = false := by simp [hz]
            have Hz := Lib.hid hz
            clear hz x0 x1 x2 x3 y0 y1 y2 y3 u0 u1 u2 u3 v0 v1 v2 v3
            go_wp2_with fail
            go_meet
            exact ⟨by simp [T.twin, Hz.out], g5⟩
        obtain ⟨rfl, g10⟩ := hcut
        rename World => wD
        clear x0 x1 x2 x3 y0 y1 y2 y3 u0 u1 u2 u3 v0 v1 v2 v3
        have grD : Gr wr wD := gP.trans g10
        cases htw : T.twin a.erase b.erase (y.a.erase, y.b.erase) with
        | true =>
          have Hse := Lib.hid (Hat.out htw)
          have hV := Lib.hid (vV_calls (j : Int) wD)
          clear htw
          go_wp2_with fail
          refine hV.out.mono ?_
          rintro e w7 ⟨rfl, g7⟩
          replace g7 : Gr wD w7 := g7
          have g17 : Gr w w7 := (gwr.trans grD).trans g7
          obtain ⟨⟨r0, r1, r2, r3⟩, ⟨z0, z1, z2, z3⟩, _⟩ := (h5.out.gr ((gAr.trans grD).trans g7)).parts
          have kk := Kp.sets (C := (· = w.heap.size + 2)) (w := w7) (b := w.heap.size + 2) rfl (.int .i64 1) (.int .i64 j) (.string ⟨#[]⟩) (.slice none 0 0)
          have hlen : (seePrs l).length = l.length := List.length_map ..
          have Hb := Lib.hid (HQv.out j ⟨by omega, by omega⟩ (.slice (some ⟨b1, o1, none⟩) l.length c) l _ (by rw [Hgv.out, Hse.out]) (by rw [Hgv.out, Hse.out, hlen, if_pos hlt]) ((St.out.gr g17).kp kk (by omega) (fun b hb e => by have := hvl.out b hb; omega) (fun b hb e => by have := St.out.low b hb; omega))
            (Kp.weaken (C := (· = w.heap.size + 2)) (fun b hb e => by omega) ((Kp.of_gr g17).trans kk)) (fun x hx => .inl hx))
          clear kk hlen
          go_wp2_with fail
          exact bodyPost_ret (v := .agg #[.int .i64 1, .int .i64 j, .string ⟨#[]⟩, .slice none 0 0]) (by simp (maxDischargeDepth := 9) [results, Try.results89, go_sem, r0, r1, r2, r3]) rfl Hb.out
        | false =>
          have Hne := Lib.hid (Hnext.out htw)
          clear htw
          go_wp2_with fail
          go_roundg (l.length - (j + 1))
          case measure => omega
          case rel => exact ⟨j + 1, by omega, rfl, by go_num, Hne, gr.trans grD⟩
      · obtain rfl : j = l.length := by omega
        have Hse := Lib.hid (seek_none hno.out)
        obtain ⟨⟨x0, x1, x2, x3⟩, _, _⟩ := (h3.out.gr gAr).parts
        obtain ⟨⟨y0, y1, y2, y3⟩, _, _⟩ := (h4.out.gr gAr).parts
        have hpc := cell_of_row wr P 0 _ _ _ ((St.out.gr gwr).cell)
        replace hpc : wr.cell? ⟨P, 0, none⟩ = some (.slice p l.length c) := hpc
        have hPM : Hid (∀ b, PMut P (.slice p l.length c) b → b < wr.heap.size) := fun b hb => by
          rcases hb with hb | hb
          · omega
          · have := hvl.out b hb; omega
        have nW : ∀ b, w.heap.size ≤ b → ¬ PMut P (.slice p l.length c) b := fun b h1 h => by
          rcases h with h | h
          · omega
          · have := hvl.out b h; omega
        have n3 := nW w.heap.size (Nat.le_refl _)
        have n4 := nW (w.heap.size + 1) (by omega)
        go_upto_region 17 with fail
        refine wp_region_relyA 11 [fx (.pointer (some ⟨P, 0, none⟩)), fx (.pointer (some ⟨P, 0, none⟩)), fx (.pointer (some ⟨P, 0, none⟩)), fx (.slice p l.length c), fx (.agg #[.int .i64 a.k, .int .i64 a.n, .string a.s, .slice a.p a.l.length a.c]), fx (.agg #[.int .i64 b.k, .int .i64 b.n, .string b.s, .slice b.p b.l.length b.c]), fx (.agg #[.int .i64 a.k, .int .i64 a.n, .string a.s, .slice a.p a.l.length a.c, .int .i64 b.k, .int .i64 b.n, .string b.s, .slice b.p b.l.length b.c]), prNew wr.heap.size ⟨a, b⟩, anyV, fx (.pointer (some ⟨P, 0, none⟩)), fx undef]
          (Kp (PMut P (.slice p l.length c))) (PushJ wr 114 3 8 10 106 (pushX P (.slice p l.length c) l ⟨a, b⟩ wr) (pushY P (.slice p l.length c) l ⟨a, b⟩ wr)) (by kernel_rfl) (by kernel_rfl) (by decide) (by kernel_rfl) (fun _ _ h => Kp.of_gr h) (fun _ _ _ h k => Kp.trans h k) (fun w hw => PushJ.start _ hw rfl) (by repeat (first | exact StableR.nil | refine StableR.fix ?_ | refine StableR.cons anyV_stable ?_ | refine StableR.cons (prNew_kp fun b hb => hPM.out b hb) ?_)) ?_ ?_
        · refine ⟨stepA_plain (fun _ _ h => Kp.of_gr h) (fun listed a w w' v h hg => PushJ.other pushX_gr pushY_gr rfl listed a w w' v h hg) ?_, stepA_plain (fun _ _ h => Kp.of_gr h) (fun listed a w w' v h hg => PushJ.other pushX_gr pushY_gr rfl listed a w w' v h hg) ?_, stepA_plain (fun _ _ h => Kp.of_gr h) (fun listed a w w' v h hg => PushJ.other pushX_gr pushY_gr rfl listed a w w' v h hg) ?_, ?a3, stepA_plain (fun _ _ h => Kp.of_gr h) (fun listed a w w' v h hg => PushJ.other pushX_gr pushY_gr rfl listed a w w' v h hg) ?_, stepA_plain (fun _ _ h => Kp.of_gr h) (fun listed a w w' v h hg => PushJ.other pushX_gr pushY_gr rfl listed a w w' v h hg) ?_, stepA_plain (fun _ _ h => Kp.of_gr h) (fun listed a w w' v h hg => PushJ.other pushX_gr pushY_gr rfl listed a w w' v h hg) ?_, ?a7, ?a8, stepA_plain (fun _ _ h => Kp.of_gr h) (fun listed a w w' v h hg => PushJ.other pushX_gr pushY_gr rfl listed a w w' v h hg) ?_, ?a10, trivial⟩
          case a3 =>
            intro listed fr ww hj2 hl hpre hg hdef hold
            have h2 : fr.tmps[2]?.getD undef = .pointer (some ⟨P, 0, none⟩) := hold 2 rfl
            have hp : fr.tmps[3]?.getD undef = .pointer (some ⟨w.heap.size, 0, none⟩) := hold 3 rfl
            have hq : fr.tmps[4]?.getD undef = .pointer (some ⟨w.heap.size + 1, 0, none⟩) := hold 4 rfl
            have zx0 := Kp.cell hg x0 n3
            have zx1 := Kp.cell hg x1 n3
            have zx2 := Kp.cell hg x2 n3
            have zx3 := Kp.cell hg x3 n3
            have zy0 := Kp.cell hg y0 n4
            have zy1 := Kp.cell hg y1 n4
            have zy2 := Kp.cell hg y2 n4
            have zy3 := Kp.cell hg y3 n4
            have Hg := Lib.hid hg
            clear hold x0 x1 x2 x3 y0 y1 y2 y3
            clear hdef
            have gz : Gr wr ww := (hj2.no (getD_ft fun h => by have := hj2.ord h; rw [getD_tf hl] at this; cases this)).1
            have zpc := Gr.at gz hpc
            clear hpc
            simp [predsImp, Region.binds, dstAt, fx]
            intros
            rename_i K hK
            go_simp
            exact hK _ _ rfl (Kp.refl _ _) (PushJ.other pushX_gr pushY_gr rfl _ _ _ _ _ hj2 (Gr.rfl' _))
          case a7 =>
            intro listed fr ww hj2 hl hpre hg hdef hold
            have h2 : fr.tmps[2]?.getD undef = .pointer (some ⟨P, 0, none⟩) := hold 2 rfl
            have hp : fr.tmps[3]?.getD undef = .pointer (some ⟨w.heap.size, 0, none⟩) := hold 3 rfl
            have hq : fr.tmps[4]?.getD undef = .pointer (some ⟨w.heap.size + 1, 0, none⟩) := hold 4 rfl
            have zx0 := Kp.cell hg x0 n3
            have zx1 := Kp.cell hg x1 n3
            have zx2 := Kp.cell hg x2 n3
            have zx3 := Kp.cell hg x3 n3
            have zy0 := Kp.cell hg y0 n4
            have zy1 := Kp.cell hg y1 n4
            have zy2 := Kp.cell hg y2 n4
            have zy3 := Kp.cell hg y3 n4
            have Hg := Lib.hid hg
            clear hold x0 x1 x2 x3 y0 y1 y2 y3
            clear hdef
            simp [predsImp, Region.binds, dstAt, fx]
            intros
            rename_i K hK
            go_simp
            exact hK _ _ ⟨_, rfl, hj2.grown, BlkT.new _ _ _⟩ (Kp.of_gr (by go_grown)) (PushJ.other pushX_gr pushY_gr rfl _ _ _ _ _ hj2 (by go_grown))
          case a8 =>
            intro listed fr ww hj2 hl hpre hg hdef hold
            have h2 : fr.tmps[2]?.getD undef = .pointer (some ⟨P, 0, none⟩) := hold 2 rfl
            have hp : fr.tmps[3]?.getD undef = .pointer (some ⟨w.heap.size, 0, none⟩) := hold 3 rfl
            have hq : fr.tmps[4]?.getD undef = .pointer (some ⟨w.heap.size + 1, 0, none⟩) := hold 4 rfl
            have zx0 := Kp.cell hg x0 n3
            have zx1 := Kp.cell hg x1 n3
            have zx2 := Kp.cell hg x2 n3
            have zx3 := Kp.cell hg x3 n3
            have zy0 := Kp.cell hg y0 n4
            have zy1 := Kp.cell hg y1 n4
            have zy2 := Kp.cell hg y2 n4
            have zy3 := Kp.cell hg y3 n4
            have Hg := Lib.hid hg
            clear hold x0 x1 x2 x3 y0 y1 y2 y3
            clear hdef
            have gz : Gr wr ww := (hj2.no (getD_tf hl)).1
            simp [predsImp, Region.binds, dstAt, fx]
            rintro h101 ⟨X0, h105, hX0, hX⟩ K hK
            refine wp_append_pr _ _ rfl rfl (P + 1) (.slice p l.length c) l ⟨a, b⟩ X0 1 (by simpa [Act.eval] using h101) (by simpa [Act.eval] using h105) (St.out.gr (gwr.trans gz)).row (by have := (gwr.trans gz).size; omega) (by omega) hX ?_
            intro v' w6 r1 r2 r3
            have k6 : Kp (PMut P (.slice p l.length c)) ww w6 := (Kp.of_grown r2 (fun r h => h)).mono fun b hb => .inr hb
            exact hK _ _ trivial k6 (PushJ.first hj2 hl (hpre ⟨3, Ground.data⟩ (by simp) rfl) (by decide) (by decide) k6.size ⟨ww, w6, gz, r1, r2, r3, Gr.rfl' _⟩)
          case a10 =>
            intro listed fr ww hj2 hl hpre hg hdef hold
            have h2 : fr.tmps[2]?.getD undef = .pointer (some ⟨P, 0, none⟩) := hold 2 rfl
            have hp : fr.tmps[3]?.getD undef = .pointer (some ⟨w.heap.size, 0, none⟩) := hold 3 rfl
            have hq : fr.tmps[4]?.getD undef = .pointer (some ⟨w.heap.size + 1, 0, none⟩) := hold 4 rfl
            have zx0 := Kp.cell hg x0 n3
            have zx1 := Kp.cell hg x1 n3
            have zx2 := Kp.cell hg x2 n3
            have zx3 := Kp.cell hg x3 n3
            have zy0 := Kp.cell hg y0 n4
            have zy1 := Kp.cell hg y1 n4
            have zy2 := Kp.cell hg y2 n4
            have zy3 := Kp.cell hg y3 n4
            have Hg := Lib.hid hg
            clear hold x0 x1 x2 x3 y0 y1 y2 y3
            clear hdef
            obtain ⟨w5, w6, g5, r1, r2, r3, g6⟩ := hj2.one (hpre ⟨8, Ground.data⟩ (by simp) rfl) (getD_tf hl)
            obtain ⟨p1, c1, h106⟩ := r1.form
            obtain ⟨s1, s2, s3, s4⟩ := Hpush.out _ w5 w6 (gwr.trans g5) r1 r2 r3
            have t3 := (BlkT.gr s3 g6)
            have zc := t3.cell 0 (v := .slice p l.length c) rfl
            have zf := t3.open_ 0
            have T3 := Lib.hid t3
            clear t3 s1 s2 s3 s4
            simp [predsImp, Region.binds, dstAt, fx]
            intros
            rename_i K hK
            go_simp
            exact hK _ _ rfl ((Kp.set (C := (· = P)) rfl).mono fun b hb => .inl hb) (PushJ.second hj2 (hpre ⟨8, Ground.data⟩ (by simp) rfl) hl (by decide) (by simp) ⟨_, w5, w6, ww, g5, r1, r2, r3, g6, by rw [h106, List.length_append]; exact Gr.rfl' _⟩)
          all_goals
            intro fr ww hg hold
            have h2 : fr.tmps[2]?.getD undef = .pointer (some ⟨P, 0, none⟩) := hold 2 rfl
            have hp : fr.tmps[3]?.getD undef = .pointer (some ⟨w.heap.size, 0, none⟩) := hold 3 rfl
            have hq : fr.tmps[4]?.getD undef = .pointer (some ⟨w.heap.size + 1, 0, none⟩) := hold 4 rfl
            have zx0 := Kp.cell hg x0 n3
            have zx1 := Kp.cell hg x1 n3
            have zx2 := Kp.cell hg x2 n3
            have zx3 := Kp.cell hg x3 n3
            have zy0 := Kp.cell hg y0 n4
            have zy1 := Kp.cell hg y1 n4
            have zy2 := Kp.cell hg y2 n4
            have zy3 := Kp.cell hg y3 n4
            have Hg := Lib.hid hg
            clear hold x0 x1 x2 x3 y0 y1 y2 y3
            simp [predsImp, Region.binds, dstAt, fx]
            intros
            rename_i K hK
            go_simp
          all_goals exact hK _ _ rfl (Gr.rfl' _)
        · intro w9 hg
          rintro _ rfl _ rfl _ rfl _ rfl _ rfl _ rfl _ rfl _ ⟨X0, rfl, hX0, hX⟩ _ _ _ rfl _ rfl hcj
          simp only [Act.put, List.setIfInBounds_toArray, List.set_cons_succ, List.set_cons_zero, List.drop_succ_cons, List.drop_zero] at hcj ⊢
          have hY := hcj.end_ (by show 10 < 11; omega)
          obtain ⟨v', w5, w6, w7, g5, r1, r2, r3, g6, g7⟩ := hY
          clear x0 x1 x2 x3 y0 y1 y2 y3 hpc hcj
          obtain ⟨p', c', rfl⟩ := r1.form
          obtain ⟨s1, s2, s3, s4⟩ := Hpush.out _ w5 w7 (gwr.trans g5) (r1.gr g6) (grownBy_gr r2 g6) r3
          have hlen2 : (l ++ [(⟨a, b⟩ : Pr)]).length = l.length + 1 := by rw [List.length_append]; rfl
          have s5 := s1.gr g7
          have k5 : Kp (PMut P (.slice p l.length c)) wr w9 := (Kp.of_gr g5).trans (s2.trans (Kp.of_gr g7))
          have b5 := h5.out.kp ((Kp.of_gr gAr).trans k5) (nW _ (by omega))
          have kw5 : Kp (PMut P (.slice p l.length c)) w w9 := (Kp.of_gr gwr).trans k5
          have hpc9 := cell_of_row w9 P 0 _ _ _ s5.cell
          rw [hlen2] at s5 s4 hpc9
          replace hpc9 : w9.cell? ⟨P, 0, none⟩ = some (.slice p' (l.length + 1) c') := hpc9
          have HS5 := Lib.hid s5
          have S4 := Lib.hid s4
          have KW5 := Lib.hid kw5
          have hs5r : wr.heap.size ≤ w5.heap.size := g5.size
          have hsw5 : w.heap.size ≤ w5.heap.size := (gwr.trans g5).size
          have hV := Lib.hid (fun (w' : World) => vV_calls (l.length : Int) w')
          have hs9 : wr.heap.size ≤ w9.heap.size := k5.size
          clear r1 r2 r3 s1 s2 s3 s4 s5 k5 kw5 g5 g6 g7 hX hlen2 n3 n4
          go_wp2_with fail
          refine (hV.out _).mono ?_
          rintro e w8 ⟨rfl, g8⟩
          replace g8 : Gr w9 w8 := g8
          obtain ⟨⟨r0, r1, r2, r3⟩, ⟨z0, z1, z2, z3⟩, _⟩ := (Blk4.gr b5 g8).parts
          have kk := Kp.sets (C := (· = w.heap.size + 2)) (w := w8) (b := w.heap.size + 2) rfl (.int .i64 1) (.int .i64 l.length) (.string ⟨#[]⟩) (.slice none 0 0)
          have hlen : (seePrs l).length = l.length := List.length_map ..
          have Hb := Lib.hid (HQv.out l.length ⟨by omega, by omega⟩ (.slice p' (l.length + 1) c') (l ++ [⟨a, b⟩]) _ (by rw [Hgv.out, Hse.out]) (by rw [Hgv.out, Hse.out, hlen, if_neg (Nat.lt_irrefl _)]; simp [seePrs]) ((HS5.out.gr g8).kp kk (by omega) (fun b hb e => by
              rcases S4.out b hb with h | h
              · have := hvl.out b h; omega
              · omega) (fun b hb e => by have := St.out.low b hb; omega))
            (Kp.weaken (C := fun b => PMut P (.slice p l.length c) b ∨ b = w.heap.size + 2) (fun b hb e => e.resolve_right (by omega)) (((KW5.out.trans (Kp.of_gr g8)).mono fun b hb => .inl hb).trans (kk.mono fun b hb => .inr hb)))
            (fun x hx => (S4.out x hx).imp id fun h => Nat.le_trans hsw5 h))
          clear kk hlen b5 hpc9
          go_wp2_with fail
          exact bodyPost_ret (v := .agg #[.int .i64 1, .int .i64 l.length, .string ⟨#[]⟩, .slice none 0 0]) (by simp (maxDischargeDepth := 9) [results, Try.results89, go_sem, r0, r1, r2, r3]) rfl Hb.out
theorem gen_any (N : Nat) : ∀ a : Tm, SizeOf.sizeOf a ≤ N → genOf a := by
  induction N with
  | zero => intro a h; cases a; simp at h
  | succ N ih =>
    intro a hN S P v l b w ia ib fa fb oa ob st sz
    by_cases h4 : T.alike a.erase b.erase = true
    · obtain ⟨ak, an, sa, pa, ca, la⟩ := a
      obtain ⟨bk, bn, sb, pb, cb, lb⟩ := b
      have h4' := h4
      rw [Tm.erase, Tm.erase] at h4'
      simp only [T.alike, Bool.and_eq_true, decide_eq_true_iff] at h4'
      obtain ⟨e1, e2, e3, e4⟩ := h4'
      obtain rfl : ak = 4 := e1
      obtain rfl : bk = 4 := e2
      obtain ⟨rfl, -⟩ := formed_elem rfl fa
      obtain ⟨rfl, -⟩ := formed_elem rfl fb
      have e4' : (Tm.eraseL la).length = (Tm.eraseL lb).length := e4
      rw [Tm.eraseL_length, Tm.eraseL_length] at e4'
      exact gen_comp sa sb pa pb ca cb la lb e3 e4' (fun x hx => ih x (by have := Tm.sizeOf_mem hx 4 0 sa pa ca; omega)) S P v l w ia ib fa fb oa ob st sz
    · exact gen_leafs a b h4 S P v l w ia ib fa oa ob st sz
theorem gen_says : GenSays := fun S P v l a b w ia ib fa fb oa ob st sz => gen_any _ a (Nat.le_refl _) S P v l b w ia ib fa fb oa ob st sz
end Go.Proofs.Ythncdmijledpnaa
