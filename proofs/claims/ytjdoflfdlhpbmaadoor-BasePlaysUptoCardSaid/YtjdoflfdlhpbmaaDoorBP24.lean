/-
  hornref.Base's Add.
-/
import Derived.Test.YtjdoflfdlhpbmaaDoorBP18
import Derived.Test.YtjdoflfdlhpbmaaDoorBP19
import Derived.Test.YtjdoflfdlhpbmaaDoorBP23
namespace Go.Proofs.YtjdoflfdlhpbmaaDoor
open Go.RowKit Go.Maps Go.Lib

theorem BlkT.set10 {w : World} {b : Nat} {t : TypeId} {u0 u1 u2 u3 u4 u5 u6 u7 u8 u9 : Value} (h : BlkT w b t #[u0, u1, u2, u3, u4, u5, u6, u7, u8, u9]) (v0 v1 v2 v3 v4 v5 v6 v7 v8 v9 : Value) : BlkT ((((((((((w.setCell ⟨b, 0, none⟩ v0).setCell ⟨b, 1, none⟩ v1).setCell ⟨b, 2, none⟩ v2).setCell ⟨b, 3, none⟩ v3).setCell ⟨b, 4, none⟩ v4).setCell ⟨b, 5, none⟩ v5).setCell ⟨b, 6, none⟩ v6).setCell ⟨b, 7, none⟩ v7).setCell ⟨b, 8, none⟩ v8).setCell ⟨b, 9, none⟩ v9) b t #[v0, v1, v2, v3, v4, v5, v6, v7, v8, v9] := by
  have h1 : BlkT (w.setCell ⟨b, 0, none⟩ v0) b t #[v0, u1, u2, u3, u4, u5, u6, u7, u8, u9] := BlkT.set h 0 v0
  have h2 : BlkT ((w.setCell ⟨b, 0, none⟩ v0).setCell ⟨b, 1, none⟩ v1) b t #[v0, v1, u2, u3, u4, u5, u6, u7, u8, u9] := BlkT.set h1 1 v1
  have h3 : BlkT (((w.setCell ⟨b, 0, none⟩ v0).setCell ⟨b, 1, none⟩ v1).setCell ⟨b, 2, none⟩ v2) b t #[v0, v1, v2, u3, u4, u5, u6, u7, u8, u9] := BlkT.set h2 2 v2
  have h4 : BlkT ((((w.setCell ⟨b, 0, none⟩ v0).setCell ⟨b, 1, none⟩ v1).setCell ⟨b, 2, none⟩ v2).setCell ⟨b, 3, none⟩ v3) b t #[v0, v1, v2, v3, u4, u5, u6, u7, u8, u9] := BlkT.set h3 3 v3
  have h5 : BlkT (((((w.setCell ⟨b, 0, none⟩ v0).setCell ⟨b, 1, none⟩ v1).setCell ⟨b, 2, none⟩ v2).setCell ⟨b, 3, none⟩ v3).setCell ⟨b, 4, none⟩ v4) b t #[v0, v1, v2, v3, v4, u5, u6, u7, u8, u9] := BlkT.set h4 4 v4
  have h6 : BlkT ((((((w.setCell ⟨b, 0, none⟩ v0).setCell ⟨b, 1, none⟩ v1).setCell ⟨b, 2, none⟩ v2).setCell ⟨b, 3, none⟩ v3).setCell ⟨b, 4, none⟩ v4).setCell ⟨b, 5, none⟩ v5) b t #[v0, v1, v2, v3, v4, v5, u6, u7, u8, u9] := BlkT.set h5 5 v5
  have h7 : BlkT (((((((w.setCell ⟨b, 0, none⟩ v0).setCell ⟨b, 1, none⟩ v1).setCell ⟨b, 2, none⟩ v2).setCell ⟨b, 3, none⟩ v3).setCell ⟨b, 4, none⟩ v4).setCell ⟨b, 5, none⟩ v5).setCell ⟨b, 6, none⟩ v6) b t #[v0, v1, v2, v3, v4, v5, v6, u7, u8, u9] := BlkT.set h6 6 v6
  have h8 : BlkT ((((((((w.setCell ⟨b, 0, none⟩ v0).setCell ⟨b, 1, none⟩ v1).setCell ⟨b, 2, none⟩ v2).setCell ⟨b, 3, none⟩ v3).setCell ⟨b, 4, none⟩ v4).setCell ⟨b, 5, none⟩ v5).setCell ⟨b, 6, none⟩ v6).setCell ⟨b, 7, none⟩ v7) b t #[v0, v1, v2, v3, v4, v5, v6, v7, u8, u9] := BlkT.set h7 7 v7
  have h9 : BlkT (((((((((w.setCell ⟨b, 0, none⟩ v0).setCell ⟨b, 1, none⟩ v1).setCell ⟨b, 2, none⟩ v2).setCell ⟨b, 3, none⟩ v3).setCell ⟨b, 4, none⟩ v4).setCell ⟨b, 5, none⟩ v5).setCell ⟨b, 6, none⟩ v6).setCell ⟨b, 7, none⟩ v7).setCell ⟨b, 8, none⟩ v8) b t #[v0, v1, v2, v3, v4, v5, v6, v7, v8, u9] := BlkT.set h8 8 v8
  have h10 : BlkT ((((((((((w.setCell ⟨b, 0, none⟩ v0).setCell ⟨b, 1, none⟩ v1).setCell ⟨b, 2, none⟩ v2).setCell ⟨b, 3, none⟩ v3).setCell ⟨b, 4, none⟩ v4).setCell ⟨b, 5, none⟩ v5).setCell ⟨b, 6, none⟩ v6).setCell ⟨b, 7, none⟩ v7).setCell ⟨b, 8, none⟩ v8).setCell ⟨b, 9, none⟩ v9) b t #[v0, v1, v2, v3, v4, v5, v6, v7, v8, v9] := BlkT.set h9 9 v9
  exact h10
theorem Kp.set10 {C : Nat → Prop} {w : World} {b : Nat} (hb : C b) (v0 v1 v2 v3 v4 v5 v6 v7 v8 v9 : Value) : Kp C w ((((((((((w.setCell ⟨b, 0, none⟩ v0).setCell ⟨b, 1, none⟩ v1).setCell ⟨b, 2, none⟩ v2).setCell ⟨b, 3, none⟩ v3).setCell ⟨b, 4, none⟩ v4).setCell ⟨b, 5, none⟩ v5).setCell ⟨b, 6, none⟩ v6).setCell ⟨b, 7, none⟩ v7).setCell ⟨b, 8, none⟩ v8).setCell ⟨b, 9, none⟩ v9) :=
  ((((((((((Kp.set hb : Kp C w (w.setCell ⟨b, 0, none⟩ v0)).trans (Kp.set hb)).trans (Kp.set hb)).trans (Kp.set hb)).trans (Kp.set hb)).trans (Kp.set hb)).trans (Kp.set hb)).trans (Kp.set hb)).trans (Kp.set hb)).trans (Kp.set hb))
def zhV (B0 : Nat) : VP := fun v w => ∃ B, v = .pointer (some ⟨B, 0, none⟩) ∧ B0 ≤ B ∧ BlkT w B 75 #[.int .i64 0, .int .i64 0, .int .i64 0, .string ⟨#[]⟩, .slice none 0 0, .int .i64 0, .int .i64 0, .string ⟨#[]⟩, .slice none 0 0, .bool false]
theorem zhV_stable {B0 : Nat} : ∀ v w w', zhV B0 v w → Gr w w' → zhV B0 v w' := fun _ _ _ ⟨B, h1, h2, h3⟩ hg => ⟨B, h1, h2, h3.gr hg⟩
def slAny : VP := fun v _ => ∃ p n c, v = .slice p n c
theorem slAny_stable {R : World → World → Prop} : ∀ v w w', slAny v w → R w w' → slAny v w' := fun _ _ _ h _ => h
def slOne1 : VP := fun v _ => ∃ B : Nat, v = .slice (some ⟨B, 0, none⟩) 1 1
theorem slOne1_stable {R : World → World → Prop} : ∀ v w w', slOne1 v w → R w w' → slOne1 v w' := fun _ _ _ h _ => h
/-- A slice of one new clause. -/
def oneHr (B0 : Nat) (y : Hr) : VP := fun v w => ∃ B, v = .slice (some ⟨B, 0, none⟩) 1 1 ∧ B0 ≤ B ∧ BlkT w B 75 y.cells.toArray
theorem oneHr_stable {B0 : Nat} {y : Hr} : ∀ v w w', oneHr B0 y v w → Gr w w' → oneHr B0 y v w' := fun _ _ _ ⟨B, h1, h2, h3⟩ hg => ⟨B, h1, h2, h3.gr hg⟩
theorem oneHr_own {B0 : Nat} {y : Hr} {v : Value} {w : World} (h : oneHr B0 y v w) : w.ownsRow B0 75 10 v 1 y.cells := by
  obtain ⟨B, rfl, h2, h3⟩ := h
  exact ⟨by rw [rcells_ten], .inr ⟨B, 1, y.cells.toArray, rfl, h2, h3, Nat.le_refl _, by decide, by rw [List.size_toArray, rcells_ten], List.take_of_length_le (by have := rcells_ten y; show y.cells.length ≤ 1 * 10; omega)⟩⟩
def trueV : VP := fun _ _ => True
theorem trueV_st : ∀ v w w', trueV v w → Gr w w' → trueV v w' := fun _ _ _ h _ => h
/-- append of one new clause. -/
theorem append_oneHr (w : World) (B : Nat) (v : Value) (n : Nat) (xs : List Value) (y : Hr) (u : Value) (hu : oneHr B y u w) (h : w.ownsRow B 75 10 v n xs) (hB : B ≤ w.heap.size) (hl : (n + 1) * 128 ≤ 140737488351232) :
    ∃ v' w', (Builtin.append_ #[25, 25] 25 #[v, u]).run Tryd.prog w = .ok v' w' ∧ w'.ownsRow B 75 10 v' (n + 1) (xs ++ y.cells) ∧ w.grownBy w' v.ownBlock ∧ (v'.ownBlock = v.ownBlock ∨ v'.ownBlock = some w.heap.size) := by
  obtain ⟨i0, hi, hz0, hz1, hz2⟩ := info_parts infoHr
  obtain ⟨g, rfl, h2, h3⟩ := hu
  exact run_append_own_fresh (P := Tryd.prog) w B 25 25 75 i0 _ 10 128 Tryd.underlying25 hi hz0 hz1 hz2 rfl (by decide) v n xs h
    ⟨g, 0, none⟩ 1 1 y.cells (by rw [rcells_ten]) (fun j u hu => by rw [Go.WideShapes.add_plain, Nat.zero_add, cell_of_row w g _ _ _ _ h3, List.getElem?_toArray]; exact hu) rCells_one (by simp only [maxLen]; omega) (by omega) hB (by omega)
/-- What Add leaves. -/
def RetRA (S : Nat → Prop) (R : Nat) (L : List Hr) (h b : Tm) (first : Bool) (w : World) (e : Ending) (w' : World) : Prop :=
  (plainErr reserved h.erase b.erase ≠ 0 ∧ e = .returned (.tuple #[.int .i64 0, .int .i64 (plainErr reserved h.erase b.erase)]) ∧ Gr w w') ∨
  (plainErr reserved h.erase b.erase = 0 ∧ ∃ (p' : Option Addr) (c' : Nat), e = .returned (.tuple #[.int .i64 (L.length + 1), .int .i64 0]) ∧ RefG (fun x => S x ∨ w.heap.size ≤ x) w' R p' c' (if first then ⟨L.length + 1, h, b, true⟩ :: L else L ++ [⟨L.length + 1, h, b, true⟩]) ∧ Kp (fun x => x = R) w w')

set_option maxHeartbeats 8000000 in
set_option maxRecDepth 100000 in
theorem rAdd_calls (S : Nat → Prop) (R : Nat) (p : Option Addr) (c : Nat) (L : List Hr) (h b : Tm) (first : Bool) (w : World) (m₀ : Int) (hm₀ : w.cell? ⟨0, 0, none⟩ = some (.int .i64 m₀)) (hr : RefG S w R p c L) (hSw : ∀ b, S b → b < w.heap.size) (hh : h.In w) (hb : b.In w) (oh : h.On S) (ob : b.On S) (hl : L.length ≤ 8388607) :
    Calls Tryd.prog 21 #[.pointer (some ⟨R, 0, none⟩), clVal h b, .bool first] w (RetRA S R L h b first w) := by
  have hR0 : Hid (∀ E w', plainErr reserved h.erase b.erase = E → E ≠ 0 → Gr w w' → RetRA S R L h b first w (.returned (.tuple #[.int .i64 0, .int .i64 E])) w') := fun E w' h1 h2 h3 => .inl ⟨by rw [h1]; exact h2, by rw [h1], h3⟩
  have hR1 : Hid (∀ p' c' w', plainErr reserved h.erase b.erase = 0 → RefG (fun x => S x ∨ w.heap.size ≤ x) w' R p' c' (if first then ⟨L.length + 1, h, b, true⟩ :: L else L ++ [⟨L.length + 1, h, b, true⟩]) → Kp (fun x => x = R) w w' → RetRA S R L h b first w (.returned (.tuple #[.int .i64 (L.length + 1), .int .i64 0])) w') := fun p' c' w' h1 h2 h3 => .inr ⟨h1, p', c', rfl, h2, h3⟩
  generalize RetRA S R L h b first w = Q at hR0 hR1 ⊢
  have HH := Lib.hid (And.intro hh oh)
  have HB := Lib.hid (And.intro hb ob)
  have HSw := Lib.hid hSw
  have HRf := Lib.hid hr
  have Hm := Lib.hid hm₀
  have hRl := hr.blk.lt
  clear hh oh hb ob hSw hr hm₀
  rw [clVal_four]
  go_enter Tryd.func21, Tryd.ntmps21
  try simp only [List.append_eq, List.cons_append, List.nil_append]
  go_upto_region 1 with fail
  have hN : Blk8 (w.alloc (.cells #[.int .i64 h.k, .int .i64 h.n, .string h.s, .slice h.p h.l.length h.c, .int .i64 b.k, .int .i64 b.n, .string b.s, .slice b.p b.l.length b.c] 36)) w.heap.size (.int .i64 h.k) (.int .i64 h.n) (.string h.s) (.slice h.p h.l.length h.c) (.int .i64 b.k) (.int .i64 b.n) (.string b.s) (.slice b.p b.l.length b.c) := heap_alloc_new w _
  have gA : Gr w (w.alloc (.cells #[.int .i64 h.k, .int .i64 h.n, .string h.s, .slice h.p h.l.length h.c, .int .i64 b.k, .int .i64 b.n, .string b.s, .slice b.p b.l.length b.c] 36)) := by go_grown
  generalize w.alloc (.cells #[.int .i64 h.k, .int .i64 h.n, .string h.s, .slice h.p h.l.length h.c, .int .i64 b.k, .int .i64 b.n, .string b.s, .slice b.p b.l.length b.c] 36) = wA at *
  have HN := Lib.hid hN
  clear hN
  obtain ⟨z0, z1, z2, z3, z4, z5, z6, z7⟩ := HN.out.cells
  obtain ⟨E, hE⟩ : ∃ E, plainErr reserved h.erase b.erase = E := ⟨_, rfl⟩
  have hpa : (plainAns h.erase b.erase).2 = E := by rw [plainAns, hE]
  have Hpa := Lib.hid hpa
  have HE := Lib.hid hE
  clear hE hpa
  go_upto_region 2 with (first
    | (go_at_call 67; rewrite [← clVal_four]; refine (rPlain_calls h b _ m₀ (Gr.at gA Hm.out) (Tm.In_below gA HH.out.1) (Tm.In_below gA HB.out.1)).mono ?_; rintro e w2 ⟨bm, rfl, _, _, hg2⟩; rewrite [Hpa.out]; have G2 := Lib.hid (Gr.trans gA hg2); have HN2 := Lib.hid (HN.out.gr hg2); have hsz2 := hg2.size; obtain ⟨kb, nb, sb, pb, cb, lb⟩ := bm; rewrite [tm_val]; clear hg2 z0 z1 z2 z3 z4 z5 z6 z7)
    | fail)
  have gB : Gr w2 (w2.alloc (.cells #[.int .i64 kb, .int .i64 nb, .string sb, .slice pb lb.length cb] 34)) := by go_grown
  generalize w2.alloc (.cells #[.int .i64 kb, .int .i64 nb, .string sb, .slice pb lb.length cb] 34) = w3 at *
  have G3 := Lib.hid (Gr.trans G2.out gB)
  have HN3 := Lib.hid (HN2.out.gr gB)
  clear gB HN2 G2
  cases hE0 : (E != 0) with
  | true =>
    have hne : E ≠ 0 := by simpa using hE0
    have Hend := Lib.hid (hR0.out E w3 HE.out hne G3.out)
    clear hne
    go_wp2_with fail
    exact Hend.out
  | false =>
    obtain rfl : E = 0 := by simpa using hE0
    clear hE0
    obtain ⟨z0, z1, z2, z3, z4, z5, z6, z7⟩ := HN3.out.cells
    have r0 := (HRf.out.blk.gr G3.out).cell 0 (v := .slice p L.length c) rfl
    go_upto_region 4 with fail
    refine wp_region_rely_tail 9 [fx (.pointer (some ⟨R, 0, none⟩)), fx (.pointer (some ⟨R, 0, none⟩)), fx (.pointer (some ⟨R, 0, none⟩)), fx (.slice p L.length c), fx (.int .i64 L.length), fx (.int .i64 (L.length + 1)), fx (.agg #[.int .i64 h.k, .int .i64 h.n, .string h.s, .slice h.p h.l.length h.c, .int .i64 b.k, .int .i64 b.n, .string b.s, .slice b.p b.l.length b.c]), fx (.agg #[.int .i64 (L.length + 1), .int .i64 h.k, .int .i64 h.n, .string h.s, .slice h.p h.l.length h.c, .int .i64 b.k, .int .i64 b.n, .string b.s, .slice b.p b.l.length b.c, .bool true]), zhV w3.heap.size]
      (by kernel_rfl) (by kernel_rfl) (by decide) (by repeat (first | exact Stable.nil | refine Stable.fix ?_ | refine Stable.cons zhV_stable ?_)) ?_ ?_
    · refine ⟨?_, ?_, ?_, ?_, ?_, ?a5, ?_, ?_, ?a8, trivial⟩
      all_goals
        intro a wr hg hold
        have h0 : a.tmps[0]?.getD undef = .pointer (some ⟨R, 0, none⟩) := hold 0 rfl
        have h4 : a.tmps[4]?.getD undef = .pointer (some ⟨w.heap.size, 0, none⟩) := hold 4 rfl
        have y0 := Gr.at hg r0
        have x0 := Gr.at hg z0
        have x1 := Gr.at hg z1
        have x2 := Gr.at hg z2
        have x3 := Gr.at hg z3
        have x4 := Gr.at hg z4
        have x5 := Gr.at hg z5
        have x6 := Gr.at hg z6
        have x7 := Gr.at hg z7
        have Hg := Lib.hid hg
        clear hold r0 z0 z1 z2 z3 z4 z5 z6 z7
        simp [predsImp, Region.binds, dstAt, fx]
        intros
        first
          | (rw [if_pos (by simp [*])]
             intro K hK)
          | (rename_i K hK)
        go_simp
      case a5 =>
        exact hK _ _ (congrArg (Value.int .i64) (IntWalk.i64_in _ ⟨by omega, by omega⟩)) (Gr.rfl' _)
      case a8 =>
        exact hK _ _ ⟨wr.heap.size, rfl, Hg.out.size, BlkT.new _ _ _⟩ (by go_grown)
      all_goals exact hK _ _ rfl (Gr.rfl' _)
    · intro w4 hg
      rintro _ rfl _ rfl _ rfl _ rfl _ rfl _ rfl _ rfl _ rfl _ ⟨B, rfl, hB0, hz⟩
      simp only [finAll, Act.put, List.setIfInBounds_toArray, List.set_cons_succ, List.set_cons_zero, List.drop_succ_cons, List.drop_zero, List.take_zero]
      clear r0 z0 z1 z2 z3 z4 z5 z6 z7
      obtain ⟨q0, q1, q2, q3, q4, q5, q6, q7, q8, q9⟩ : _ ∧ _ ∧ _ ∧ _ ∧ _ ∧ _ ∧ _ ∧ _ ∧ _ ∧ _ := ⟨hz.cell 0 rfl, hz.cell 1 rfl, hz.cell 2 rfl, hz.cell 3 rfl, hz.cell 4 rfl, hz.cell 5 rfl, hz.cell 6 rfl, hz.cell 7 rfl, hz.cell 8 rfl, hz.cell 9 rfl⟩
      obtain ⟨f0, f1, f2, f3, f4, f5, f6, f7, f8, f9⟩ : _ ∧ _ ∧ _ ∧ _ ∧ _ ∧ _ ∧ _ ∧ _ ∧ _ ∧ _ := ⟨hz.open_ 0, hz.open_ 1, hz.open_ 2, hz.open_ 3, hz.open_ 4, hz.open_ 5, hz.open_ 6, hz.open_ 7, hz.open_ 8, hz.open_ 9⟩
      have hbl := hz.lt
      have hz2 := hz.set10 (.int .i64 (L.length + 1)) (.int .i64 h.k) (.int .i64 h.n) (.string h.s) (.slice h.p h.l.length h.c) (.int .i64 b.k) (.int .i64 b.n) (.string b.s) (.slice b.p b.l.length b.c) (.bool true)
      have kz : Kp (fun x => x = B) w4 _ := Kp.set10 (C := fun x => x = B) (b := B) rfl (.int .i64 (L.length + 1)) (.int .i64 h.k) (.int .i64 h.n) (.string h.s) (.slice h.p h.l.length h.c) (.int .i64 b.k) (.int .i64 b.n) (.string b.s) (.slice b.p b.l.length b.c) (.bool true)
      have hs3 : w.heap.size ≤ w3.heap.size := G3.out.size
      have g4 : Gr w w4 := G3.out.trans hg
      go_upto_region 5 with fail
      generalize ((((((((((w4.setCell ⟨B, 0, none⟩ (.int .i64 (L.length + 1))).setCell ⟨B, 1, none⟩ (.int .i64 h.k)).setCell ⟨B, 2, none⟩ (.int .i64 h.n)).setCell ⟨B, 3, none⟩ (.string h.s)).setCell ⟨B, 4, none⟩ (.slice h.p h.l.length h.c)).setCell ⟨B, 5, none⟩ (.int .i64 b.k)).setCell ⟨B, 6, none⟩ (.int .i64 b.n)).setCell ⟨B, 7, none⟩ (.string b.s)).setCell ⟨B, 8, none⟩ (.slice b.p b.l.length b.c)).setCell ⟨B, 9, none⟩ (.bool true)) = w5 at *
      have HB5 := Lib.hid hz2
      have G5 : Hid (Gr w w5) := Below.trans g4 (kz.below (B := w.heap.size) (fun x e => by have e : x = B := e; omega) g4.size)
      have hB5 : B < w5.heap.size := hz2.lt
      have hBw : w.heap.size ≤ B := by omega
      clear q0 q1 q2 q3 q4 q5 q6 q7 q8 q9 f0 f1 f2 f3 f4 f5 f6 f7 f8 f9 hz hz2 kz g4 hbl hB0 hg
      have HP := Lib.hid HE.out
      clear HN3 HN G3
      have hff := Lib.hid (plainErr_formed HE.out)
      have nR : ¬ w5.heap.size ≤ R := by have := G5.out.size; omega
      have nB : ¬ w5.heap.size ≤ B := by omega
      have r0 := (HRf.out.blk.gr G5.out).cell 0 (v := .slice p L.length c) rfl
      have fR := (HRf.out.blk.gr G5.out).open_ 0
      obtain ⟨q0, q1, q2, q3, q4, q5, q6, q7, q8, q9⟩ : _ ∧ _ ∧ _ ∧ _ ∧ _ ∧ _ ∧ _ ∧ _ ∧ _ ∧ _ := ⟨HB5.out.cell 0 rfl, HB5.out.cell 1 rfl, HB5.out.cell 2 rfl, HB5.out.cell 3 rfl, HB5.out.cell 4 rfl, HB5.out.cell 5 rfl, HB5.out.cell 6 rfl, HB5.out.cell 7 rfl, HB5.out.cell 8 rfl, HB5.out.cell 9 rfl⟩
      -- the end: the new list stands at R
      have Hend : Hid (∀ (LL : List Hr) (w9 : World) (g cap : Nat), LL = (if first then ⟨L.length + 1, h, b, true⟩ :: L else L ++ [⟨L.length + 1, h, b, true⟩]) → Kp (fun x => w5.heap.size ≤ x) w5 w9 → w9.ownsRow w5.heap.size 75 10 (.slice (some ⟨g, 0, none⟩) (L.length + 1) cap) (L.length + 1) (LL.flatMap Hr.cells) →
          Q (.returned (.tuple #[.int .i64 (L.length + 1), .int .i64 0])) (w9.setCell ⟨R, 0, none⟩ (.slice (some ⟨g, 0, none⟩) (L.length + 1) cap))) := by
        intro LL w9 g cap hLL hk ho
        have hlen : LL.length = L.length + 1 := by rw [hLL]; cases first <;> simp
        have hRb := (HRf.out.blk.gr G5.out).kp hk nR
        have hRs := hRb.set 0 (.slice (some ⟨g, 0, none⟩) (L.length + 1) cap)
        have k2 : Kp (fun x => x = R) w9 (w9.setCell ⟨R, 0, none⟩ (.slice (some ⟨g, 0, none⟩) (L.length + 1) cap)) := Kp.set (C := fun x => x = R) rfl
        generalize w9.setCell ⟨R, 0, none⟩ (.slice (some ⟨g, 0, none⟩) (L.length + 1) cap) = wZ at *
        have hgR : g ≠ R := by have := (ho.lt g rfl).1; omega
        have kw : Kp (fun x => x = R) w wZ := (((Kp.of_gr G5.out).trans (hk.mono fun x hx => (Or.inl hx : w5.heap.size ≤ x ∨ x = R))).trans (k2.mono fun x hx => Or.inr hx)).weaken fun x hx h9 => h9.elim (fun h9 => by have := G5.out.size; omega) fun h9 => h9
        have tms : ∀ t : Tm, t.In w → t.On S → t.In wZ ∧ t.On (fun x => S x ∨ w.heap.size ≤ x) := fun t h1 h2 => ⟨tm_kp h1 h2 (fun x hx (e : x = R) => HRf.out.sep (e ▸ hx)) kw, h2.mono fun x hx => .inl hx⟩
        have hels : ∀ x ∈ LL, x.h.In wZ ∧ x.b.In wZ ∧ x.h.erase.formed = true ∧ x.b.erase.formed = true ∧ x.h.On (fun b => S b ∨ w.heap.size ≤ b) ∧ x.b.On (fun b => S b ∨ w.heap.size ≤ b) := fun x hx => by
          have hx' : x = ⟨L.length + 1, h, b, true⟩ ∨ x ∈ L := by
            rw [hLL] at hx
            cases first
            · simp only [Bool.false_eq_true, if_false, List.mem_append, List.mem_singleton] at hx; exact hx.symm
            · simp only [if_true, List.mem_cons] at hx; exact hx
          rcases hx' with rfl | hx
          · exact ⟨(tms h HH.out.1 HH.out.2).1, (tms b HB.out.1 HB.out.2).1, hff.out.1, hff.out.2, (tms h HH.out.1 HH.out.2).2, (tms b HB.out.1 HB.out.2).2⟩
          · obtain ⟨h1, h2, h3, h4, h5, h6⟩ := HRf.out.sl.els x hx
            exact ⟨(tms _ h1 h5).1, (tms _ h2 h6).1, h3, h4, (tms _ h1 h5).2, (tms _ h2 h6).2⟩
        have ho2 := ownsRow_kpv ho k2 (fun j hj (e : j = R) => by cases hj; exact hgR e)
        rw [← hlen] at ho2
        obtain ⟨pX, cX, hpX, hslX⟩ := HrSl.of_own (S := fun b => S b ∨ w.heap.size ≤ b) ho2 (fun j h1 _ => .inr (by have := G5.out.size; omega)) (by rw [hlen]; omega) hels
        cases hpX
        refine hR1.out (some ⟨g, 0, none⟩) cap wZ HP.out ⟨?_, ?_, fun h9 => h9.elim HRf.out.sep fun h9 => by omega⟩ kw
        · rw [← hLL, hlen]; exact hRs
        · rw [← hLL]; exact hslX
      cases first with
      | true =>
        have hyl : Hid ((if true = true then (⟨L.length + 1, h, b, true⟩ : Hr) :: L else L ++ [⟨L.length + 1, h, b, true⟩]) = ⟨L.length + 1, h, b, true⟩ :: L) := rfl
        go_upto_region 6 with fail
        refine wp_region_relyA 8 [fx (.pointer (some ⟨R, 0, none⟩)), fx (.agg #[.int .i64 (L.length + 1), .int .i64 h.k, .int .i64 h.n, .string h.s, .slice h.p h.l.length h.c, .int .i64 b.k, .int .i64 b.n, .string b.s, .slice b.p b.l.length b.c, .bool true]), slOne1, fx (.pointer (some ⟨R, 0, none⟩)), fx (.pointer (some ⟨R, 0, none⟩)), fx (.pointer (some ⟨R, 0, none⟩)), fx (.slice p L.length c), slAny]
          (Kp (fun x => w5.heap.size ≤ x)) (ChainJ 51 2 30 6 34 7 35 (oneHr w5.heap.size (⟨L.length + 1, h, b, true⟩ : Hr)) trueV (ownHr w5.heap.size (1 + L.length) ((⟨L.length + 1, h, b, true⟩ : Hr).cells ++ L.flatMap Hr.cells))) (by kernel_rfl) (by kernel_rfl) (by decide) (by kernel_rfl) (fun _ _ h => Kp.of_gr h) (fun _ _ _ h k => Kp.trans h k) (fun w _ => ChainJ.start _ _ w rfl) (by repeat (first | exact StableR.nil | refine StableR.fix ?_ | refine StableR.cons slAny_stable ?_ | refine StableR.cons slOne1_stable ?_)) ?_ ?_
        · refine ⟨stepA_plain (fun _ _ h => Kp.of_gr h) (fun listed a w w' v h hg => ChainJ.other oneHr_stable trueV_st ownHr_stable rfl listed a w w' v h hg) ?_, stepA_plain (fun _ _ h => Kp.of_gr h) (fun listed a w w' v h hg => ChainJ.other oneHr_stable trueV_st ownHr_stable rfl listed a w w' v h hg) ?_, ?a2, stepA_plain (fun _ _ h => Kp.of_gr h) (fun listed a w w' v h hg => ChainJ.other oneHr_stable trueV_st ownHr_stable rfl listed a w w' v h hg) ?_, stepA_plain (fun _ _ h => Kp.of_gr h) (fun listed a w w' v h hg => ChainJ.other oneHr_stable trueV_st ownHr_stable rfl listed a w w' v h hg) ?_, stepA_plain (fun _ _ h => Kp.of_gr h) (fun listed a w w' v h hg => ChainJ.other oneHr_stable trueV_st ownHr_stable rfl listed a w w' v h hg) ?_, ?a6, ?a7, trivial⟩
          case a2 =>
            intro listed fr ww hj hl hpre hg hdef hold
            have h0 : fr.tmps[0]?.getD undef = .pointer (some ⟨R, 0, none⟩) := hold 0 rfl
            have h10 : fr.tmps[10]?.getD undef = .pointer (some ⟨B, 0, none⟩) := hold 10 rfl
            have y0 := Kp.cell hg r0 nR
            have x0 := Kp.cell hg q0 nB
            have x1 := Kp.cell hg q1 nB
            have x2 := Kp.cell hg q2 nB
            have x3 := Kp.cell hg q3 nB
            have x4 := Kp.cell hg q4 nB
            have x5 := Kp.cell hg q5 nB
            have x6 := Kp.cell hg q6 nB
            have x7 := Kp.cell hg q7 nB
            have x8 := Kp.cell hg q8 nB
            have x9 := Kp.cell hg q9 nB
            have Hg := Lib.hid hg
            clear hold r0 q0 q1 q2 q3 q4 q5 q6 q7 q8 q9
            clear hdef
            simp only [predsImp]
            intro v1 e1 p1 K hK
            replace p1 : v1 = .agg #[.int .i64 (L.length + 1), .int .i64 h.k, .int .i64 h.n, .string h.s, .slice h.p h.l.length h.c, .int .i64 b.k, .int .i64 b.n, .string b.s, .slice b.p b.l.length b.c, .bool true] := p1
            subst p1
            go_simp
            exact hK _ _ ⟨_, rfl⟩ (Kp.of_gr (by go_grown)) (ChainJ.first trueV_st hj hl (by decide) (by decide) (by decide) (by decide) (by decide) (by go_grown) ⟨ww.heap.size, rfl, Hg.out.size, BlkT.new _ _ _⟩)
          case a6 =>
            intro listed fr ww hj hl hpre hg hdef hold
            have h0 : fr.tmps[0]?.getD undef = .pointer (some ⟨R, 0, none⟩) := hold 0 rfl
            have h10 : fr.tmps[10]?.getD undef = .pointer (some ⟨B, 0, none⟩) := hold 10 rfl
            have y0 := Kp.cell hg r0 nR
            have x0 := Kp.cell hg q0 nB
            have x1 := Kp.cell hg q1 nB
            have x2 := Kp.cell hg q2 nB
            have x3 := Kp.cell hg q3 nB
            have x4 := Kp.cell hg q4 nB
            have x5 := Kp.cell hg q5 nB
            have x6 := Kp.cell hg q6 nB
            have x7 := Kp.cell hg q7 nB
            have x8 := Kp.cell hg q8 nB
            have x9 := Kp.cell hg q9 nB
            have Hg := Lib.hid hg
            clear hold r0 q0 q1 q2 q3 q4 q5 q6 q7 q8 q9
            clear hdef
            simp [predsImp, Region.binds, dstAt, fx]
            intros
            rename_i K hK
            go_simp
            exact hK _ _ rfl (Kp.of_gr (Gr.rfl' _)) (ChainJ.second oneHr_stable hj hl (by decide) (by decide) (by decide) (by decide) (by decide) (Gr.rfl' _) trivial)
          case a7 =>
            intro listed fr ww hj hl hpre hg hdef hold
            have h0 : fr.tmps[0]?.getD undef = .pointer (some ⟨R, 0, none⟩) := hold 0 rfl
            have h10 : fr.tmps[10]?.getD undef = .pointer (some ⟨B, 0, none⟩) := hold 10 rfl
            have y0 := Kp.cell hg r0 nR
            have x0 := Kp.cell hg q0 nB
            have x1 := Kp.cell hg q1 nB
            have x2 := Kp.cell hg q2 nB
            have x3 := Kp.cell hg q3 nB
            have x4 := Kp.cell hg q4 nB
            have x5 := Kp.cell hg q5 nB
            have x6 := Kp.cell hg q6 nB
            have x7 := Kp.cell hg q7 nB
            have x8 := Kp.cell hg q8 nB
            have x9 := Kp.cell hg q9 nB
            have Hg := Lib.hid hg
            clear hold r0 q0 q1 q2 q3 q4 q5 q6 q7 q8 q9
            clear hdef
            simp only [predsImp]
            intro v1 e1 p1 v2 e2 p2 K hK
            replace p2 : v2 = .slice p L.length c := p2
            subst p2
            have h2 := hpre ⟨2, Ground.data⟩ (by simp) rfl
            have hx := hj.x1 h2 (getD_tf hl)
            rw [e1] at hx
            obtain ⟨v5, w6, hr5, ho5, hg5, hk5⟩ := append_hrs ww w5.heap.size v1 1 _ p c L ((HRf.out.sl.gr G5.out).kp Hg.out (fun x hx h9 => by have := HSw.out x hx; have := G5.out.size; omega)) (oneHr_own hx) Hg.out.size (by omega)
            obtain ⟨qv, cv, rfl, _⟩ := row_form ho5
            exact wp_append_run ww _ _ _ _ rfl _ _ (by simp [Act.eval, e1]) (by simp [Act.eval, e2]) _ w6 hr5 (hK _ _ ⟨_, _, _, rfl⟩ (Kp.of_grown hg5 fun x hx2 => ((oneHr_own hx).lt x hx2).1) (ChainJ.last hj hl h2 (hpre ⟨6, Ground.data⟩ (by simp) rfl) (by decide) (by decide) (by decide) ho5))
          all_goals
            intro fr ww hg hold
            have h0 : fr.tmps[0]?.getD undef = .pointer (some ⟨R, 0, none⟩) := hold 0 rfl
            have h10 : fr.tmps[10]?.getD undef = .pointer (some ⟨B, 0, none⟩) := hold 10 rfl
            have y0 := Kp.cell hg r0 nR
            have x0 := Kp.cell hg q0 nB
            have x1 := Kp.cell hg q1 nB
            have x2 := Kp.cell hg q2 nB
            have x3 := Kp.cell hg q3 nB
            have x4 := Kp.cell hg q4 nB
            have x5 := Kp.cell hg q5 nB
            have x6 := Kp.cell hg q6 nB
            have x7 := Kp.cell hg q7 nB
            have x8 := Kp.cell hg q8 nB
            have x9 := Kp.cell hg q9 nB
            have Hg := Lib.hid hg
            clear hold r0 q0 q1 q2 q3 q4 q5 q6 q7 q8 q9
            simp [predsImp, Region.binds, dstAt, fx]
            intros
            rename_i K hK
            go_simp
          all_goals exact hK _ _ rfl (Gr.rfl' _)
        · intro w9 hg
          rintro _ rfl _ rfl _ ⟨_, rfl⟩ _ rfl _ rfl _ rfl _ rfl _ ⟨pz, nz, cz, rfl⟩ hcj
          simp only [Act.put, List.setIfInBounds_toArray, List.set_cons_succ, List.set_cons_zero, List.drop_succ_cons, List.drop_zero] at hcj ⊢
          have ho : ownHr w5.heap.size (1 + L.length) ((⟨L.length + 1, h, b, true⟩ : Hr).cells ++ L.flatMap Hr.cells) (.slice pz nz cz) w9 := hcj.end_ (by show 7 < 8; omega)
          rcases ho.2 with ⟨h7, h8⟩ | ⟨g, cap, cur, h7, h8, _⟩
          · omega
          cases h7
          rw [show (1 + L.length) = L.length + 1 by omega] at ho ⊢
          have hRb := (HRf.out.blk.gr G5.out).kp hg nR
          have rr := hRb.cell 0 (v := .slice p L.length c) rfl
          have fr := hRb.open_ 0
          have Hfin := Lib.hid (Hend.out ((⟨L.length + 1, h, b, true⟩ : Hr) :: L) w9 g cz hyl.out.symm hg ho)
          have b0 := (((HB5.out.kp hg nB).kp (show Kp (fun x => x = R) w9 (w9.setCell ⟨R, 0, none⟩ (.slice (some ⟨g, 0, none⟩) (L.length + 1) cz)) from Kp.set (C := fun x => x = R) rfl) (show ¬ B = R by omega))).cell 0 (v := .int .i64 (L.length + 1)) rfl
          clear hcj r0 fR q0 q1 q2 q3 q4 q5 q6 q7 q8 q9 ho Hend
          go_upto_region 8 with fail
          generalize w9.setCell ⟨R, 0, none⟩ (.slice (some ⟨g, 0, none⟩) (L.length + 1) cz) = wZ at *
          go_wp2_with fail
          exact Hfin.out
      | false =>
        have hyl : Hid ((if false = true then (⟨L.length + 1, h, b, true⟩ : Hr) :: L else L ++ [⟨L.length + 1, h, b, true⟩]) = L ++ [⟨L.length + 1, h, b, true⟩]) := rfl
        go_upto_region 7 with fail
        refine wp_region_relyA 9 [fx (.pointer (some ⟨R, 0, none⟩)), fx (.pointer (some ⟨R, 0, none⟩)), fx (.pointer (some ⟨R, 0, none⟩)), fx (.pointer (some ⟨R, 0, none⟩)), fx (.slice p L.length c), slAny, fx (.agg #[.int .i64 (L.length + 1), .int .i64 h.k, .int .i64 h.n, .string h.s, .slice h.p h.l.length h.c, .int .i64 b.k, .int .i64 b.n, .string b.s, .slice b.p b.l.length b.c, .bool true]), slOne1, slAny]
          (Kp (fun x => w5.heap.size ≤ x)) (ChainJ 51 5 43 7 45 8 46 (ownHr w5.heap.size L.length (L.flatMap Hr.cells)) (oneHr w5.heap.size (⟨L.length + 1, h, b, true⟩ : Hr)) (ownHr w5.heap.size (L.length + 1) (L.flatMap Hr.cells ++ (⟨L.length + 1, h, b, true⟩ : Hr).cells))) (by kernel_rfl) (by kernel_rfl) (by decide) (by kernel_rfl) (fun _ _ h => Kp.of_gr h) (fun _ _ _ h k => Kp.trans h k) (fun w _ => ChainJ.start _ _ w rfl) (by repeat (first | exact StableR.nil | refine StableR.fix ?_ | refine StableR.cons slAny_stable ?_ | refine StableR.cons slOne1_stable ?_)) ?_ ?_
        · refine ⟨stepA_plain (fun _ _ h => Kp.of_gr h) (fun listed a w w' v h hg => ChainJ.other ownHr_stable oneHr_stable ownHr_stable rfl listed a w w' v h hg) ?_, stepA_plain (fun _ _ h => Kp.of_gr h) (fun listed a w w' v h hg => ChainJ.other ownHr_stable oneHr_stable ownHr_stable rfl listed a w w' v h hg) ?_, stepA_plain (fun _ _ h => Kp.of_gr h) (fun listed a w w' v h hg => ChainJ.other ownHr_stable oneHr_stable ownHr_stable rfl listed a w w' v h hg) ?_, stepA_plain (fun _ _ h => Kp.of_gr h) (fun listed a w w' v h hg => ChainJ.other ownHr_stable oneHr_stable ownHr_stable rfl listed a w w' v h hg) ?_, stepA_plain (fun _ _ h => Kp.of_gr h) (fun listed a w w' v h hg => ChainJ.other ownHr_stable oneHr_stable ownHr_stable rfl listed a w w' v h hg) ?_, ?a5, stepA_plain (fun _ _ h => Kp.of_gr h) (fun listed a w w' v h hg => ChainJ.other ownHr_stable oneHr_stable ownHr_stable rfl listed a w w' v h hg) ?_, ?a7, ?a8, trivial⟩
          case a5 =>
            intro listed fr ww hj hl hpre hg hdef hold
            have h0 : fr.tmps[0]?.getD undef = .pointer (some ⟨R, 0, none⟩) := hold 0 rfl
            have h10 : fr.tmps[10]?.getD undef = .pointer (some ⟨B, 0, none⟩) := hold 10 rfl
            have y0 := Kp.cell hg r0 nR
            have x0 := Kp.cell hg q0 nB
            have x1 := Kp.cell hg q1 nB
            have x2 := Kp.cell hg q2 nB
            have x3 := Kp.cell hg q3 nB
            have x4 := Kp.cell hg q4 nB
            have x5 := Kp.cell hg q5 nB
            have x6 := Kp.cell hg q6 nB
            have x7 := Kp.cell hg q7 nB
            have x8 := Kp.cell hg q8 nB
            have x9 := Kp.cell hg q9 nB
            have Hg := Lib.hid hg
            clear hold r0 q0 q1 q2 q3 q4 q5 q6 q7 q8 q9
            clear hdef
            simp only [predsImp]
            intro v1 e1 p1 K hK
            replace p1 : v1 = .slice p L.length c := p1
            subst p1
            obtain ⟨v5, w6, hr5, ho5, hg5, hk5⟩ := append_hrs ww w5.heap.size (.slice none 0 0) 0 [] p c L ((HRf.out.sl.gr G5.out).kp Hg.out (fun x hx h9 => by have := HSw.out x hx; have := G5.out.size; omega)) (World.ownsRow_nil _ _ _ 10) Hg.out.size (by omega)
            rw [Nat.zero_add, List.nil_append] at ho5
            obtain ⟨qv, cv, rfl, _⟩ := row_form ho5
            have g6 : Gr ww w6 := grownBy_below hg5 (Nat.le_refl _) (fun j hj => by cases hj)
            exact wp_append_run ww _ _ _ _ rfl _ _ rfl (by simp [Act.eval, e1]) _ w6 hr5 (hK _ _ ⟨_, _, _, rfl⟩ (Kp.of_gr g6) (ChainJ.first oneHr_stable hj hl (by decide) (by decide) (by decide) (by decide) (by decide) g6 ho5))
          case a7 =>
            intro listed fr ww hj hl hpre hg hdef hold
            have h0 : fr.tmps[0]?.getD undef = .pointer (some ⟨R, 0, none⟩) := hold 0 rfl
            have h10 : fr.tmps[10]?.getD undef = .pointer (some ⟨B, 0, none⟩) := hold 10 rfl
            have y0 := Kp.cell hg r0 nR
            have x0 := Kp.cell hg q0 nB
            have x1 := Kp.cell hg q1 nB
            have x2 := Kp.cell hg q2 nB
            have x3 := Kp.cell hg q3 nB
            have x4 := Kp.cell hg q4 nB
            have x5 := Kp.cell hg q5 nB
            have x6 := Kp.cell hg q6 nB
            have x7 := Kp.cell hg q7 nB
            have x8 := Kp.cell hg q8 nB
            have x9 := Kp.cell hg q9 nB
            have Hg := Lib.hid hg
            clear hold r0 q0 q1 q2 q3 q4 q5 q6 q7 q8 q9
            clear hdef
            simp only [predsImp]
            intro v1 e1 p1 K hK
            replace p1 : v1 = .agg #[.int .i64 (L.length + 1), .int .i64 h.k, .int .i64 h.n, .string h.s, .slice h.p h.l.length h.c, .int .i64 b.k, .int .i64 b.n, .string b.s, .slice b.p b.l.length b.c, .bool true] := p1
            subst p1
            go_simp
            exact hK _ _ ⟨_, rfl⟩ (Kp.of_gr (by go_grown)) (ChainJ.second ownHr_stable hj hl (by decide) (by decide) (by decide) (by decide) (by decide) (by go_grown) ⟨ww.heap.size, rfl, Hg.out.size, BlkT.new _ _ _⟩)
          case a8 =>
            intro listed fr ww hj hl hpre hg hdef hold
            have h0 : fr.tmps[0]?.getD undef = .pointer (some ⟨R, 0, none⟩) := hold 0 rfl
            have h10 : fr.tmps[10]?.getD undef = .pointer (some ⟨B, 0, none⟩) := hold 10 rfl
            have y0 := Kp.cell hg r0 nR
            have x0 := Kp.cell hg q0 nB
            have x1 := Kp.cell hg q1 nB
            have x2 := Kp.cell hg q2 nB
            have x3 := Kp.cell hg q3 nB
            have x4 := Kp.cell hg q4 nB
            have x5 := Kp.cell hg q5 nB
            have x6 := Kp.cell hg q6 nB
            have x7 := Kp.cell hg q7 nB
            have x8 := Kp.cell hg q8 nB
            have x9 := Kp.cell hg q9 nB
            have Hg := Lib.hid hg
            clear hold r0 q0 q1 q2 q3 q4 q5 q6 q7 q8 q9
            clear hdef
            simp only [predsImp]
            intro v1 e1 p1 v2 e2 p2 v3 e3 p3 K hK
            clear e3 p3
            have h5 := hpre ⟨5, Ground.data⟩ (by simp) rfl
            have h7 := hpre ⟨7, Ground.data⟩ (by simp) rfl
            have hx := hj.x1 h5 (getD_tf hl)
            have hy := hj.x2 h7 (getD_tf hl)
            rw [e1] at hx
            rw [e2] at hy
            obtain ⟨v5, w6, hr5, ho5, hg5, hk5⟩ := append_oneHr ww w5.heap.size v1 L.length _ _ v2 hy hx Hg.out.size (by omega)
            obtain ⟨qv, cv, rfl, _⟩ := row_form ho5
            exact wp_append_run ww _ _ _ _ rfl _ _ (by simp [Act.eval, e1]) (by simp [Act.eval, e2]) _ w6 hr5 (hK _ _ ⟨_, _, _, rfl⟩ (Kp.of_grown hg5 fun x hx2 => (World.ownsRow.lt hx x hx2).1) (ChainJ.last hj hl h5 h7 (by decide) (by decide) (by decide) ho5))
          all_goals
            intro fr ww hg hold
            have h0 : fr.tmps[0]?.getD undef = .pointer (some ⟨R, 0, none⟩) := hold 0 rfl
            have h10 : fr.tmps[10]?.getD undef = .pointer (some ⟨B, 0, none⟩) := hold 10 rfl
            have y0 := Kp.cell hg r0 nR
            have x0 := Kp.cell hg q0 nB
            have x1 := Kp.cell hg q1 nB
            have x2 := Kp.cell hg q2 nB
            have x3 := Kp.cell hg q3 nB
            have x4 := Kp.cell hg q4 nB
            have x5 := Kp.cell hg q5 nB
            have x6 := Kp.cell hg q6 nB
            have x7 := Kp.cell hg q7 nB
            have x8 := Kp.cell hg q8 nB
            have x9 := Kp.cell hg q9 nB
            have Hg := Lib.hid hg
            clear hold r0 q0 q1 q2 q3 q4 q5 q6 q7 q8 q9
            simp [predsImp, Region.binds, dstAt, fx]
            intros
            rename_i K hK
            go_simp
          all_goals exact hK _ _ rfl (Gr.rfl' _)
        · intro w9 hg
          rintro _ rfl _ rfl _ rfl _ rfl _ rfl _ ⟨_, _, _, rfl⟩ _ rfl _ ⟨_, rfl⟩ _ ⟨pz, nz, cz, rfl⟩ hcj
          simp only [Act.put, List.setIfInBounds_toArray, List.set_cons_succ, List.set_cons_zero, List.drop_succ_cons, List.drop_zero] at hcj ⊢
          have ho : ownHr w5.heap.size (L.length + 1) (L.flatMap Hr.cells ++ (⟨L.length + 1, h, b, true⟩ : Hr).cells) (.slice pz nz cz) w9 := hcj.end_ (by show 8 < 9; omega)
          rcases ho.2 with ⟨h7, h8⟩ | ⟨g, cap, cur, h7, h8, _⟩
          · omega
          cases h7
          have hRb := (HRf.out.blk.gr G5.out).kp hg nR
          have rr := hRb.cell 0 (v := .slice p L.length c) rfl
          have fr := hRb.open_ 0
          have Hfin := Lib.hid (Hend.out (L ++ [(⟨L.length + 1, h, b, true⟩ : Hr)]) w9 g cz hyl.out.symm hg (by rw [List.flatMap_append, List.flatMap_cons, List.flatMap_nil, List.append_nil]; exact ho))
          have b0 := (((HB5.out.kp hg nB).kp (show Kp (fun x => x = R) w9 (w9.setCell ⟨R, 0, none⟩ (.slice (some ⟨g, 0, none⟩) (L.length + 1) cz)) from Kp.set (C := fun x => x = R) rfl) (show ¬ B = R by omega))).cell 0 (v := .int .i64 (L.length + 1)) rfl
          clear hcj r0 fR q0 q1 q2 q3 q4 q5 q6 q7 q8 q9 ho Hend
          go_upto_region 8 with fail
          generalize w9.setCell ⟨R, 0, none⟩ (.slice (some ⟨g, 0, none⟩) (L.length + 1) cz) = wZ at *
          go_wp2_with fail
          exact Hfin.out
end Go.Proofs.YtjdoflfdlhpbmaaDoor
