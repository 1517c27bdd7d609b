/-
  hornkeep.GrammarMemory: the walk
-/
import Derived.Test.YteonakicoomjkaaGM28
namespace Go.Proofs.Yteonakicoomjkaa
open Go.RowKit Go.Lib

def ownTV (S : Nat → Prop) (u : T) : VP := fun v w => ∃ x : Tm, v = x.val ∧ x.In w ∧ x.erase = u ∧ x.Roomy w ∧ x.On S
theorem ownTV_stable {S : Nat → Prop} {u : T} : ∀ v w w', ownTV S u v w → Gr w w' → ownTV S u v w' := fun _ _ _ ⟨x, h1, h2, h3, h4, h5⟩ hg => ⟨x, h1, Tm.In_below hg h2, h3, h4.gr h2 hg, h5⟩
def zblkV (B0 : Nat) : VP := fun v w => ∃ B, v = .pointer (some ⟨B, 0, none⟩) ∧ B0 ≤ B ∧ Blk4 w B (.int .i64 0) (.int .i64 0) (.string ⟨#[]⟩) (.slice none 0 0)
theorem zblkV_stable {B0 : Nat} : ∀ v w w', zblkV B0 v w → Gr w w' → zblkV B0 v w' := fun _ _ _ ⟨B, h1, h2, h3⟩ hg => ⟨B, h1, h2, h3.gr hg⟩

/-- What has spare room does not lie on a block of four cells. -/
theorem roomy_wide {w : World} : ∀ t : Tm, t.Roomy w → t.On (fun b => ∃ j u, 4 ≤ j ∧ w.cell? ⟨b, j, none⟩ = some u) := by
  intro t
  induction hN : SizeOf.sizeOf t using Nat.strongRecOn generalizing t with
  | _ N ih =>
    obtain ⟨k, n, s, p, c, l⟩ := t
    intro h
    rw [Tm.Roomy] at h
    rw [Tm.On]
    refine ⟨?_, Tm.OnL_of fun x hx => ih _ (by rw [← hN]; exact Tm.sizeOf_mem hx k n s p c) x rfl (Tm.RoomyL_mem h.2 x hx)⟩
    rcases h.1 with h1 | ⟨b, hp, hc, hm⟩
    · exact .inl h1
    · exact .inr ⟨b, 0, hp, l.length * 4 + 11, .slice none 0 0, by omega, (hm 11 (by omega)).trans rfl⟩
theorem blk4_wide {w : World} {b : Nat} {v0 v1 v2 v3 : Value} (h : Blk4 w b v0 v1 v2 v3) : ¬ ∃ j u, 4 ≤ j ∧ w.cell? ⟨b, j, none⟩ = some u := by
  rintro ⟨j, u, hj, hu⟩
  rw [cell_of_row w b j _ _ _ h] at hu
  have := (Array.getElem?_eq_some_iff.1 hu).1
  simp at this
  omega

theorem roomy_kp {t : Tm} {C S : Nat → Prop} {w w' : World} (hr : t.Roomy w) (hi : t.In w) (hon : t.On S) (hS : ∀ b, S b → ¬ C b) (hk : Kp C w w') : t.Roomy w' :=
  Tm.Roomy.same (S := fun b => S b ∧ b < w.heap.size) (fun b hb _ => World.cell?_of_block (hk.block b hb.2 (hS b hb.1))) (Tm.On.and hon hi.on) hr
theorem four_stores {w : World} {B0 B1 B2 B3 : Nat} {y0 y1 y2 y3 : Value} (h0 : Blk4 w B0 y0 y1 y2 y3) (h1 : Blk4 w B1 y0 y1 y2 y3) (h2 : Blk4 w B2 y0 y1 y2 y3) (h3 : Blk4 w B3 y0 y1 y2 y3) (e01 : B0 ≠ B1) (e02 : B0 ≠ B2) (e03 : B0 ≠ B3) (e12 : B1 ≠ B2) (e13 : B1 ≠ B3) (e23 : B2 ≠ B3)
    (a0 a1 a2 a3 b0 b1 b2 b3 c0 c1 c2 c3 d0 d1 d2 d3 : Value) (W : World)
    (hW : W = ((((((((((((((((w.setCell ⟨B0, 0, none⟩ a0).setCell ⟨B0, 1, none⟩ a1).setCell ⟨B0, 2, none⟩ a2).setCell ⟨B0, 3, none⟩ a3).setCell ⟨B1, 0, none⟩ b0).setCell ⟨B1, 1, none⟩ b1).setCell ⟨B1, 2, none⟩ b2).setCell ⟨B1, 3, none⟩ b3).setCell ⟨B2, 0, none⟩ c0).setCell ⟨B2, 1, none⟩ c1).setCell ⟨B2, 2, none⟩ c2).setCell ⟨B2, 3, none⟩ c3).setCell ⟨B3, 0, none⟩ d0).setCell ⟨B3, 1, none⟩ d1).setCell ⟨B3, 2, none⟩ d2).setCell ⟨B3, 3, none⟩ d3)) : Blk4 W B0 a0 a1 a2 a3 ∧ Blk4 W B1 b0 b1 b2 b3 ∧ Blk4 W B2 c0 c1 c2 c3 ∧ Blk4 W B3 d0 d1 d2 d3 ∧ Kp (fun b => b = B0 ∨ b = B1 ∨ b = B2 ∨ b = B3) w W := by
  have s0 := h0.set4 a0 a1 a2 a3
  have q0 : Kp (· = B0) w _ := Kp.set4 (W := w) (R := B0) (o1 := 0) (o2 := 1) (o3 := 2) (o4 := 3) (a := a0) (b := a1) (c := a2) (e := a3) rfl
  generalize ((((w.setCell ⟨B0, 0, none⟩ a0).setCell ⟨B0, 1, none⟩ a1).setCell ⟨B0, 2, none⟩ a2).setCell ⟨B0, 3, none⟩ a3) = u0 at *
  have s1 := (h1.kp q0 (Ne.symm e01)).set4 b0 b1 b2 b3
  have q1 : Kp (· = B1) u0 _ := Kp.set4 (W := u0) (R := B1) (o1 := 0) (o2 := 1) (o3 := 2) (o4 := 3) (a := b0) (b := b1) (c := b2) (e := b3) rfl
  generalize ((((u0.setCell ⟨B1, 0, none⟩ b0).setCell ⟨B1, 1, none⟩ b1).setCell ⟨B1, 2, none⟩ b2).setCell ⟨B1, 3, none⟩ b3) = u1 at *
  have s2 := ((h2.kp q0 (Ne.symm e02)).kp q1 (Ne.symm e12)).set4 c0 c1 c2 c3
  have q2 : Kp (· = B2) u1 _ := Kp.set4 (W := u1) (R := B2) (o1 := 0) (o2 := 1) (o3 := 2) (o4 := 3) (a := c0) (b := c1) (c := c2) (e := c3) rfl
  generalize ((((u1.setCell ⟨B2, 0, none⟩ c0).setCell ⟨B2, 1, none⟩ c1).setCell ⟨B2, 2, none⟩ c2).setCell ⟨B2, 3, none⟩ c3) = u2 at *
  have s3 := (((h3.kp q0 (Ne.symm e03)).kp q1 (Ne.symm e13)).kp q2 (Ne.symm e23)).set4 d0 d1 d2 d3
  have q3 : Kp (· = B3) u2 _ := Kp.set4 (W := u2) (R := B3) (o1 := 0) (o2 := 1) (o3 := 2) (o4 := 3) (a := d0) (b := d1) (c := d2) (e := d3) rfl
  subst hW
  exact ⟨((s0.kp q1 e01).kp q2 e02).kp q3 e03, (s1.kp q2 e12).kp q3 e13, s2.kp q3 e23, s3,
    (((q0.mono fun b h => .inl h).trans (q1.mono fun b h => .inr (.inl h))).trans (q2.mono fun b h => .inr (.inr (.inl h)))).trans (q3.mono fun b h => .inr (.inr (.inr h)))⟩

set_option maxHeartbeats 8000000 in
set_option maxRecDepth 100000 in
theorem grammarMemory_walk (t0 t1 t2 t3 : Tm) (w : World) (i0 : t0.In w) (i1 : t1.In w) (i2 : t2.In w) (i3 : t3.In w) (z0 : t0.erase.size ≤ 1048576) (z1 : t1.erase.size ≤ 1048576) :
    Calls Try.prog 4 #[t0.val, t1.val, t2.val, t3.val] w (Ret (.bool true) w) := by
  have hmf : ∀ (fn : Fn) (first cap : Array Value) (w : World), (Instr.makeFunc fn first cap).run Try.prog w = .ok (.func fn first cap) w := fun _ _ _ _ => rfl
  have hR : Hid (∀ b, true = b → ∀ w', Gr w w' → Ret (.bool true) w (.returned (.bool b)) w') := fun b hb w' hg => ⟨by rw [hb], hg⟩
  generalize hQ : Ret (.bool true) w = Q at hR ⊢
  have HZ := Lib.hid (And.intro z0 z1)
  clear hQ z0 z1
  have HI0 := Lib.hid i0
  have HV0 := Lib.hid (show t0.val = .agg #[.int .i64 t0.k, .int .i64 t0.n, .string t0.s, .slice t0.p t0.l.length t0.c] from rfl)
  have HI1 := Lib.hid i1
  have HV1 := Lib.hid (show t1.val = .agg #[.int .i64 t1.k, .int .i64 t1.n, .string t1.s, .slice t1.p t1.l.length t1.c] from rfl)
  have HI2 := Lib.hid i2
  have HV2 := Lib.hid (show t2.val = .agg #[.int .i64 t2.k, .int .i64 t2.n, .string t2.s, .slice t2.p t2.l.length t2.c] from rfl)
  have HI3 := Lib.hid i3
  have HV3 := Lib.hid (show t3.val = .agg #[.int .i64 t3.k, .int .i64 t3.n, .string t3.s, .slice t3.p t3.l.length t3.c] from rfl)
  clear i0 i1 i2 i3
  rw [HV0.out, HV1.out, HV2.out, HV3.out]
  go_enter Try.func4, Try.ntmps4
  try simp only [List.append_eq, List.cons_append, List.nil_append]
  go_upto_region 1 with fail
  obtain ⟨HT0, HT1, HT2, HT3, gw⟩ := four_blocks w (.int .i64 t0.k) (.int .i64 t0.n) (.string t0.s) (.slice t0.p t0.l.length t0.c) (.int .i64 t1.k) (.int .i64 t1.n) (.string t1.s) (.slice t1.p t1.l.length t1.c) (.int .i64 t2.k) (.int .i64 t2.n) (.string t2.s) (.slice t2.p t2.l.length t2.c) (.int .i64 t3.k) (.int .i64 t3.n) (.string t3.s) (.slice t3.p t3.l.length t3.c) _ rfl
  generalize ((((w.alloc (.cells #[.int .i64 t0.k, .int .i64 t0.n, .string t0.s, .slice t0.p t0.l.length t0.c] 24)).alloc (.cells #[.int .i64 t1.k, .int .i64 t1.n, .string t1.s, .slice t1.p t1.l.length t1.c] 24)).alloc (.cells #[.int .i64 t2.k, .int .i64 t2.n, .string t2.s, .slice t2.p t2.l.length t2.c] 24)).alloc (.cells #[.int .i64 t3.k, .int .i64 t3.n, .string t3.s, .slice t3.p t3.l.length t3.c] 24)) = wA at *
  have hBl := Lib.hid (show w.heap.size + 1 + 1 + 1 < wA.heap.size from HT3.out.parts.2.2)
  replace HI0 := Lib.hid (Tm.In_below gw HI0.out)
  replace HI1 := Lib.hid (Tm.In_below gw HI1.out)
  replace HI2 := Lib.hid (Tm.In_below gw HI2.out)
  replace HI3 := Lib.hid (Tm.In_below gw HI3.out)
  go_upto_region 3 with (first
    | (go_at_call 20; refine (thereGrammar_calls _).mono ?_; rintro e w1 ⟨rfl, hb⟩; replace hb : Gr wA w1 := hb; have hsz1 := hb.size; replace gw := gw.trans hb; replace HT0 := Lib.hid (HT0.out.gr hb); replace HI0 := Lib.hid (Tm.In_below hb HI0.out); replace HT1 := Lib.hid (HT1.out.gr hb); replace HI1 := Lib.hid (Tm.In_below hb HI1.out); replace HT2 := Lib.hid (HT2.out.gr hb); replace HI2 := Lib.hid (Tm.In_below hb HI2.out); replace HT3 := Lib.hid (HT3.out.gr hb); replace HI3 := Lib.hid (Tm.In_below hb HI3.out); clear hb)
    | fail)
  have hBl1 := Lib.hid (Nat.lt_of_lt_of_le hBl.out hsz1)
  clear hsz1
  obtain ⟨⟨a0, b0, c0, d0⟩, _, _⟩ := HT0.out.parts
  obtain ⟨⟨a1, b1, c1, d1⟩, _, _⟩ := HT1.out.parts
  obtain ⟨⟨a2, b2, c2, d2⟩, _, _⟩ := HT2.out.parts
  obtain ⟨⟨a3, b3, c3, d3⟩, _, _⟩ := HT3.out.parts
  refine wp_region_relyA 12 [fx (.agg #[.int .i64 t0.k, .int .i64 t0.n, .string t0.s, .slice t0.p t0.l.length t0.c]), ownTV (w1.heap.size ≤ ·) t0.erase, fx (.agg #[.int .i64 t1.k, .int .i64 t1.n, .string t1.s, .slice t1.p t1.l.length t1.c]), ownTV (w1.heap.size ≤ ·) t1.erase, fx (.agg #[.int .i64 t2.k, .int .i64 t2.n, .string t2.s, .slice t2.p t2.l.length t2.c]), ownTV (w1.heap.size ≤ ·) t2.erase, fx (.agg #[.int .i64 t3.k, .int .i64 t3.n, .string t3.s, .slice t3.p t3.l.length t3.c]), ownTV (w1.heap.size ≤ ·) t3.erase, zblkV w1.heap.size, zblkV w1.heap.size, zblkV w1.heap.size, zblkV w1.heap.size]
    Gr (Apart [(8, 9), (9, 10), (10, 11), (11, 12)]) (by kernel_rfl) (by kernel_rfl) (by decide) (by kernel_rfl) (fun _ _ h => h) (fun _ _ _ h k => Gr.trans h k) (fun w _ => Apart.start _ _ _ w) (by repeat (first | exact StableR.nil | refine StableR.fix ?_ | refine StableR.cons ownTV_stable ?_ | refine StableR.cons zblkV_stable ?_)) ?_ ?_
  · refine ⟨stepA_plain (fun _ _ h => h) (fun listed a w w' v h hg => Apart.other rfl listed a w w' v h hg) ?_, stepA_plain (fun _ _ h => h) (fun listed a w w' v h hg => Apart.other rfl listed a w w' v h hg) ?b1, stepA_plain (fun _ _ h => h) (fun listed a w w' v h hg => Apart.other rfl listed a w w' v h hg) ?_, stepA_plain (fun _ _ h => h) (fun listed a w w' v h hg => Apart.other rfl listed a w w' v h hg) ?b3, stepA_plain (fun _ _ h => h) (fun listed a w w' v h hg => Apart.other rfl listed a w w' v h hg) ?_, stepA_plain (fun _ _ h => h) (fun listed a w w' v h hg => Apart.other rfl listed a w w' v h hg) ?b5, stepA_plain (fun _ _ h => h) (fun listed a w w' v h hg => Apart.other rfl listed a w w' v h hg) ?_, stepA_plain (fun _ _ h => h) (fun listed a w w' v h hg => Apart.other rfl listed a w w' v h hg) ?b7, ?a8, ?a9, ?a10, ?a11, trivial⟩
    case a8 =>
      intro listed fr wr hj hl hpre hg hdef hold
      have h4 : fr.tmps[4]?.getD undef = .pointer (some ⟨w.heap.size, 0, none⟩) := hold 4 rfl
      have h5 : fr.tmps[5]?.getD undef = .pointer (some ⟨w.heap.size + 1, 0, none⟩) := hold 5 rfl
      have h6 : fr.tmps[6]?.getD undef = .pointer (some ⟨w.heap.size + 1 + 1, 0, none⟩) := hold 6 rfl
      have h7 : fr.tmps[7]?.getD undef = .pointer (some ⟨w.heap.size + 1 + 1 + 1, 0, none⟩) := hold 7 rfl
      have a0' := Gr.at hg a0
      have b0' := Gr.at hg b0
      have c0' := Gr.at hg c0
      have d0' := Gr.at hg d0
      have a1' := Gr.at hg a1
      have b1' := Gr.at hg b1
      have c1' := Gr.at hg c1
      have d1' := Gr.at hg d1
      have a2' := Gr.at hg a2
      have b2' := Gr.at hg b2
      have c2' := Gr.at hg c2
      have d2' := Gr.at hg d2
      have a3' := Gr.at hg a3
      have b3' := Gr.at hg b3
      have c3' := Gr.at hg c3
      have d3' := Gr.at hg d3
      have Hg := Lib.hid hg
      clear hold a0 b0 c0 d0 a1 b1 c1 d1 a2 b2 c2 d2 a3 b3 c3 d3
      clear hdef
      simp only [predsImp]
      intro K hK
      go_simp
      exact hK _ _ ⟨wr.heap.size, rfl, hg.size, Blk4.new _ _ _ _ _⟩ (by go_grown) (Apart.new rfl hj (by go_grown) (Nat.le_refl _) (by simp))
    case a9 =>
      intro listed fr wr hj hl hpre hg hdef hold
      have h4 : fr.tmps[4]?.getD undef = .pointer (some ⟨w.heap.size, 0, none⟩) := hold 4 rfl
      have h5 : fr.tmps[5]?.getD undef = .pointer (some ⟨w.heap.size + 1, 0, none⟩) := hold 5 rfl
      have h6 : fr.tmps[6]?.getD undef = .pointer (some ⟨w.heap.size + 1 + 1, 0, none⟩) := hold 6 rfl
      have h7 : fr.tmps[7]?.getD undef = .pointer (some ⟨w.heap.size + 1 + 1 + 1, 0, none⟩) := hold 7 rfl
      have a0' := Gr.at hg a0
      have b0' := Gr.at hg b0
      have c0' := Gr.at hg c0
      have d0' := Gr.at hg d0
      have a1' := Gr.at hg a1
      have b1' := Gr.at hg b1
      have c1' := Gr.at hg c1
      have d1' := Gr.at hg d1
      have a2' := Gr.at hg a2
      have b2' := Gr.at hg b2
      have c2' := Gr.at hg c2
      have d2' := Gr.at hg d2
      have a3' := Gr.at hg a3
      have b3' := Gr.at hg b3
      have c3' := Gr.at hg c3
      have d3' := Gr.at hg d3
      have Hg := Lib.hid hg
      clear hold a0 b0 c0 d0 a1 b1 c1 d1 a2 b2 c2 d2 a3 b3 c3 d3
      clear hdef
      simp only [predsImp]
      intro K hK
      go_simp
      exact hK _ _ ⟨wr.heap.size, rfl, hg.size, Blk4.new _ _ _ _ _⟩ (by go_grown) (Apart.new rfl hj (by go_grown) (Nat.le_refl _) (by simp))
    case a10 =>
      intro listed fr wr hj hl hpre hg hdef hold
      have h4 : fr.tmps[4]?.getD undef = .pointer (some ⟨w.heap.size, 0, none⟩) := hold 4 rfl
      have h5 : fr.tmps[5]?.getD undef = .pointer (some ⟨w.heap.size + 1, 0, none⟩) := hold 5 rfl
      have h6 : fr.tmps[6]?.getD undef = .pointer (some ⟨w.heap.size + 1 + 1, 0, none⟩) := hold 6 rfl
      have h7 : fr.tmps[7]?.getD undef = .pointer (some ⟨w.heap.size + 1 + 1 + 1, 0, none⟩) := hold 7 rfl
      have a0' := Gr.at hg a0
      have b0' := Gr.at hg b0
      have c0' := Gr.at hg c0
      have d0' := Gr.at hg d0
      have a1' := Gr.at hg a1
      have b1' := Gr.at hg b1
      have c1' := Gr.at hg c1
      have d1' := Gr.at hg d1
      have a2' := Gr.at hg a2
      have b2' := Gr.at hg b2
      have c2' := Gr.at hg c2
      have d2' := Gr.at hg d2
      have a3' := Gr.at hg a3
      have b3' := Gr.at hg b3
      have c3' := Gr.at hg c3
      have d3' := Gr.at hg d3
      have Hg := Lib.hid hg
      clear hold a0 b0 c0 d0 a1 b1 c1 d1 a2 b2 c2 d2 a3 b3 c3 d3
      clear hdef
      simp only [predsImp]
      intro K hK
      go_simp
      exact hK _ _ ⟨wr.heap.size, rfl, hg.size, Blk4.new _ _ _ _ _⟩ (by go_grown) (Apart.new rfl hj (by go_grown) (Nat.le_refl _) (by simp))
    case a11 =>
      intro listed fr wr hj hl hpre hg hdef hold
      have h4 : fr.tmps[4]?.getD undef = .pointer (some ⟨w.heap.size, 0, none⟩) := hold 4 rfl
      have h5 : fr.tmps[5]?.getD undef = .pointer (some ⟨w.heap.size + 1, 0, none⟩) := hold 5 rfl
      have h6 : fr.tmps[6]?.getD undef = .pointer (some ⟨w.heap.size + 1 + 1, 0, none⟩) := hold 6 rfl
      have h7 : fr.tmps[7]?.getD undef = .pointer (some ⟨w.heap.size + 1 + 1 + 1, 0, none⟩) := hold 7 rfl
      have a0' := Gr.at hg a0
      have b0' := Gr.at hg b0
      have c0' := Gr.at hg c0
      have d0' := Gr.at hg d0
      have a1' := Gr.at hg a1
      have b1' := Gr.at hg b1
      have c1' := Gr.at hg c1
      have d1' := Gr.at hg d1
      have a2' := Gr.at hg a2
      have b2' := Gr.at hg b2
      have c2' := Gr.at hg c2
      have d2' := Gr.at hg d2
      have a3' := Gr.at hg a3
      have b3' := Gr.at hg b3
      have c3' := Gr.at hg c3
      have d3' := Gr.at hg d3
      have Hg := Lib.hid hg
      clear hold a0 b0 c0 d0 a1 b1 c1 d1 a2 b2 c2 d2 a3 b3 c3 d3
      clear hdef
      simp only [predsImp]
      intro K hK
      go_simp
      exact hK _ _ ⟨wr.heap.size, rfl, hg.size, Blk4.new _ _ _ _ _⟩ (by go_grown) (Apart.new rfl hj (by go_grown) (Nat.le_refl _) (by simp))
    case b1 =>
      intro fr wr hg hold
      have h4 : fr.tmps[4]?.getD undef = .pointer (some ⟨w.heap.size, 0, none⟩) := hold 4 rfl
      have h5 : fr.tmps[5]?.getD undef = .pointer (some ⟨w.heap.size + 1, 0, none⟩) := hold 5 rfl
      have h6 : fr.tmps[6]?.getD undef = .pointer (some ⟨w.heap.size + 1 + 1, 0, none⟩) := hold 6 rfl
      have h7 : fr.tmps[7]?.getD undef = .pointer (some ⟨w.heap.size + 1 + 1 + 1, 0, none⟩) := hold 7 rfl
      have a0' := Gr.at hg a0
      have b0' := Gr.at hg b0
      have c0' := Gr.at hg c0
      have d0' := Gr.at hg d0
      have a1' := Gr.at hg a1
      have b1' := Gr.at hg b1
      have c1' := Gr.at hg c1
      have d1' := Gr.at hg d1
      have a2' := Gr.at hg a2
      have b2' := Gr.at hg b2
      have c2' := Gr.at hg c2
      have d2' := Gr.at hg d2
      have a3' := Gr.at hg a3
      have b3' := Gr.at hg b3
      have c3' := Gr.at hg c3
      have d3' := Gr.at hg d3
      have Hg := Lib.hid hg
      clear hold a0 b0 c0 d0 a1 b1 c1 d1 a2 b2 c2 d2 a3 b3 c3 d3
      simp [predsImp, Region.binds, dstAt, fx]
      intros
      rename_i K hK
      go_simp
      rewrite [← HV0.out]
      refine (own_calls (Tm.In_below Hg.out HI0.out)).mono ?_
      rintro e w10 ⟨x, rfl, ix, ex, ox, rx, hg2⟩
      exact hK _ _ ⟨x, rfl, ix, ex, rx, ox.mono fun b hb => Nat.le_trans Hg.out.size hb⟩ hg2
    case b3 =>
      intro fr wr hg hold
      have h4 : fr.tmps[4]?.getD undef = .pointer (some ⟨w.heap.size, 0, none⟩) := hold 4 rfl
      have h5 : fr.tmps[5]?.getD undef = .pointer (some ⟨w.heap.size + 1, 0, none⟩) := hold 5 rfl
      have h6 : fr.tmps[6]?.getD undef = .pointer (some ⟨w.heap.size + 1 + 1, 0, none⟩) := hold 6 rfl
      have h7 : fr.tmps[7]?.getD undef = .pointer (some ⟨w.heap.size + 1 + 1 + 1, 0, none⟩) := hold 7 rfl
      have a0' := Gr.at hg a0
      have b0' := Gr.at hg b0
      have c0' := Gr.at hg c0
      have d0' := Gr.at hg d0
      have a1' := Gr.at hg a1
      have b1' := Gr.at hg b1
      have c1' := Gr.at hg c1
      have d1' := Gr.at hg d1
      have a2' := Gr.at hg a2
      have b2' := Gr.at hg b2
      have c2' := Gr.at hg c2
      have d2' := Gr.at hg d2
      have a3' := Gr.at hg a3
      have b3' := Gr.at hg b3
      have c3' := Gr.at hg c3
      have d3' := Gr.at hg d3
      have Hg := Lib.hid hg
      clear hold a0 b0 c0 d0 a1 b1 c1 d1 a2 b2 c2 d2 a3 b3 c3 d3
      simp [predsImp, Region.binds, dstAt, fx]
      intros
      rename_i K hK
      go_simp
      rewrite [← HV1.out]
      refine (own_calls (Tm.In_below Hg.out HI1.out)).mono ?_
      rintro e w10 ⟨x, rfl, ix, ex, ox, rx, hg2⟩
      exact hK _ _ ⟨x, rfl, ix, ex, rx, ox.mono fun b hb => Nat.le_trans Hg.out.size hb⟩ hg2
    case b5 =>
      intro fr wr hg hold
      have h4 : fr.tmps[4]?.getD undef = .pointer (some ⟨w.heap.size, 0, none⟩) := hold 4 rfl
      have h5 : fr.tmps[5]?.getD undef = .pointer (some ⟨w.heap.size + 1, 0, none⟩) := hold 5 rfl
      have h6 : fr.tmps[6]?.getD undef = .pointer (some ⟨w.heap.size + 1 + 1, 0, none⟩) := hold 6 rfl
      have h7 : fr.tmps[7]?.getD undef = .pointer (some ⟨w.heap.size + 1 + 1 + 1, 0, none⟩) := hold 7 rfl
      have a0' := Gr.at hg a0
      have b0' := Gr.at hg b0
      have c0' := Gr.at hg c0
      have d0' := Gr.at hg d0
      have a1' := Gr.at hg a1
      have b1' := Gr.at hg b1
      have c1' := Gr.at hg c1
      have d1' := Gr.at hg d1
      have a2' := Gr.at hg a2
      have b2' := Gr.at hg b2
      have c2' := Gr.at hg c2
      have d2' := Gr.at hg d2
      have a3' := Gr.at hg a3
      have b3' := Gr.at hg b3
      have c3' := Gr.at hg c3
      have d3' := Gr.at hg d3
      have Hg := Lib.hid hg
      clear hold a0 b0 c0 d0 a1 b1 c1 d1 a2 b2 c2 d2 a3 b3 c3 d3
      simp [predsImp, Region.binds, dstAt, fx]
      intros
      rename_i K hK
      go_simp
      rewrite [← HV2.out]
      refine (own_calls (Tm.In_below Hg.out HI2.out)).mono ?_
      rintro e w10 ⟨x, rfl, ix, ex, ox, rx, hg2⟩
      exact hK _ _ ⟨x, rfl, ix, ex, rx, ox.mono fun b hb => Nat.le_trans Hg.out.size hb⟩ hg2
    case b7 =>
      intro fr wr hg hold
      have h4 : fr.tmps[4]?.getD undef = .pointer (some ⟨w.heap.size, 0, none⟩) := hold 4 rfl
      have h5 : fr.tmps[5]?.getD undef = .pointer (some ⟨w.heap.size + 1, 0, none⟩) := hold 5 rfl
      have h6 : fr.tmps[6]?.getD undef = .pointer (some ⟨w.heap.size + 1 + 1, 0, none⟩) := hold 6 rfl
      have h7 : fr.tmps[7]?.getD undef = .pointer (some ⟨w.heap.size + 1 + 1 + 1, 0, none⟩) := hold 7 rfl
      have a0' := Gr.at hg a0
      have b0' := Gr.at hg b0
      have c0' := Gr.at hg c0
      have d0' := Gr.at hg d0
      have a1' := Gr.at hg a1
      have b1' := Gr.at hg b1
      have c1' := Gr.at hg c1
      have d1' := Gr.at hg d1
      have a2' := Gr.at hg a2
      have b2' := Gr.at hg b2
      have c2' := Gr.at hg c2
      have d2' := Gr.at hg d2
      have a3' := Gr.at hg a3
      have b3' := Gr.at hg b3
      have c3' := Gr.at hg c3
      have d3' := Gr.at hg d3
      have Hg := Lib.hid hg
      clear hold a0 b0 c0 d0 a1 b1 c1 d1 a2 b2 c2 d2 a3 b3 c3 d3
      simp [predsImp, Region.binds, dstAt, fx]
      intros
      rename_i K hK
      go_simp
      rewrite [← HV3.out]
      refine (own_calls (Tm.In_below Hg.out HI3.out)).mono ?_
      rintro e w10 ⟨x, rfl, ix, ex, ox, rx, hg2⟩
      exact hK _ _ ⟨x, rfl, ix, ex, rx, ox.mono fun b hb => Nat.le_trans Hg.out.size hb⟩ hg2
    all_goals
      intro fr wr hg hold
      have h4 : fr.tmps[4]?.getD undef = .pointer (some ⟨w.heap.size, 0, none⟩) := hold 4 rfl
      have h5 : fr.tmps[5]?.getD undef = .pointer (some ⟨w.heap.size + 1, 0, none⟩) := hold 5 rfl
      have h6 : fr.tmps[6]?.getD undef = .pointer (some ⟨w.heap.size + 1 + 1, 0, none⟩) := hold 6 rfl
      have h7 : fr.tmps[7]?.getD undef = .pointer (some ⟨w.heap.size + 1 + 1 + 1, 0, none⟩) := hold 7 rfl
      have a0' := Gr.at hg a0
      have b0' := Gr.at hg b0
      have c0' := Gr.at hg c0
      have d0' := Gr.at hg d0
      have a1' := Gr.at hg a1
      have b1' := Gr.at hg b1
      have c1' := Gr.at hg c1
      have d1' := Gr.at hg d1
      have a2' := Gr.at hg a2
      have b2' := Gr.at hg b2
      have c2' := Gr.at hg c2
      have d2' := Gr.at hg d2
      have a3' := Gr.at hg a3
      have b3' := Gr.at hg b3
      have c3' := Gr.at hg c3
      have d3' := Gr.at hg d3
      have Hg := Lib.hid hg
      clear hold a0 b0 c0 d0 a1 b1 c1 d1 a2 b2 c2 d2 a3 b3 c3 d3
      simp [predsImp, fx]
      intros
      rename_i K hK
      go_simp
    all_goals exact hK _ _ rfl (Gr.rfl' _)
  · intro w9 hg
    rintro _ rfl _ ⟨x0, rfl, ix0, ex0, rx0, ox0⟩ _ rfl _ ⟨x1, rfl, ix1, ex1, rx1, ox1⟩ _ rfl _ ⟨x2, rfl, ix2, ex2, rx2, ox2⟩ _ rfl _ ⟨x3, rfl, ix3, ex3, rx3, ox3⟩ _ ⟨B0, rfl, hB0, k0⟩ _ ⟨B1, rfl, hB1, k1⟩ _ ⟨B2, rfl, hB2, k2⟩ _ ⟨B3, rfl, hB3, k3⟩ hap
    simp only [Act.put, List.setIfInBounds_toArray, List.set_cons_succ, List.set_cons_zero, List.drop_succ_cons, List.drop_zero] at hap ⊢
    have e01 : B0 ≠ B1 := hap.apart (x := (8, 9)) (y := (9, 10)) (by decide) (by decide) (by decide) (by show 8 < 12; omega) (by show 9 < 12; omega) rfl rfl
    have e02 : B0 ≠ B2 := hap.apart (x := (8, 9)) (y := (10, 11)) (by decide) (by decide) (by decide) (by show 8 < 12; omega) (by show 10 < 12; omega) rfl rfl
    have e03 : B0 ≠ B3 := hap.apart (x := (8, 9)) (y := (11, 12)) (by decide) (by decide) (by decide) (by show 8 < 12; omega) (by show 11 < 12; omega) rfl rfl
    have e12 : B1 ≠ B2 := hap.apart (x := (9, 10)) (y := (10, 11)) (by decide) (by decide) (by decide) (by show 9 < 12; omega) (by show 10 < 12; omega) rfl rfl
    have e13 : B1 ≠ B3 := hap.apart (x := (9, 10)) (y := (11, 12)) (by decide) (by decide) (by decide) (by show 9 < 12; omega) (by show 11 < 12; omega) rfl rfl
    have e23 : B2 ≠ B3 := hap.apart (x := (10, 11)) (y := (11, 12)) (by decide) (by decide) (by decide) (by show 10 < 12; omega) (by show 11 < 12; omega) rfl rfl
    clear hap a0 b0 c0 d0 a1 b1 c1 d1 a2 b2 c2 d2 a3 b3 c3 d3
    have gw9 : Gr w w9 := gw.trans hg
    have RW0 := Lib.hid (roomy_wide x0 rx0)
    have IX0 := Lib.hid ix0
    have EX0 := Lib.hid ex0
    have RX0 := Lib.hid rx0
    have VX0 := Lib.hid (show x0.val = .agg #[.int .i64 x0.k, .int .i64 x0.n, .string x0.s, .slice x0.p x0.l.length x0.c] from rfl)
    obtain ⟨⟨p0, q0, r0, s0⟩, ⟨f0, g0, h0, j0⟩, _⟩ := k0.parts
    have RW1 := Lib.hid (roomy_wide x1 rx1)
    have IX1 := Lib.hid ix1
    have EX1 := Lib.hid ex1
    have RX1 := Lib.hid rx1
    have VX1 := Lib.hid (show x1.val = .agg #[.int .i64 x1.k, .int .i64 x1.n, .string x1.s, .slice x1.p x1.l.length x1.c] from rfl)
    obtain ⟨⟨p1, q1, r1, s1⟩, ⟨f1, g1, h1, j1⟩, _⟩ := k1.parts
    have RW2 := Lib.hid (roomy_wide x2 rx2)
    have IX2 := Lib.hid ix2
    have EX2 := Lib.hid ex2
    have RX2 := Lib.hid rx2
    have VX2 := Lib.hid (show x2.val = .agg #[.int .i64 x2.k, .int .i64 x2.n, .string x2.s, .slice x2.p x2.l.length x2.c] from rfl)
    obtain ⟨⟨p2, q2, r2, s2⟩, ⟨f2, g2, h2, j2⟩, _⟩ := k2.parts
    have RW3 := Lib.hid (roomy_wide x3 rx3)
    have IX3 := Lib.hid ix3
    have EX3 := Lib.hid ex3
    have RX3 := Lib.hid rx3
    have VX3 := Lib.hid (show x3.val = .agg #[.int .i64 x3.k, .int .i64 x3.n, .string x3.s, .slice x3.p x3.l.length x3.c] from rfl)
    obtain ⟨⟨p3, q3, r3, s3⟩, ⟨f3, g3, h3, j3⟩, _⟩ := k3.parts
    clear ix0 ex0 rx0 ox0 ix1 ex1 rx1 ox1 ix2 ex2 rx2 ox2 ix3 ex3 rx3 ox3
    rw [VX0.out]
    rw [VX1.out]
    rw [VX2.out]
    rw [VX3.out]
    go_upto_region 4 with fail
    obtain ⟨K0, K1, K2, K3, hk⟩ := four_stores k0 k1 k2 k3 e01 e02 e03 e12 e13 e23 (.int .i64 x0.k) (.int .i64 x0.n) (.string x0.s) (.slice x0.p x0.l.length x0.c) (.int .i64 x1.k) (.int .i64 x1.n) (.string x1.s) (.slice x1.p x1.l.length x1.c) (.int .i64 x2.k) (.int .i64 x2.n) (.string x2.s) (.slice x2.p x2.l.length x2.c) (.int .i64 x3.k) (.int .i64 x3.n) (.string x3.s) (.slice x3.p x3.l.length x3.c) _ rfl
    have hkl : Hid (∀ b, (b = B0 ∨ b = B1 ∨ b = B2 ∨ b = B3) → w.heap.size ≤ b) := fun b hb => by have := gw.size; rcases hb with rfl | rfl | rfl | rfl <;> omega
    have hkw : Hid (∀ b, (∃ j u, 4 ≤ j ∧ w9.cell? ⟨b, j, none⟩ = some u) → ¬ (b = B0 ∨ b = B1 ∨ b = B2 ∨ b = B3)) := fun b hb h => h.elim (fun e => blk4_wide k0 (e ▸ hb)) fun h => h.elim (fun e => blk4_wide k1 (e ▸ hb)) fun h => h.elim (fun e => blk4_wide k2 (e ▸ hb)) fun e => blk4_wide k3 (e ▸ hb)
    generalize ((((((((((((((((w9.setCell ⟨B0, 0, none⟩ (.int .i64 x0.k)).setCell ⟨B0, 1, none⟩ (.int .i64 x0.n)).setCell ⟨B0, 2, none⟩ (.string x0.s)).setCell ⟨B0, 3, none⟩ (.slice x0.p x0.l.length x0.c)).setCell ⟨B1, 0, none⟩ (.int .i64 x1.k)).setCell ⟨B1, 1, none⟩ (.int .i64 x1.n)).setCell ⟨B1, 2, none⟩ (.string x1.s)).setCell ⟨B1, 3, none⟩ (.slice x1.p x1.l.length x1.c)).setCell ⟨B2, 0, none⟩ (.int .i64 x2.k)).setCell ⟨B2, 1, none⟩ (.int .i64 x2.n)).setCell ⟨B2, 2, none⟩ (.string x2.s)).setCell ⟨B2, 3, none⟩ (.slice x2.p x2.l.length x2.c)).setCell ⟨B3, 0, none⟩ (.int .i64 x3.k)).setCell ⟨B3, 1, none⟩ (.int .i64 x3.n)).setCell ⟨B3, 2, none⟩ (.string x3.s)).setCell ⟨B3, 3, none⟩ (.slice x3.p x3.l.length x3.c)) = wB at *
    clear p0 q0 r0 s0 f0 g0 h0 j0 p1 q1 r1 s1 f1 g1 h1 j1 p2 q2 r2 s2 f2 g2 h2 j2 p3 q3 r3 s3 f3 g3 h3 j3
    have gwB : Gr w wB := Below.trans gw9 (hk.below hkl.out gw9.size)
    replace RX0 := Lib.hid (roomy_kp RX0.out IX0.out RW0.out hkw.out hk)
    replace IX0 := Lib.hid (in_kp IX0.out RW0.out hkw.out hk)
    have HK0 := Lib.hid K0
    replace RX1 := Lib.hid (roomy_kp RX1.out IX1.out RW1.out hkw.out hk)
    replace IX1 := Lib.hid (in_kp IX1.out RW1.out hkw.out hk)
    have HK1 := Lib.hid K1
    replace RX2 := Lib.hid (roomy_kp RX2.out IX2.out RW2.out hkw.out hk)
    replace IX2 := Lib.hid (in_kp IX2.out RW2.out hkw.out hk)
    have HK2 := Lib.hid K2
    replace RX3 := Lib.hid (roomy_kp RX3.out IX3.out RW3.out hkw.out hk)
    replace IX3 := Lib.hid (in_kp IX3.out RW3.out hkw.out hk)
    have HK3 := Lib.hid K3
    replace HT0 := Lib.hid ((HT0.out.gr hg).kp hk (by rintro (h | h | h | h) <;> have := hBl1.out <;> omega))
    replace HI0 := Lib.hid (in_kp (Tm.In_below hg HI0.out) HI0.out.on (fun b hb h => by rcases h with rfl | rfl | rfl | rfl <;> (have : _ < w1.heap.size := hb; omega)) hk)
    replace HT1 := Lib.hid ((HT1.out.gr hg).kp hk (by rintro (h | h | h | h) <;> have := hBl1.out <;> omega))
    replace HI1 := Lib.hid (in_kp (Tm.In_below hg HI1.out) HI1.out.on (fun b hb h => by rcases h with rfl | rfl | rfl | rfl <;> (have : _ < w1.heap.size := hb; omega)) hk)
    replace HT2 := Lib.hid ((HT2.out.gr hg).kp hk (by rintro (h | h | h | h) <;> have := hBl1.out <;> omega))
    replace HI2 := Lib.hid (in_kp (Tm.In_below hg HI2.out) HI2.out.on (fun b hb h => by rcases h with rfl | rfl | rfl | rfl <;> (have : _ < w1.heap.size := hb; omega)) hk)
    replace HT3 := Lib.hid ((HT3.out.gr hg).kp hk (by rintro (h | h | h | h) <;> have := hBl1.out <;> omega))
    replace HI3 := Lib.hid (in_kp (Tm.In_below hg HI3.out) HI3.out.on (fun b hb h => by rcases h with rfl | rfl | rfl | rfl <;> (have : _ < w1.heap.size := hb; omega)) hk)
    have HW := Lib.hid gwB
    clear k0 k1 k2 k3 K0 K1 K2 K3 e01 e02 e03 e12 e13 e23 hk gw9 hg hB0 hB1 hB2 hB3 gwB
    have m1 : MakesNew (.func (.func 23) #[] #[.pointer (some ⟨B0, 0, none⟩)]) ((transO x0.erase).getD zeroT) wB := ⟨_, _, rfl, fun W => by kernel_rfl, fun W hW => gm1_calls x0 B0 W (Tm.In_below hW IX0.out) (HK0.out.gr hW) (by rw [EX0.out]; exact HZ.out.1)⟩
    have M1 := Lib.hid m1
    clear m1
    go_upto_region 5 with (first
      | (go_at_call 22; refine (twice_calls _ _ _ M1.out).mono ?_; rintro e wC ⟨rfl, hb⟩; have gBC : Gr wB wC := hb; clear hb)
      | fail)
    have m2 : MakesNew (.func (.func 25) #[] #[.pointer (some ⟨B1, 0, none⟩), .pointer (some ⟨B2, 0, none⟩), .pointer (some ⟨B3, 0, none⟩)]) ((phraseO x1.erase x2.erase x3.erase).getD zeroT) wC := ⟨_, _, rfl, fun W => by kernel_rfl, fun W hW => gm2_calls x1 x2 x3 B1 B2 B3 W (Tm.In_below (gBC.trans hW) IX1.out) (HK1.out.gr (gBC.trans hW)) (Tm.In_below (gBC.trans hW) IX2.out) (HK2.out.gr (gBC.trans hW)) (Tm.In_below (gBC.trans hW) IX3.out) (HK3.out.gr (gBC.trans hW)) (by rw [EX1.out]; exact HZ.out.2)⟩
    have M2 := Lib.hid m2
    clear m2
    go_upto_region 6 with (first
      | (go_at_call 22; refine (twice_calls _ _ _ M2.out).mono ?_; rintro e wD ⟨rfl, hb⟩; have gBD : Gr wB wD := gBC.trans hb; clear hb)
      | fail)
    have Mk0 : Hid True := trivial
    have Mk1 : Hid True := trivial
    have Mk2 : Hid True := trivial
    have Mk3 : Hid True := trivial
    have G := Lib.hid gBD
    clear gBD gBC
    obtain ⟨⟨p0, q0, r0, s0⟩, _, _⟩ := (HK0.out.gr G.out).parts; obtain ⟨⟨a0, b0, c0, d0⟩, _, _⟩ := (HT0.out.gr G.out).parts; obtain ⟨⟨p1, q1, r1, s1⟩, _, _⟩ := (HK1.out.gr G.out).parts; obtain ⟨⟨a1, b1, c1, d1⟩, _, _⟩ := (HT1.out.gr G.out).parts; obtain ⟨⟨p2, q2, r2, s2⟩, _, _⟩ := (HK2.out.gr G.out).parts; obtain ⟨⟨a2, b2, c2, d2⟩, _, _⟩ := (HT2.out.gr G.out).parts; obtain ⟨⟨p3, q3, r3, s3⟩, _, _⟩ := (HK3.out.gr G.out).parts; obtain ⟨⟨a3, b3, c3, d3⟩, _, _⟩ := (HT3.out.gr G.out).parts
    go_wp2_with (first
      | (go_at_call 27; clear Mk0; rewrite [← VX0.out, ← HV0.out]; refine (still_calls (Tm.In_below G.out IX0.out) (Tm.In_below G.out HI0.out) EX0.out (RX0.out.gr IX0.out G.out)).mono ?_; rintro e w20 ⟨rfl, hb⟩; replace G := Lib.hid (G.out.trans hb); clear hb p0 q0 r0 s0 a0 b0 c0 d0 p1 q1 r1 s1 a1 b1 c1 d1 p2 q2 r2 s2 a2 b2 c2 d2 p3 q3 r3 s3 a3 b3 c3 d3; obtain ⟨⟨p1, q1, r1, s1⟩, _, _⟩ := (HK1.out.gr G.out).parts; obtain ⟨⟨a1, b1, c1, d1⟩, _, _⟩ := (HT1.out.gr G.out).parts; obtain ⟨⟨p2, q2, r2, s2⟩, _, _⟩ := (HK2.out.gr G.out).parts; obtain ⟨⟨a2, b2, c2, d2⟩, _, _⟩ := (HT2.out.gr G.out).parts; obtain ⟨⟨p3, q3, r3, s3⟩, _, _⟩ := (HK3.out.gr G.out).parts; obtain ⟨⟨a3, b3, c3, d3⟩, _, _⟩ := (HT3.out.gr G.out).parts)
      | (go_at_call 27; clear Mk1; rewrite [← VX1.out, ← HV1.out]; refine (still_calls (Tm.In_below G.out IX1.out) (Tm.In_below G.out HI1.out) EX1.out (RX1.out.gr IX1.out G.out)).mono ?_; rintro e w21 ⟨rfl, hb⟩; replace G := Lib.hid (G.out.trans hb); clear hb p1 q1 r1 s1 a1 b1 c1 d1 p2 q2 r2 s2 a2 b2 c2 d2 p3 q3 r3 s3 a3 b3 c3 d3; obtain ⟨⟨p2, q2, r2, s2⟩, _, _⟩ := (HK2.out.gr G.out).parts; obtain ⟨⟨a2, b2, c2, d2⟩, _, _⟩ := (HT2.out.gr G.out).parts; obtain ⟨⟨p3, q3, r3, s3⟩, _, _⟩ := (HK3.out.gr G.out).parts; obtain ⟨⟨a3, b3, c3, d3⟩, _, _⟩ := (HT3.out.gr G.out).parts)
      | (go_at_call 27; clear Mk2; rewrite [← VX2.out, ← HV2.out]; refine (still_calls (Tm.In_below G.out IX2.out) (Tm.In_below G.out HI2.out) EX2.out (RX2.out.gr IX2.out G.out)).mono ?_; rintro e w22 ⟨rfl, hb⟩; replace G := Lib.hid (G.out.trans hb); clear hb p2 q2 r2 s2 a2 b2 c2 d2 p3 q3 r3 s3 a3 b3 c3 d3; obtain ⟨⟨p3, q3, r3, s3⟩, _, _⟩ := (HK3.out.gr G.out).parts; obtain ⟨⟨a3, b3, c3, d3⟩, _, _⟩ := (HT3.out.gr G.out).parts)
      | (go_at_call 27; clear Mk3; rewrite [← VX3.out, ← HV3.out]; refine (still_calls (Tm.In_below G.out IX3.out) (Tm.In_below G.out HI3.out) EX3.out (RX3.out.gr IX3.out G.out)).mono ?_; rintro e w23 ⟨rfl, hb⟩; replace G := Lib.hid (G.out.trans hb); clear hb p3 q3 r3 s3 a3 b3 c3 d3)
      | fail)
    exact hR.out _ rfl _ (Gr.trans HW.out G.out)
end Go.Proofs.Yteonakicoomjkaa
