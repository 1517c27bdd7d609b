/-
  hornref.shapes.
-/
import Derived.Test.YtcblmkhhhibddaaTS43
namespace Go.Proofs.Ytcblmkhhhibddaa
open Go.RowKit Go.Maps Go.Lib

/-- place's answer, here. -/
def plX (L : List Bd) (w0 : World) : VP := fun v w => ∃ p c, v = .slice p L.length c ∧ (Bds.mk p c L).In w ∧ Gr w0 w
def plY (P : Nat) (L : List Bd) (w0 : World) (w : World) : Prop := ∃ p c w5, Gr w0 w5 ∧ (Bds.mk p c L).In w5 ∧ Gr (w5.setCell ⟨P, 0, none⟩ (.slice p L.length c)) w
theorem plX_gr {L : List Bd} {w0 : World} : ∀ v w w', plX L w0 v w → Gr w w' → plX L w0 v w' := fun _ _ _ ⟨p, c, h1, h2, h3⟩ g => ⟨p, c, h1, h2.mono g, h3.trans g⟩
theorem plY_gr {P : Nat} {L : List Bd} {w0 : World} : ∀ w w', plY P L w0 w → Gr w w' → plY P L w0 w' := fun _ _ ⟨p, c, w5, h1, h2, h3⟩ g => ⟨p, c, w5, h1, h2, h3.trans g⟩
def anyVal : VP := fun _ _ => True
theorem anyVal_stable {R : World → World → Prop} : ∀ v w w', anyVal v w → R w w' → anyVal v w' := fun _ _ _ _ _ => trivial
def shpX (S : Nat → Prop) (P : Nat) (r : Bool × List Bd) : VP := fun v w => v = .bool r.1 ∧ SSt S P r.2 w
theorem shpX_gr {S : Nat → Prop} {P : Nat} {r : Bool × List Bd} : ∀ v w w', shpX S P r v w → Gr w w' → shpX S P r v w' := fun _ _ _ ⟨h1, h2⟩ g => ⟨h1, h2.gr g⟩

set_option maxHeartbeats 8000000 in
set_option maxRecDepth 100000 in
theorem shapes_var (a : Tm) (h1 : a.k = 1) : shpOf a := by
  intro S P l b w ia ib oa ob st sz
  have Ib := Lib.hid ib
  have St := Lib.hid st
  have Ob := Lib.hid ob
  have hPl := st.lt
  have hn : In64 a.n := by
    obtain ⟨k, n, s, p, c, l⟩ := a
    rw [Tm.In] at ia
    exact ia.2.1
  have Hn := Lib.hid hn
  obtain ⟨p, c, hP, hB⟩ := st.st
  have HB := Lib.hid hB
  have HP := Lib.hid hP
  have hlen : l.length + 1 ≤ 1048576 := by have := T.sz_pos a.erase; omega
  have hr := shp_var h1 (b := b) l
  have hQ0 : Hid (∀ w', SSt S P (if hasV l a.n then l else placeL l ⟨a.n, b⟩) w' → Kp (· = P) w w' → RetShp S P (Tm.shp a b l) w (.returned (.bool true)) w') := fun w' h2 h3 => ⟨by rw [hr], by rw [hr]; exact h2, h3⟩
  generalize RetShp S P (Tm.shp a b l) w = Q at hQ0 ⊢
  have HQ := hQ0
  have h1' : (a.k == 1) = true := by simp [h1]
  rw [show a.val = .agg #[.int .i64 a.k, .int .i64 a.n, .string a.s, .slice a.p a.l.length a.c] from rfl, show b.val = .agg #[.int .i64 b.k, .int .i64 b.n, .string b.s, .slice b.p b.l.length b.c] from rfl]
  have hLl := placeL_length ⟨a.n, b⟩ l
  clear ia ib oa ob st sz hn hP hB hr hQ0 h1
  go_enter Try.func159, Try.ntmps159
  try simp only [List.append_eq, List.cons_append, List.nil_append]
  go_upto_region 1 with fail
  obtain ⟨h3, h4, gA⟩ := two_blocks w (.int .i64 a.k) (.int .i64 a.n) (.string a.s) (.slice a.p a.l.length a.c) (.int .i64 b.k) (.int .i64 b.n) (.string b.s) (.slice b.p b.l.length b.c)
  have SA : Hid (((w.alloc (.cells #[.int .i64 a.k, .int .i64 a.n, .string a.s, .slice a.p a.l.length a.c] 25)).alloc (.cells #[.int .i64 b.k, .int .i64 b.n, .string b.s, .slice b.p b.l.length b.c] 25)).heap.size = w.heap.size + 2) := by show _ = _; simp
  generalize ((w.alloc (.cells #[.int .i64 a.k, .int .i64 a.n, .string a.s, .slice a.p a.l.length a.c] 25)).alloc (.cells #[.int .i64 b.k, .int .i64 b.n, .string b.s, .slice b.p b.l.length b.c] 25)) = wA at *
  obtain ⟨⟨x0, x1, x2, x3⟩, _, _⟩ := h3.out.parts
  obtain ⟨⟨y0, y1, y2, y3⟩, _, _⟩ := h4.out.parts
  have hpc := BlkT.cell (HP.out.gr gA) 0 (v := .slice p l.length c) rfl
  have nP : ¬ (wA.heap.size ≤ P) := by have := SA.out; omega
  have n3 : ¬ (wA.heap.size ≤ w.heap.size) := by have := SA.out; omega
  have n4 : ¬ (wA.heap.size ≤ w.heap.size + 1) := by have := SA.out; omega
  go_upto_region 2 with fail
  generalize hd : hasV l a.n = d at *
  have hfind : Hid (∀ w', Gr wA w' → Calls Try.prog 176 #[.slice p l.length c, .int .i64 a.n] w' (fun e w1 => e = .returned (.tuple #[(findTm l a.n).val, .bool d]) ∧ Gr w' w1)) := fun w' g => by
    rw [← hd]
    exact rfindX_calls p c l a.n w' ((HB.out.mono gA).mono g) Hn.out
  generalize findTm l a.n = X at hfind

  clear hd
  refine wp_region_relyA 12 [fx (.pointer (some ⟨P, 0, none⟩)), fx (.pointer (some ⟨P, 0, none⟩)), fx (.slice p l.length c), fx (.pointer (some ⟨w.heap.size, 1, none⟩)), fx (.int .i64 a.n), fx (.tuple #[.agg #[.int .i64 X.k, .int .i64 X.n, .string X.s, .slice X.p X.l.length X.c], .bool d]), fx (.tuple #[.agg #[.int .i64 X.k, .int .i64 X.n, .string X.s, .slice X.p X.l.length X.c], .bool d]), fx (.agg #[.int .i64 X.k, .int .i64 X.n, .string X.s, .slice X.p X.l.length X.c]), fx (.bool d), ptrV, fx undef, fx (.bool d)]
    (Kp (fun b => wA.heap.size ≤ b)) (LateJ wA.heap.size [⟨9, 7, 10, X⟩] 12 74) (by kernel_rfl) (by kernel_rfl) (by decide) (by kernel_rfl) (fun _ _ h => Kp.of_gr h) (fun _ _ _ h k => Kp.trans h k) (fun w _ => LateJ.start _ _ _ _ _ w rfl) (by repeat (first | exact StableR.nil | refine StableR.fix ?_ | refine StableR.cons ptrV_stable ?_)) ?_ ?_
  · refine ⟨stepA_plain (fun _ _ h => Kp.of_gr h) (fun listed a w w' v h hg => LateJ.other rfl listed a w w' v h hg) ?_, stepA_plain (fun _ _ h => Kp.of_gr h) (fun listed a w w' v h hg => LateJ.other rfl listed a w w' v h hg) ?_, stepA_plain (fun _ _ h => Kp.of_gr h) (fun listed a w w' v h hg => LateJ.other rfl listed a w w' v h hg) ?_, stepA_plain (fun _ _ h => Kp.of_gr h) (fun listed a w w' v h hg => LateJ.other rfl listed a w w' v h hg) ?_, stepA_plain (fun _ _ h => Kp.of_gr h) (fun listed a w w' v h hg => LateJ.other rfl listed a w w' v h hg) ?_, stepA_plain (fun _ _ h => Kp.of_gr h) (fun listed a w w' v h hg => LateJ.other rfl listed a w w' v h hg) ?b5, stepA_plain (fun _ _ h => Kp.of_gr h) (fun listed a w w' v h hg => LateJ.other rfl listed a w w' v h hg) ?_, stepA_plain (fun _ _ h => Kp.of_gr h) (fun listed a w w' v h hg => LateJ.other rfl listed a w w' v h hg) ?_, stepA_plain (fun _ _ h => Kp.of_gr h) (fun listed a w w' v h hg => LateJ.other rfl listed a w w' v h hg) ?_, ?a9, ?a10, stepA_plain (fun _ _ h => Kp.of_gr h) (fun listed a w w' v h hg => LateJ.other rfl listed a w w' v h hg) ?_, trivial⟩
    case a9 =>
      intro listed fr ww hj hl hpre hg hdef hold
      have h2 : fr.tmps[2]?.getD undef = .pointer (some ⟨P, 0, none⟩) := hold 2 rfl
      have h3 : fr.tmps[3]?.getD undef = .pointer (some ⟨w.heap.size, 0, none⟩) := hold 3 rfl
      have z0 := Kp.cell hg x0 n3
      have z1 := Kp.cell hg x1 n3
      have z2 := Kp.cell hg x2 n3
      have z3 := Kp.cell hg x3 n3
      have zp := Kp.cell hg hpc nP
      have Hg := Lib.hid hg
      clear hold x0 x1 x2 x3 y0 y1 y2 y3 hpc
      have hl := getD_tf hl
      clear hdef
      simp only [predsImp]
      intro K hK
      go_simp
      exact hK _ _ ⟨_, rfl⟩ (Kp.of_gr (by go_grown)) (LateJ.alloc rfl hj hl (by go_grown) hg.size (Nat.le_refl _) (by simp) (Blk4.new _ _ _ _ _) (show (7 : Nat) < 74 by decide) (show (9 : Nat) < 12 by decide))
    case a10 =>
      intro listed fr ww hj hl hpre hg hdef hold
      have h2 : fr.tmps[2]?.getD undef = .pointer (some ⟨P, 0, none⟩) := hold 2 rfl
      have h3 : fr.tmps[3]?.getD undef = .pointer (some ⟨w.heap.size, 0, none⟩) := hold 3 rfl
      have z0 := Kp.cell hg x0 n3
      have z1 := Kp.cell hg x1 n3
      have z2 := Kp.cell hg x2 n3
      have z3 := Kp.cell hg x3 n3
      have zp := Kp.cell hg hpc nP
      have Hg := Lib.hid hg
      clear hold x0 x1 x2 x3 y0 y1 y2 y3 hpc
      have hl := getD_tf hl
      clear hdef
      simp [predsImp, Region.binds, dstAt, fx]
      intros
      rename_i K hK
      obtain ⟨B, hB, hB0, hBl, hz, -⟩ := hj.blk ⟨9, 7, 10, X⟩ (by simp) (hpre ⟨9, Ground.data⟩ (by simp) rfl)
      simp only at hB hz
      have Hz := Lib.hid (hz hl)
      obtain ⟨⟨p0, p1, p2, p3⟩, ⟨f0, f1, f2, f3⟩, _⟩ := (hz hl).parts
      clear hz
      go_simp
      exact hK _ _ rfl (Kp.sets hB0 _ _ _ _) (LateJ.store (x0 := ⟨9, 7, 10, X⟩) (by simp) rfl rfl (by intro x hx h; simp only [List.mem_cons, List.mem_nil_iff, or_false] at hx; exact hx) hj (hpre ⟨9, Ground.data⟩ (by simp) rfl) hB (Kp.sets (C := (· = B)) rfl _ _ _ _) (Blk4.sets Hz.out _ _ _ _) _ (show (10 : Nat) < 12 by decide))
    case b5 =>
      intro fr ww hg hold
      have h2 : fr.tmps[2]?.getD undef = .pointer (some ⟨P, 0, none⟩) := hold 2 rfl
      have h3 : fr.tmps[3]?.getD undef = .pointer (some ⟨w.heap.size, 0, none⟩) := hold 3 rfl
      have z0 := Kp.cell hg x0 n3
      have z1 := Kp.cell hg x1 n3
      have z2 := Kp.cell hg x2 n3
      have z3 := Kp.cell hg x3 n3
      have zp := Kp.cell hg hpc nP
      have Hg := Lib.hid hg
      clear hold x0 x1 x2 x3 y0 y1 y2 y3 hpc
      simp [predsImp, Region.binds, dstAt, fx]
      intros
      rename_i K hK
      go_simp
      refine (hfind.out _ (Hg.out.below (fun b hb => hb) (Nat.le_refl _))).mono ?_
      rintro e w2 ⟨rfl, hb2⟩
      exact hK _ _ rfl hb2
    all_goals
      intro fr ww hg hold
      have h2 : fr.tmps[2]?.getD undef = .pointer (some ⟨P, 0, none⟩) := hold 2 rfl
      have h3 : fr.tmps[3]?.getD undef = .pointer (some ⟨w.heap.size, 0, none⟩) := hold 3 rfl
      have z0 := Kp.cell hg x0 n3
      have z1 := Kp.cell hg x1 n3
      have z2 := Kp.cell hg x2 n3
      have z3 := Kp.cell hg x3 n3
      have zp := Kp.cell hg hpc nP
      have Hg := Lib.hid hg
      clear hold x0 x1 x2 x3 y0 y1 y2 y3 hpc
      simp [predsImp, Region.binds, dstAt, fx]
      intros
      rename_i K hK
      go_simp
    all_goals exact hK _ _ rfl (Gr.rfl' _)
  · intro w9 hg
    rintro _ rfl _ rfl _ rfl _ rfl _ rfl _ rfl _ rfl _ rfl _ rfl _ ⟨P1, rfl⟩ _ rfl _ rfl hap
    simp only [Act.put, List.setIfInBounds_toArray, List.set_cons_succ, List.set_cons_zero, List.drop_succ_cons, List.drop_zero] at hap ⊢
    have g9 : Gr wA w9 := hg.below (fun b hb => hb) (Nat.le_refl _)
    have gw9 : Gr w w9 := gA.trans g9
    replace x0 := Gr.at g9 x0
    replace x1 := Gr.at g9 x1
    replace x2 := Gr.at g9 x2
    replace x3 := Gr.at g9 x3
    replace y0 := Gr.at g9 y0
    replace y1 := Gr.at g9 y1
    replace y2 := Gr.at g9 y2
    replace y3 := Gr.at g9 y3
    replace hpc := Gr.at g9 hpc
    clear hap hg hfind
    cases d with
    | true =>
      have Hb := Lib.hid (HQ.out w9 (by rw [if_pos rfl]; exact St.out.gr gw9) (Kp.of_gr gw9))
      go_wp2_with fail
      exact Hb.out
    | false =>
      have HPl := Lib.hid (fun (w' : World) (g : Gr w9 w') => show Calls Try.prog 178 #[.slice p l.length c, .int .i64 a.n, .agg #[.int .i64 b.k, .int .i64 b.n, .string b.s, .slice b.p b.l.length b.c]] w' _ from place_walk p c l a.n b w' ((HB.out.mono gw9).mono g) (Tm.In_below (gw9.trans g) Ib.out) Hn.out (by omega))
      have hBP : BlkT w9 P 44 #[.slice p l.length c] := HP.out.gr gw9
      have HBP := Lib.hid hBP
      clear hBP
      generalize hL : placeL l ⟨a.n, b⟩ = L at *
      have HL := Lib.hid hL
      have m3 : ¬ (w.heap.size = P) := by omega
      have m4 : ¬ (w.heap.size + 1 = P) := by omega
      clear hL
      go_upto_region 4 with fail
      refine wp_region_relyA 10 [fx (.pointer (some ⟨P, 0, none⟩)), fx (.pointer (some ⟨P, 0, none⟩)), fx (.pointer (some ⟨P, 0, none⟩)), fx (.slice p l.length c), fx (.pointer (some ⟨w.heap.size, 1, none⟩)), fx (.int .i64 a.n), fx (.agg #[.int .i64 b.k, .int .i64 b.n, .string b.s, .slice b.p b.l.length b.c]), anyVal, fx (.pointer (some ⟨P, 0, none⟩)), fx undef]
        (Kp (· = P)) (PushJ w9 74 3 7 9 31 (plX L w9) (plY P L w9)) (by kernel_rfl) (by kernel_rfl) (by decide) (by kernel_rfl) (fun _ _ h => Kp.of_gr h) (fun _ _ _ h k => Kp.trans h k) (fun w hw => PushJ.start _ hw rfl) (by repeat (first | exact StableR.nil | refine StableR.fix ?_ | refine StableR.cons anyVal_stable ?_)) ?_ ?_
      · refine ⟨stepA_plain (fun _ _ h => Kp.of_gr h) (fun listed a w w' v h hg => PushJ.other plX_gr plY_gr rfl listed a w w' v h hg) ?_, stepA_plain (fun _ _ h => Kp.of_gr h) (fun listed a w w' v h hg => PushJ.other plX_gr plY_gr rfl listed a w w' v h hg) ?_, stepA_plain (fun _ _ h => Kp.of_gr h) (fun listed a w w' v h hg => PushJ.other plX_gr plY_gr rfl listed a w w' v h hg) ?_, ?a3, stepA_plain (fun _ _ h => Kp.of_gr h) (fun listed a w w' v h hg => PushJ.other plX_gr plY_gr rfl listed a w w' v h hg) ?_, stepA_plain (fun _ _ h => Kp.of_gr h) (fun listed a w w' v h hg => PushJ.other plX_gr plY_gr rfl listed a w w' v h hg) ?_, stepA_plain (fun _ _ h => Kp.of_gr h) (fun listed a w w' v h hg => PushJ.other plX_gr plY_gr rfl listed a w w' v h hg) ?_, ?a7, stepA_plain (fun _ _ h => Kp.of_gr h) (fun listed a w w' v h hg => PushJ.other plX_gr plY_gr rfl listed a w w' v h hg) ?_, ?a9, trivial⟩
        case a3 =>
          intro listed fr ww hj2 hl hpre hg hdef hold
          have h2 : fr.tmps[2]?.getD undef = .pointer (some ⟨P, 0, none⟩) := hold 2 rfl
          have h3 : fr.tmps[3]?.getD undef = .pointer (some ⟨w.heap.size, 0, none⟩) := hold 3 rfl
          have h4 : fr.tmps[4]?.getD undef = .pointer (some ⟨w.heap.size + 1, 0, none⟩) := hold 4 rfl
          have zx0 := Kp.cell hg x0 m3
          have zx1 := Kp.cell hg x1 m3
          have zx2 := Kp.cell hg x2 m3
          have zx3 := Kp.cell hg x3 m3
          have zy0 := Kp.cell hg y0 m4
          have zy1 := Kp.cell hg y1 m4
          have zy2 := Kp.cell hg y2 m4
          have zy3 := Kp.cell hg y3 m4
          have Hg := Lib.hid hg
          clear hold x0 x1 x2 x3 y0 y1 y2 y3
          clear hdef
          have gz : Gr w9 ww := (hj2.no (getD_ft fun h => by have := hj2.ord h; rw [getD_tf hl] at this; cases this)).1
          have zpc := Gr.at gz hpc
          clear hpc
          simp [predsImp, Region.binds, dstAt, fx]
          intros
          rename_i K hK
          go_simp
          exact hK _ _ rfl (Kp.refl _ _) (PushJ.other plX_gr plY_gr rfl _ _ _ _ _ hj2 (Gr.rfl' _))
        case a7 =>
          intro listed fr ww hj2 hl hpre hg hdef hold
          have h2 : fr.tmps[2]?.getD undef = .pointer (some ⟨P, 0, none⟩) := hold 2 rfl
          have h3 : fr.tmps[3]?.getD undef = .pointer (some ⟨w.heap.size, 0, none⟩) := hold 3 rfl
          have h4 : fr.tmps[4]?.getD undef = .pointer (some ⟨w.heap.size + 1, 0, none⟩) := hold 4 rfl
          have zx0 := Kp.cell hg x0 m3
          have zx1 := Kp.cell hg x1 m3
          have zx2 := Kp.cell hg x2 m3
          have zx3 := Kp.cell hg x3 m3
          have zy0 := Kp.cell hg y0 m4
          have zy1 := Kp.cell hg y1 m4
          have zy2 := Kp.cell hg y2 m4
          have zy3 := Kp.cell hg y3 m4
          have Hg := Lib.hid hg
          clear hold x0 x1 x2 x3 y0 y1 y2 y3
          clear hdef
          have gz : Gr w9 ww := (hj2.no (getD_tf hl)).1
          simp [predsImp, Region.binds, dstAt, fx]
          intros
          rename_i K hK
          go_simp
          refine (HPl.out ww gz).mono ?_
          rintro e w5 ⟨p', c', rfl, h5, g5⟩
          exact hK _ _ trivial (Kp.of_gr g5) (PushJ.first hj2 hl (hpre ⟨3, Ground.data⟩ (by simp) rfl) (by decide) (by decide) g5.size ⟨p', c', rfl, h5, gz.trans g5⟩)
        case a9 =>
          intro listed fr ww hj2 hl hpre hg hdef hold
          have h2 : fr.tmps[2]?.getD undef = .pointer (some ⟨P, 0, none⟩) := hold 2 rfl
          have h3 : fr.tmps[3]?.getD undef = .pointer (some ⟨w.heap.size, 0, none⟩) := hold 3 rfl
          have h4 : fr.tmps[4]?.getD undef = .pointer (some ⟨w.heap.size + 1, 0, none⟩) := hold 4 rfl
          have zx0 := Kp.cell hg x0 m3
          have zx1 := Kp.cell hg x1 m3
          have zx2 := Kp.cell hg x2 m3
          have zx3 := Kp.cell hg x3 m3
          have zy0 := Kp.cell hg y0 m4
          have zy1 := Kp.cell hg y1 m4
          have zy2 := Kp.cell hg y2 m4
          have zy3 := Kp.cell hg y3 m4
          have Hg := Lib.hid hg
          clear hold x0 x1 x2 x3 y0 y1 y2 y3
          clear hdef
          obtain ⟨p', c', h31, h5, g5⟩ := hj2.one (hpre ⟨7, Ground.data⟩ (by simp) rfl) (getD_tf hl)
          have t3 := HBP.out.gr g5
          have zc := t3.cell 0 (v := .slice p l.length c) rfl
          have zf := t3.open_ 0
          have T3 := Lib.hid t3
          clear t3 hpc
          simp [predsImp, Region.binds, dstAt, fx]
          intros
          rename_i K hK
          go_simp
          exact hK _ _ rfl (Kp.set (C := (· = P)) rfl) (PushJ.second hj2 (hpre ⟨7, Ground.data⟩ (by simp) rfl) hl (by decide) (by simp) ⟨p', c', ww, g5, h5, by rw [hLl]; exact Gr.rfl' _⟩)
        all_goals
          intro fr ww hg hold
          have h2 : fr.tmps[2]?.getD undef = .pointer (some ⟨P, 0, none⟩) := hold 2 rfl
          have h3 : fr.tmps[3]?.getD undef = .pointer (some ⟨w.heap.size, 0, none⟩) := hold 3 rfl
          have h4 : fr.tmps[4]?.getD undef = .pointer (some ⟨w.heap.size + 1, 0, none⟩) := hold 4 rfl
          have zx0 := Kp.cell hg x0 m3
          have zx1 := Kp.cell hg x1 m3
          have zx2 := Kp.cell hg x2 m3
          have zx3 := Kp.cell hg x3 m3
          have zy0 := Kp.cell hg y0 m4
          have zy1 := Kp.cell hg y1 m4
          have zy2 := Kp.cell hg y2 m4
          have zy3 := Kp.cell hg y3 m4
          have Hg := Lib.hid hg
          clear hold x0 x1 x2 x3 y0 y1 y2 y3
          simp [predsImp, Region.binds, dstAt, fx]
          intros
          rename_i K hK
          go_simp
        all_goals exact hK _ _ rfl (Gr.rfl' _)
      · intro wz hg
        rintro _ rfl _ rfl _ rfl _ rfl _ rfl _ rfl _ rfl _ _ _ rfl _ rfl hcj
        simp only [Act.put, List.setIfInBounds_toArray, List.set_cons_succ, List.set_cons_zero, List.drop_succ_cons, List.drop_zero] at hcj ⊢
        obtain ⟨p', c', w5, g5, h5, g6⟩ := hcj.end_ (by show 9 < 10; omega)
        have s5 : SSt S P L wz := (St.out.put (gw9.trans g5) h5 (fun y hy => by
          rw [← HL.out] at hy
          rcases (placeL_mem _ _ _).1 hy with rfl | hy
          · exact Ob.out
          · exact St.out.on y hy)).gr g6
        have Hb := Lib.hid (HQ.out wz (by rw [if_neg (by decide)]; exact s5) ((Kp.of_gr gw9).trans hg))
        clear hcj hg x0 x1 x2 x3 y0 y1 y2 y3 hpc s5
        go_wp2_with fail
        exact Hb.out
end Go.Proofs.Ytcblmkhhhibddaa
