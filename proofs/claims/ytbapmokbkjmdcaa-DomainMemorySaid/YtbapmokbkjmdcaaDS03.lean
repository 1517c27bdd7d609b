/-
  hornref.Solutions: the walk.
-/
import Derived.Test.YtbapmokbkjmdcaaDS02
namespace Go.Proofs.Ytbapmokbkjmdcaa
open Go.RowKit Go.Maps Go.Lib

set_option maxHeartbeats 16000000 in
set_option maxRecDepth 100000 in
theorem solutions_calls (x : Pb) (most v z : Int) (g : Int → Option Int) (w : World) (hx : x.In w) (hck : checkP x.D x.cons = 0) (hm : most ≤ 20000) (hv : (v < 0 ∧ g = fun _ => none) ∨ ∃ vn : Nat, v = vn ∧ vn < x.D.length ∧ Near z ∧ g = updG (fun _ => none) (vn : Int) z) :
    Calls Try.prog 23 #[x.val, .int .i64 most, .int .i64 v, .int .i64 z] w (RetSols ((sols x.cons (domsG g x.D 0)).take most.toNat) w) := by
  obtain ⟨L, hL⟩ : ∃ L, (sols x.cons (domsG g x.D 0)).take most.toNat = L := ⟨_, rfl⟩
  rw [hL]
  have HL := Lib.hid hL
  have hR : Hid (∀ L' p c w', L' = L → Gr w w' → RowsBack w' p c L' → RetSols L w (.returned (.slice p L'.length c)) w') := fun L' p c w' h1 h2 h3 => by subst h1; exact ⟨h2, p, c, rfl, h3⟩
  generalize RetSols L w = Q at hR ⊢
  have HX := Lib.hid hx
  have HV := Lib.hid hv
  have HM := Lib.hid hm
  have HCK := Lib.hid hck
  obtain ⟨c1, c2, c3, c4, c5⟩ := check_zero hck
  have HOK := Lib.hid c2
  have HFEW := Lib.hid c3
  have HNear : Hid (∀ d ∈ x.D, ∀ y ∈ d, Near y) := fun d hd => (okDom_rise (c1 d hd)).2
  have hDl := hx.lenD.1
  have hDc := hx.lenD.2
  have hCl := hx.lenC.1
  have hCc := hx.lenC.2
  clear hx hv hm hck c1 c2 c4 c5 hL
  rw [show x.val = .agg #[.slice x.dp x.D.length x.dc, .slice x.cp x.C.length x.cc] from rfl]
  go_enter Try.func23, Try.ntmps23
  try simp only [List.append_eq, List.cons_append, List.nil_append]
  go_upto_region 1 with fail
  have hB := BlkT.new w 25 #[.slice x.dp x.D.length x.dc, .slice x.cp x.C.length x.cc]
  have gA : Gr w (w.alloc (.cells #[.slice x.dp x.D.length x.dc, .slice x.cp x.C.length x.cc] 25)) := by go_grown
  generalize hwA : w.alloc (.cells #[.slice x.dp x.D.length x.dc, .slice x.cp x.C.length x.cc] 25) = wA at *
  obtain ⟨bm, hbm⟩ : ∃ bm, w.heap.size + 1 = bm := ⟨_, rfl⟩
  have hbm2 : bm = wA.heap.size := by rw [← hwA, ← hbm]; simp
  have hB2 : BlkT (wA.alloc (.cells #[.int .i64 most] 3)) bm 3 #[.int .i64 most] := by rw [hbm2]; exact BlkT.new _ _ _
  have gB : Gr wA (wA.alloc (.cells #[.int .i64 most] 3)) := by go_grown
  rw [hbm]
  generalize wA.alloc (.cells #[.int .i64 most] 3) = wB at *
  obtain ⟨bx, hbx⟩ : ∃ bx, w.heap.size = bx := ⟨_, rfl⟩
  rw [hbx] at hB ⊢
  have HB := Lib.hid (hB.gr gB)
  have HBM := Lib.hid hB2
  have HG := Lib.hid (gA.trans gB)
  clear hB hB2 gA gB hwA hbm hbm2 hbx
  go_upto_region 2 with fail
  have hBO := BlkT.new wB 22 #[.slice none 0 0]
  have gO : Gr wB (wB.alloc (.cells #[.slice none 0 0] 22)) := by go_grown
  obtain ⟨bo, hbo⟩ : ∃ bo, wB.heap.size = bo := ⟨_, rfl⟩
  have HBOG : Hid (w.heap.size ≤ bo) := by show _ ≤ _; rw [← hbo]; exact HG.out.size
  rw [hbo] at hBO ⊢
  clear hbo
  generalize wB.alloc (.cells #[.slice none 0 0] 22) = w0 at *
  have HBO := Lib.hid hBO
  have HG0 := Lib.hid (HG.out.trans gO)
  have HB0 := Lib.hid (HB.out.gr gO)
  have HM0 := Lib.hid (HBM.out.gr gO)
  clear hBO gO
  have m0 := HM0.out.cell 0 (v := .int .i64 most) rfl
  by_cases hm1 : most < 1
  case pos =>
    have hd : decide (most < 1) = true := decide_eq_true hm1
    have HF := Lib.hid (show ([] : List (List Int)) = L by rw [← HL.out, show most.toNat = 0 by omega, List.take_zero])
    clear hm1
    go_wp2_with fail
    exact hR.out [] none 0 _ HF.out HG0.out (RowsBack.nil _)
  have hd : decide (most < 1) = false := decide_eq_false hm1
  have HM1 := Lib.hid (show 0 < most by omega)
  clear hm1
  go_upto_region 4 with fail
  clear hd m0
  have b0 := HB0.out.cell 0 (v := .slice x.dp x.D.length x.dc) rfl
  have hmkI := Lib.hid (make_ints x.D.length (by omega))
  have hmkB := Lib.hid (make_bools x.D.length (by omega))
  refine wp_region_relyA 15 [fx (.pointer (some ⟨bx, 0, none⟩)), fx (.slice x.dp x.D.length x.dc), fx (.int .i64 x.D.length), setV w0.heap.size x.D.length, fx (.pointer (some ⟨bx, 0, none⟩)), fx (.slice x.dp x.D.length x.dc), fx (.int .i64 x.D.length), setV w0.heap.size x.D.length, fx (.pointer (some ⟨bx, 0, none⟩)), fx (.slice x.dp x.D.length x.dc), fx (.int .i64 x.D.length), nowV w0.heap.size x.D.length, boxV w0.heap.size, setV w0.heap.size x.D.length, setV w0.heap.size x.D.length]
    Gr (SolJ x.D.length) (by kernel_rfl) (by kernel_rfl) (by decide) (by kernel_rfl) (fun _ _ h => h) (fun _ _ _ h k => Gr.trans h k) (fun w _ => SolJ.start _ _ _ w) (by repeat (first | exact StableR.nil | refine StableR.fix ?_ | refine StableR.cons nowV_stable ?_ | refine StableR.cons setV_stable ?_ | refine StableR.cons boxV_stable ?_)) ?_ ?_
  · refine ⟨stepA_plain (fun _ _ h => h) (fun listed a w w' v h hg => SolJ.other rfl listed a w w' v h hg) ?_, stepA_plain (fun _ _ h => h) (fun listed a w w' v h hg => SolJ.other rfl listed a w w' v h hg) ?_, stepA_plain (fun _ _ h => h) (fun listed a w w' v h hg => SolJ.other rfl listed a w w' v h hg) ?_, ?a3, stepA_plain (fun _ _ h => h) (fun listed a w w' v h hg => SolJ.other rfl listed a w w' v h hg) ?_, stepA_plain (fun _ _ h => h) (fun listed a w w' v h hg => SolJ.other rfl listed a w w' v h hg) ?_, stepA_plain (fun _ _ h => h) (fun listed a w w' v h hg => SolJ.other rfl listed a w w' v h hg) ?_, ?a7, stepA_plain (fun _ _ h => h) (fun listed a w w' v h hg => SolJ.other rfl listed a w w' v h hg) ?_, stepA_plain (fun _ _ h => h) (fun listed a w w' v h hg => SolJ.other rfl listed a w w' v h hg) ?_, stepA_plain (fun _ _ h => h) (fun listed a w w' v h hg => SolJ.other rfl listed a w w' v h hg) ?_, stepA_plain (fun _ _ h => h) (fun listed a w w' v h hg => SolJ.other rfl listed a w w' v h hg) ?b11, stepA_plain (fun _ _ h => h) (fun listed a w w' v h hg => SolJ.other rfl listed a w w' v h hg) ?b12, ?a13, ?a14, trivial⟩
    case a3 =>
      intro listed fr wr hj hl hpre hg hdef hold
      have h4 : fr.tmps[4]?.getD undef = .pointer (some ⟨bx, 0, none⟩) := hold 4 rfl
      clear hold
      have B0 := Gr.at hg b0
      have hmI := hmkI.out
      have hmB := hmkB.out
      have hl2 := hl
      clear hdef
      simp [predsImp, Region.binds, dstAt, fx]
      intros
      rename_i K hK
      go_simp
      exact hK _ _ ⟨wr.heap.size, rfl, hg.size, BlkT.new _ _ _⟩ (by go_grown) (SolJ.asked hj hl2 (by go_grown) (Nat.le_refl _) (by simp))
    case a7 =>
      intro listed fr wr hj hl hpre hg hdef hold
      have h4 : fr.tmps[4]?.getD undef = .pointer (some ⟨bx, 0, none⟩) := hold 4 rfl
      clear hold
      have B0 := Gr.at hg b0
      have hmI := hmkI.out
      have hmB := hmkB.out
      have hl2 := hl
      clear hdef
      simp [predsImp, Region.binds, dstAt, fx]
      intros
      rename_i K hK
      go_simp
      exact hK _ _ ⟨wr.heap.size, rfl, hg.size, BlkT.new _ _ _⟩ (by go_grown) (SolJ.set hj hl2 (by go_grown) (Nat.le_refl _) (by simp))
    case a13 =>
      intro listed fr wr hj hl hpre hg hdef hold
      have h4 : fr.tmps[4]?.getD undef = .pointer (some ⟨bx, 0, none⟩) := hold 4 rfl
      clear hold
      have B0 := Gr.at hg b0
      have hmI := hmkI.out
      have hmB := hmkB.out
      have hp := hpre ⟨3, Ground.data⟩ (by simp) rfl
      clear hdef
      simp [predsImp, Region.binds, dstAt, fx]
      intro h20
      obtain ⟨B, hB, hB0, hBb⟩ := h20
      intros
      rename_i K hK
      go_simp
      exact hK _ _ ⟨B, rfl, hB0, hBb⟩ (Gr.rfl' _) (SolJ.put10 hj hp hB)
    case a14 =>
      intro listed fr wr hj hl hpre hg hdef hold
      have h4 : fr.tmps[4]?.getD undef = .pointer (some ⟨bx, 0, none⟩) := hold 4 rfl
      clear hold
      have B0 := Gr.at hg b0
      have hmI := hmkI.out
      have hmB := hmkB.out
      have hp := hpre ⟨7, Ground.data⟩ (by simp) rfl
      clear hdef
      simp [predsImp, Region.binds, dstAt, fx]
      intro h24
      obtain ⟨B, hB, hB0, hBb⟩ := h24
      intros
      rename_i K hK
      go_simp
      exact hK _ _ ⟨B, rfl, hB0, hBb⟩ (Gr.rfl' _) (SolJ.put11 hj hp hB)
    case b11 =>
      intro fr wr hg hold
      have h4 : fr.tmps[4]?.getD undef = .pointer (some ⟨bx, 0, none⟩) := hold 4 rfl
      clear hold
      have B0 := Gr.at hg b0
      have hmI := hmkI.out
      have hmB := hmkB.out
      simp [predsImp, Region.binds, dstAt, fx]
      intros
      rename_i K hK
      go_simp
      exact hK _ _ ⟨wr.heap.size, rfl, hg.size, BlkT.new _ _ _⟩ (by go_grown)
    case b12 =>
      intro fr wr hg hold
      have h4 : fr.tmps[4]?.getD undef = .pointer (some ⟨bx, 0, none⟩) := hold 4 rfl
      clear hold
      have B0 := Gr.at hg b0
      have hmI := hmkI.out
      have hmB := hmkB.out
      simp [predsImp]
      intros
      rename_i K hK
      go_simp
      exact hK _ _ ⟨wr.heap.size, rfl, hg.size, BlkT.new _ _ _⟩ (by go_grown)
    all_goals
      intro fr wr hg hold
      have h4 : fr.tmps[4]?.getD undef = .pointer (some ⟨bx, 0, none⟩) := hold 4 rfl
      clear hold
      have B0 := Gr.at hg b0
      have hmI := hmkI.out
      have hmB := hmkB.out
      simp [predsImp, Region.binds, dstAt, fx]
      intros
      rename_i K hK
      go_simp
    all_goals exact hK _ _ rfl (Gr.rfl' _)
  · intro wz hg
    rintro _ rfl _ rfl _ rfl _ - _ rfl _ rfl _ rfl _ - _ rfl _ rfl _ rfl _ ⟨bN, rfl, gN, hN⟩ _ ⟨bn, rfl, gn, hn⟩ _ ⟨bA, rfl, gA, hA⟩ _ ⟨bS, rfl, gS, hS⟩ hj2
    simp only [Act.put, List.setIfInBounds_toArray, List.set_cons_succ, List.set_cons_zero, List.drop_succ_cons, List.drop_zero] at hj2 ⊢
    have HAS := Lib.hid (hj2.done (by show 14 < 15; omega) rfl rfl)
    have zn := hn.cell 0 (v := .slice none 0 0) rfl
    have zf := hn.open_ 0
    have hks : Kp (· = bn) wz (wz.setCell ⟨bn, 0, none⟩ (.slice (some ⟨bN, 0, none⟩) x.D.length x.D.length)) := Kp.set rfl
    have hne : ∀ {b : Nat} {t : TypeId}, OfT wz b t → t ≠ 38 → ¬ b = bn := fun hb ht e => OfT.ne hb (.of hn) ht e
    have HN1 := Lib.hid (hN.kp hks (hne (.of hN) (by decide)))
    have HA1 := Lib.hid (hA.kp hks (hne (.of hA) (by decide)))
    have HS1 := Lib.hid (hS.kp hks (hne (.of hS) (by decide)))
    have HBN := Lib.hid (hn.set 0 (.slice (some ⟨bN, 0, none⟩) x.D.length x.D.length))
    have HG1 := Lib.hid (show Gr w0 (wz.setCell ⟨bn, 0, none⟩ (.slice (some ⟨bN, 0, none⟩) x.D.length x.D.length)) from Below.trans hg (hks.below (fun b hb => by rw [hb]; exact gn) hg.size))
    have HGE : Hid (w0.heap.size ≤ bA ∧ w0.heap.size ≤ bS ∧ w0.heap.size ≤ bN ∧ w0.heap.size ≤ bn) := ⟨gA, gS, gN, gn⟩
    clear b0 hj2 hN hn hA hS gN gn gA gS hks hne hg
    go_upto_region 5 with fail
    clear zn zf
    generalize wz.setCell ⟨bn, 0, none⟩ (.slice (some ⟨bN, 0, none⟩) x.D.length x.D.length) = w1 at *
    go_upto_region 6 with fail
    go_loopg [13] x.D.length (fun k iv wr => ∃ i : Nat, i ≤ x.D.length ∧ k = x.D.length - i ∧ iv = .int .i64 ((i : Nat) : Int) ∧ Hid (BlkT wr bA 4 (bools (List.replicate i true ++ List.replicate (x.D.length - i) false))) ∧ Hid (Kp (· = bA) w1 wr))
    case atStart => exact ⟨0, Nat.zero_le _, rfl, rfl, by simpa using HA1, Kp.refl _ _⟩
    case round =>
      obtain ⟨i, hi, rfl, rfl, hA, hk⟩ := hrel
      by_cases hiN : i < x.D.length
      case pos =>
        have za := hA.out.cell i (bools_at (y := false) (by rw [List.getElem?_append_right (by simp), List.length_replicate, Nat.sub_self, List.getElem?_replicate, if_pos (by omega)]))
        have zf := hA.out.open_ i
        have HA2 : Hid (BlkT (wr.setCell ⟨bA, i, none⟩ (.bool true)) bA 4 (bools (List.replicate (i + 1) true ++ List.replicate (x.D.length - (i + 1)) false))) := by
          show BlkT _ _ _ _
          rw [← rep_set hiN, ← bools_set]; exact hA.out.set i _
        have HK2 : Hid (Kp (· = bA) w1 (wr.setCell ⟨bA, i, none⟩ (.bool true))) := hk.out.trans (Kp.set rfl)
        go_wp2_with fail
        go_roundg (x.D.length - (i + 1))
        case measure => omega
        case rel => exact ⟨i + 1, by omega, rfl, by go_num, HA2, HK2⟩
      obtain rfl : i = x.D.length := by omega
      have hA := hA.out
      rw [Nat.sub_self, List.replicate_zero, List.append_nil] at hA
      have HA2 := Lib.hid hA
      have hkk := hk.out
      have HN2 := Lib.hid (HN1.out.kp hkk fun hc => OfT.ne (.of HN1.out) (.of HA1.out) (by decide) hc)
      have HS2 := Lib.hid (HS1.out.kp hkk fun hc => HAS.out hc.symm)
      have HBN2 := Lib.hid (HBN.out.kp hkk fun hc => OfT.ne (.of HBN.out) (.of HA1.out) (by decide) hc)
      have HG2 := Lib.hid (show Gr w0 wr from Below.trans HG1.out (hkk.below (fun b hb => by rw [hb]; exact HGE.out.1) HG1.out.size))
      clear hA hkk hk HA1 HN1 HS1 HBN HG1
      generalize wr = w2 at *
      obtain ⟨pv, hpv⟩ : ∃ pv, decide (v ≥ 0) = pv := ⟨_, rfl⟩
      have HPV := Lib.hid hpv
      go_upto_if 39 with fail
      clear hpv
      go_cut [] from 40 to 46 (fun wx => ∃ (now : List Int) (set : List Bool), Hid (BlkT wx bN 2 (ints now) ∧ BlkT wx bS 4 (bools set) ∧ now.length = x.D.length ∧ set.length = x.D.length ∧ (∀ y ∈ now, Near y) ∧ gOf now set = g) ∧ Hid (Kp (fun b => b = bN ∨ b = bS) w2 wx))
      case first =>
        cases pv with
        | false =>
          have hv0 : v < 0 := by have := of_decide_eq_false HPV.out; omega
          have hgn : g = fun _ => none := by
            rcases HV.out with ⟨_, h⟩ | ⟨vn, h, _⟩
            · exact h
            · omega
          have hgo : gOf (List.replicate x.D.length (0 : Int)) (List.replicate x.D.length false) = g := by
            rw [hgn]; funext u
            rw [gOf, if_neg]
            rintro ⟨_, h⟩
            rw [List.getD_eq_getElem?_getD, List.getElem?_replicate] at h
            split at h <;> simp at h
          have HF : Hid (BlkT w2 bN 2 (ints (List.replicate x.D.length 0)) ∧ BlkT w2 bS 4 (bools (List.replicate x.D.length false)) ∧ (List.replicate x.D.length (0 : Int)).length = x.D.length ∧ (List.replicate x.D.length false).length = x.D.length ∧ (∀ y ∈ List.replicate x.D.length (0 : Int), Near y) ∧ gOf (List.replicate x.D.length (0 : Int)) (List.replicate x.D.length false) = g) := ⟨HN2.out, HS2.out, List.length_replicate .., List.length_replicate .., near_rep _, hgo⟩
          clear hv0 hgn hgo
          go_wp2_with fail
          go_meet
          exact ⟨_, _, HF, Kp.refl _ _⟩
        | true =>
          have hv0 : ¬ v < 0 := by have := of_decide_eq_true HPV.out; omega
          obtain ⟨vn, rfl, hvn, hzn, hgn⟩ : ∃ vn : Nat, v = vn ∧ vn < x.D.length ∧ Near z ∧ g = updG (fun _ => none) (vn : Int) z := HV.out.resolve_left fun h => hv0 h.1
          have hb0 := HBN2.out.cell 0 (v := .slice (some ⟨bN, 0, none⟩) x.D.length x.D.length) rfl
          have hvr : (List.replicate x.D.length (0 : Int))[vn]? = some 0 := by rw [List.getElem?_replicate, if_pos hvn]
          have hvb : (List.replicate x.D.length false)[vn]? = some false := by rw [List.getElem?_replicate, if_pos hvn]
          have zN := HN2.out.cell vn (ints_at hvr)
          have fN := HN2.out.open_ vn
          have hk1 : Kp (· = bN) w2 (w2.setCell ⟨bN, vn, none⟩ (.int .i64 z)) := Kp.set rfl
          have hne : bN ≠ bS := OfT.ne (.of HN2.out) (.of HS2.out) (by decide)
          have hS3 := HS2.out.kp hk1 (fun e => hne e.symm)
          have zS := hS3.cell vn (bools_at hvb)
          have fS := hS3.open_ vn
          have hN3 := HN2.out.set vn (.int .i64 z)
          rw [ints_set] at hN3
          have hk2 : Kp (· = bS) (w2.setCell ⟨bN, vn, none⟩ (.int .i64 z)) ((w2.setCell ⟨bN, vn, none⟩ (.int .i64 z)).setCell ⟨bS, vn, none⟩ (.bool true)) := Kp.set rfl
          have hN4 := hN3.kp hk2 hne
          have hS4 := hS3.set vn (.bool true)
          rw [bools_set] at hS4
          have HF : Hid (BlkT ((w2.setCell ⟨bN, vn, none⟩ (.int .i64 z)).setCell ⟨bS, vn, none⟩ (.bool true)) bN 2 (ints ((List.replicate x.D.length 0).set vn z)) ∧ BlkT ((w2.setCell ⟨bN, vn, none⟩ (.int .i64 z)).setCell ⟨bS, vn, none⟩ (.bool true)) bS 4 (bools ((List.replicate x.D.length false).set vn true)) ∧ ((List.replicate x.D.length (0 : Int)).set vn z).length = x.D.length ∧ ((List.replicate x.D.length false).set vn true).length = x.D.length ∧ (∀ y ∈ (List.replicate x.D.length (0 : Int)).set vn z, Near y) ∧ gOf ((List.replicate x.D.length (0 : Int)).set vn z) ((List.replicate x.D.length false).set vn true) = g) :=
            ⟨hN4, hS4, by simp, by simp, fun y hy => (mem_set' hy).elim (near_rep _ y) fun e => e ▸ hzn, by rw [hgn]; exact gOf_new hvn z⟩
          have HK : Hid (Kp (fun b => b = bN ∨ b = bS) w2 ((w2.setCell ⟨bN, vn, none⟩ (.int .i64 z)).setCell ⟨bS, vn, none⟩ (.bool true))) := (hk1.mono fun b hb => .inl hb).trans (hk2.mono fun b hb => .inr hb)
          have hvI : (vn : Int) < (x.D.length : Int) := by omega
          clear hv0 hzn hgn hvr hvb hk1 hk2 hS3 hN3 hN4 hS4 hne
          go_wp2_with fail
          go_meet
          exact ⟨_, _, HF, HK⟩
      case rest =>
        obtain ⟨now, set, hns, hk⟩ := hcut
        have HNN := Lib.hid hns.out.1
        have HSS := Lib.hid hns.out.2.1
        have HLN := Lib.hid hns.out.2.2.1
        have HLS := Lib.hid hns.out.2.2.2.1
        have HNR := Lib.hid hns.out.2.2.2.2.1
        have HGO := Lib.hid hns.out.2.2.2.2.2
        have hkk := hk.out
        have HA3 := Lib.hid (HA2.out.kp hkk fun hc => by
          rcases hc with hc | hc
          · exact OfT.ne (.of HA2.out) (.of HN2.out) (by decide) hc
          · exact HAS.out hc)
        have HBN3 := Lib.hid (HBN2.out.kp hkk fun hc => by
          rcases hc with hc | hc
          · exact OfT.ne (.of HBN2.out) (.of HN2.out) (by decide) hc
          · exact OfT.ne (.of HBN2.out) (.of HS2.out) (by decide) hc)
        have HG3 : Hid (Gr w0 wc) := Below.trans HG2.out (hkk.below (fun b hb => by
          have := HGE.out
          rcases hb with rfl | rfl <;> omega) HG2.out.size)
        clear hns hk hkk HN2 HS2 HA2 HBN2 HG2
        go_upto_region 12 with fail
        go_loopg [14] x.C.length (fun k jv wr => ∃ j : Nat, j ≤ x.C.length ∧ k = x.C.length - j ∧ jv = .int .i64 ((j : Nat) : Int) ∧ Hid (∀ i y, i < j → x.C[i]? = some y → stillG y.con g = true) ∧ Hid (Gr wc wr))
        case atStart => exact ⟨0, Nat.zero_le _, rfl, rfl, fun i y hi => by omega, Gr.rfl' _⟩
        case round =>
          obtain ⟨j, hj, rfl, rfl, hst, gr⟩ := hrel
          have b1 := (HB0.out.gr (HG3.out.trans gr.out)).cell 1 (v := .slice x.cp x.C.length x.cc) rfl
          by_cases hjC : j < x.C.length
          case pos =>
            have n0 := (HBN3.out.gr gr.out).cell 0 (v := .slice (some ⟨bN, 0, none⟩) x.D.length x.D.length) rfl
            obtain ⟨y, hy⟩ : ∃ y, x.C[j]? = some y := ⟨_, List.getElem?_eq_getElem hjC⟩
            have hyin := List.mem_of_getElem? hy
            have GW := Lib.hid (HG0.out.trans (HG3.out.trans gr.out))
            obtain ⟨cb, co, hcpe, _, hcells⟩ := (HX.out.mono GW.out).cns.resolve_left (fun e0 => by rw [e0] at hyin; exact (List.not_mem_nil hyin))
            have x0 := hcells _ y hy 0 (.int .i64 y.k) rfl
            have x1 := hcells _ y hy 1 (.slice y.vp y.vs.length y.vc) rfl
            have x2 := hcells _ y hy 2 (.slice y.cp y.cs.length y.cc) rfl
            have x3 := hcells _ y hy 3 (.int .i64 y.op) rfl
            have x4 := hcells _ y hy 4 (.int .i64 y.c) rfl
            simp only [← Nat.add_assoc, Nat.add_zero] at x0 x1 x2 x3 x4
            rw [hcpe] at b1
            have HStl : Hid (∀ W, Gr wr W → Calls Try.prog 36 #[.agg #[.int .i64 y.k, .slice y.vp y.vs.length y.vc, .slice y.cp y.cs.length y.cc, .int .i64 y.op, .int .i64 y.c], .slice (some ⟨bN, 0, none⟩) x.D.length x.D.length, .slice (some ⟨bS, 0, none⟩) x.D.length x.D.length] W (Ret (.bool (stillG y.con g)) W)) := fun W hW => by
              have h := still_calls y now set (some ⟨bN, 0, none⟩) now.length (some ⟨bS, 0, none⟩) set.length W ((HX.out.mono (GW.out.trans hW)).ins y hyin) (ints_sl (HNN.out.gr (gr.out.trans hW)) HNR.out (by rw [HLN.out]; have := HFEW.out; omega)) (bools_sl (HSS.out.gr (gr.out.trans hW)) (by rw [HLS.out]; have := HFEW.out; omega)) (by rw [HLS.out, HLN.out]) (by rw [HLN.out]; exact HOK.out _ (List.mem_map.2 ⟨y, hyin, rfl⟩)) HNR.out
              rw [HLN.out, HLS.out, HGO.out] at h
              exact h
            have HNo : Hid (stillG y.con g = false → ([] : List (List Int)) = L) := fun h => by
              rw [← HL.out, stillG_sols HOK.out (List.all_eq_false.2 ⟨y.con, List.mem_map.2 ⟨y, hyin, rfl⟩, by rw [h]; decide⟩), List.take_nil]
            have HYes : Hid (stillG y.con g = true → ∀ i u, i < j + 1 → x.C[i]? = some u → stillG u.con g = true) := fun h i u hi hu => by
              by_cases hij : i = j
              · subst hij
                rw [hy] at hu; cases hu; exact h
              · exact hst.out i u (by omega) hu
            obtain ⟨sb, hsb⟩ : ∃ sb, stillG y.con g = sb := ⟨_, rfl⟩
            rw [hsb] at HStl HNo HYes
            clear hy hyin hcells hcpe hsb
            go_upto_region 14 with fail
            refine wp_region_rely [fx (.pointer (some ⟨bx, 1, none⟩)), fx (.slice (some ⟨cb, co, none⟩) x.C.length x.cc), fx (.int .i64 (j : Nat)), fx (.pointer (some ⟨cb, co + j * 5, none⟩)), fx (.agg #[.int .i64 y.k, .slice y.vp y.vs.length y.vc, .slice y.cp y.cs.length y.cc, .int .i64 y.op, .int .i64 y.c]), fx (.slice (some ⟨bN, 0, none⟩) x.D.length x.D.length), fx (.slice (some ⟨bS, 0, none⟩) x.D.length x.D.length), fx (.bool sb), fx (.bool (!sb))]
              (by kernel_rfl) (by kernel_rfl) (by repeat (first | exact Stable.nil | refine Stable.fix ?_)) ?_ ?_
            · refine ⟨?_, ?_, ?_, ?_, ?_, ?_, ?_, ?a7, ?_, trivial⟩
              case a7 =>
                intro fr wz hg hold
                have h4 : fr.tmps[4]?.getD undef = .pointer (some ⟨bx, 0, none⟩) := hold 4 rfl
                have h12 : fr.tmps[12]?.getD undef = .pointer (some ⟨bn, 0, none⟩) := hold 12 rfl
                have h11 : fr.tmps[11]?.getD undef = .slice (some ⟨bS, 0, none⟩) x.D.length x.D.length := hold 11 rfl
                have h14 : fr.tmps[14]?.getD undef = .int .i64 (j : Nat) := hold 14 rfl
                clear hold
                have B1 := Gr.at hg b1
                have N0 := Gr.at hg n0
                have X0 := Gr.at hg x0
                have X1 := Gr.at hg x1
                have X2 := Gr.at hg x2
                have X3 := Gr.at hg x3
                have X4 := Gr.at hg x4
                simp [predsImp, Region.binds, dstAt, fx]
                intros
                rename_i K hK
                go_simp
                refine (HStl.out wz hg).mono ?_
                rintro e9 w9 ⟨rfl, k1⟩
                exact hK _ _ rfl k1
              all_goals
                intro fr wz hg hold
                have h4 : fr.tmps[4]?.getD undef = .pointer (some ⟨bx, 0, none⟩) := hold 4 rfl
                have h12 : fr.tmps[12]?.getD undef = .pointer (some ⟨bn, 0, none⟩) := hold 12 rfl
                have h11 : fr.tmps[11]?.getD undef = .slice (some ⟨bS, 0, none⟩) x.D.length x.D.length := hold 11 rfl
                have h14 : fr.tmps[14]?.getD undef = .int .i64 (j : Nat) := hold 14 rfl
                clear hold
                have B1 := Gr.at hg b1
                have N0 := Gr.at hg n0
                have X0 := Gr.at hg x0
                have X1 := Gr.at hg x1
                have X2 := Gr.at hg x2
                have X3 := Gr.at hg x3
                have X4 := Gr.at hg x4
                simp [predsImp, Region.binds, dstAt, fx]
                intros
                first
                  | (rw [if_pos (by simp [*])]
                     intro K hK)
                  | (rename_i K hK)
                go_simp
              all_goals exact hK _ _ rfl (Gr.rfl' _)
            · intro wz hg
              rintro _ rfl _ rfl _ rfl _ rfl _ rfl _ rfl _ rfl _ rfl _ rfl
              simp only [finAll, Act.put, List.setIfInBounds_toArray, List.set_cons_succ, List.set_cons_zero]
              clear b1 n0 x0 x1 x2 x3 x4
              have HGZ := Lib.hid (gr.out.trans hg)
              clear hg
              cases sb with
              | false =>
                have HF := Lib.hid (HNo.out rfl)
                go_wp2_with fail
                exact hR.out [] none 0 _ HF.out (HG0.out.trans (HG3.out.trans HGZ.out)) (RowsBack.nil _)
              | true =>
                have HY2 := Lib.hid (HYes.out rfl)
                go_wp2_with fail
                go_roundg (x.C.length - (j + 1))
                case measure => omega
                case rel => exact ⟨j + 1, by omega, rfl, by go_num, HY2, HGZ⟩
          obtain rfl : j = x.C.length := by omega
          have HAll : Hid (x.cons.all (fun c => stillG c g) = true) := List.all_eq_true.2 fun c hc => by
            obtain ⟨y, hy, rfl⟩ := List.mem_map.1 hc
            obtain ⟨i, hi⟩ := List.getElem?_of_mem hy
            exact hst.out i y (List.getElem?_eq_some_iff.1 hi).1 hi
          have GWR := Lib.hid (HG0.out.trans (HG3.out.trans gr.out))
          have b0 := (HB0.out.gr (HG3.out.trans gr.out)).cell 0 (v := .slice x.dp x.D.length x.dc) rfl
          have n0 := (HBN3.out.gr gr.out).cell 0 (v := .slice (some ⟨bN, 0, none⟩) x.D.length x.D.length) rfl
          have hA4 := HA3.out.gr gr.out
          have hN4 := HNN.out.gr gr.out
          have hS4 := HSS.out.gr gr.out
          have hO4 := HBO.out.gr (HG3.out.trans gr.out)
          have hM4 := HM0.out.gr (HG3.out.trans gr.out)
          have hB4 := HBN3.out.gr gr.out
          have hok := solE_ok (bn := bn) (bm := bm) HX.out GWR.out HCK.out HM.out hA4 (.of hN4) (.of hS4) (.of hO4) (.of hM4) (.of hB4) HAS.out (by have := HGE.out; have := HG0.out.size; omega) (by have := HGE.out; have := HG0.out.size; omega) HBOG.out
          have hch := choose_calls (solE x wr bN bS bo bm bn bA most) hok [] wr now set HM1.out ⟨⟨.slice none 0 0, [], hO4, ⟨World.ownsRow_nil _ _ _ 1, fun i d hi => by simp at hi⟩⟩, hM4, hB4, ⟨hM4.lt, hB4.lt⟩, fun s hs => by cases hs⟩ ⟨Kp.refl _ _, hN4, hS4, HLN.out, HLS.out, HNR.out⟩
          have HCh : Hid (Calls Try.prog 37 #[.slice x.dp x.D.length x.dc, .slice x.cp x.C.length x.cc, .slice (some ⟨bA, 0, none⟩) x.D.length x.D.length, .slice (some ⟨bS, 0, none⟩) x.D.length x.D.length, .int .i64 0, .slice (some ⟨bN, 0, none⟩) x.D.length x.D.length, .func (.func 41) #[] #[.pointer (some ⟨bo, 0, none⟩), .pointer (some ⟨bn, 0, none⟩), .pointer (some ⟨bm, 0, none⟩)]] wr fun e w' => ∃ (b : Bool) (p : Option Addr) (c : Nat), e = .returned (.bool b) ∧ BlkT w' bo 22 #[.slice p L.length c] ∧ RowsBack w' p c L ∧ Gr w w') := by
            refine Calls.mono (show Calls Try.prog 37 #[.slice x.dp x.D.length x.dc, .slice x.cp x.C.length x.cc, .slice (some ⟨bA, 0, none⟩) x.D.length x.D.length, .slice (some ⟨bS, 0, none⟩) x.D.length x.D.length, .int .i64 0, .slice (some ⟨bN, 0, none⟩) x.D.length x.D.length, .func (.func 41) #[] #[.pointer (some ⟨bo, 0, none⟩), .pointer (some ⟨bn, 0, none⟩), .pointer (some ⟨bm, 0, none⟩)]] wr _ from hch) ?_
            rintro e w' ⟨now', h1, h2, h3, -⟩
            have hlv : (solE x wr bN bS bo bm bn bA most).leaves 0 (gOf now set) = chL x.cons (fun _ => true) x.D 0 g := by
              show chL (x.C.map Cn.con) (fun k => (List.replicate x.D.length true).getD k false) (x.D.drop 0) 0 (gOf now set) = _
              rw [HGO.out, List.drop_zero]
              refine chL_congr _ _ _ fun k _ hk => ?_
              rw [Nat.zero_add] at hk
              rw [List.getD_eq_getElem?_getD, List.getElem?_replicate, if_pos hk]; rfl
            have hfd : feedS (solE x wr bN bS bo bm bn bA most).step [] ((solE x wr bN bS bo bm bn bA most).leaves 0 (gOf now set)) = (L, decide (((sols x.cons (domsG g x.D 0)).length : Int) < most)) := by
              rw [hlv]
              show feedS (fun told (g' : Int → Option Int) => (fun (t : List (List Int)) (s : List Int) => (t ++ [s], decide (((t ++ [s]).length : Int) < most))) told (rowG g' 0 x.D.length)) [] (chL x.cons (fun _ => true) x.D 0 g) = _
              rw [feedS_map (fun (t : List (List Int)) (s : List Int) => (t ++ [s], decide (((t ++ [s]).length : Int) < most))) (fun g' => rowG g' 0 x.D.length), chL_sols HOK.out HAll.out, feedS_most most [] _ HM1.out, List.nil_append, HL.out]
            rw [hfd] at h1 h2
            have h2 : TellR wr x.D.length bo bm bn bN most L w' := h2
            obtain ⟨ov, xs, h4, h5⟩ := h2.row
            obtain ⟨p, c, rfl⟩ := ownsRow_form h5.row
            obtain ⟨-, h6, h7, h8⟩ := RowsOwn.of_bld h5 (Nat.le_refl _)
            refine ⟨_, p, c, h1, h4, ⟨h6.at fun s hs => (h2.each s hs).2, h7, h8⟩, Below.trans GWR.out (h3.kp.below (fun b hb => ?_) GWR.out.size)⟩
            have := HGE.out
            have := HG0.out.size
            rcases hb with hb | hb | hb
            · have hb : b = bN := hb
              omega
            · have hb : b = bS := hb
              omega
            · have hb : b = bo := hb
              rw [hb]; exact HBOG.out
          clear hA4 hN4 hS4 hO4 hM4 hB4 hok hch hst
          go_wp2_with (first
            | (go_at_call 37; refine HCh.out.mono ?_; rintro e5 w5 ⟨b5, p, c, rfl, h6, h7, h8⟩; have o0 := h6.cell 0 (v := .slice p L.length c) rfl; have HF := Lib.hid (hR.out L p c w5 rfl h8 h7); clear h6 h7 h8 b0 b1 n0)
            | fail)
          exact HF.out
end Go.Proofs.Ytbapmokbkjmdcaa
