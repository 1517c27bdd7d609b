/-
  DomainFinds: the law's walk.
-/
import Derived.Test.YtbapmokbkjmdcaaDF01
import Derived.Test.YtbapmokbkjmdcaaDO01
namespace Go.Proofs.Ytbapmokbkjmdcaa
open Go.RowKit Go.Maps Go.Lib

theorem near_asg {s : List Int} (h : ∀ y ∈ s, Near y) (v : Int) : Near (asg s v) := by
  unfold asg
  by_cases hv : v.toNat < s.length
  · rw [getD_lt 0 hv]; exact h _ (List.getElem_mem hv)
  · rw [List.getD_eq_getElem?_getD, List.getElem?_eq_none (by omega)]
    exact ⟨by decide, by decide⟩
/-- What is so of a solution. -/
theorem sol_facts {C : List Con} {D : List (List Int)} {s : List Int} (h : s ∈ sols C D) : s.length = D.length ∧ (∀ (v : Nat) (d : List Int) (z : Int), D[v]? = some d → s[v]? = some z → z ∈ d) ∧ ∀ c ∈ C, c.sat (asg s) = true := by
  obtain ⟨h1, h2⟩ := mem_sols.1 h
  obtain ⟨h3, h4⟩ := mem_prodL.1 h1
  refine ⟨h3, fun v d z hd hz => ?_, fun c hc => List.all_eq_true.1 h2 c hc⟩
  have := h4 v (List.getElem?_eq_some_iff.1 hd).1
  rw [List.getD_eq_getElem?_getD, List.getD_eq_getElem?_getD, hd, hz] at this
  exact this
theorem prodL_of {D : List (List Int)} {s : List Int} (hl : s.length = D.length) (h : ∀ v, v < s.length → s.getD v 0 ∈ D.getD v []) : s ∈ prodL D := mem_prodL.2 ⟨hl, fun i hi => h i (by omega)⟩
theorem not_found {C : List Con} {D L : List (List Int)} {most : Int} {s : List Int} (hL : (sols C D).take most.toNat = L) (hs : s ∈ sols C D) (hn : s ∉ L) : most ≤ (L.length : Int) := by
  by_cases h : (sols C D).length ≤ most.toNat
  · rw [List.take_of_length_le h] at hL
    exact absurd (hL ▸ hs) hn
  · rw [← hL, List.length_take]; omega
theorem take_mem {L : List (List Int)} {S s : List Int} {i : Nat} (h : L[i]? = some s) : decide (S ∈ L.take (i + 1)) = (decide (S ∈ L.take i) || decide (s = S)) := by
  rw [Bool.eq_iff_iff, decide_eq_true_eq, Bool.or_eq_true, decide_eq_true_eq, decide_eq_true_eq, List.take_add_one, h, List.mem_append]
  constructor
  · exact fun h => h.imp id fun h => (List.mem_singleton.1 h).symm
  · exact fun h => h.imp id fun h => List.mem_singleton.2 h.symm
section
variable {H : Type} {enc : TypeId × Value → H} {W : World}
open Go.ChangeShapes Go.WideShapes Go.ChangeAt Go.Deep
set_option maxRecDepth 100000 in
/-- An argument that is a row of numbers. -/
theorem open_row_arg {r : Reach} {b0 : Nat} {v : Value} {d : DataW H} {p : List MemPlace} (hv : Value.okWide Try.prog W r b0 38 v)
    (h : DataW.Trod enc Try.prog W 0 (fun _ => true) true 38 v d p) (hw : ∀ n ∈ d.weights Try.prog 38, n ≤ reachBytes) : ∃ y : IRow, v = .slice y.p y.l.length y.c ∧ IntSl W y.p y.c y.l := by
  obtain ⟨a0, len0, cap0, rfl⟩ := okWide_slice Try.underlying38 hv
  obtain ⟨fuel, hf⟩ := h
  obtain ⟨y, h1, h2⟩ := open_irow fuel _ _ hf hw
  simp [Value.cells] at h1
  obtain ⟨rfl, rfl, rfl⟩ := h1
  exact ⟨y, rfl, h2⟩
end

set_option maxHeartbeats 16000000 in
set_option maxRecDepth 100000 in
theorem domainFinds_walk (x : Pb) (most : Int) (yr : IRow) (w : World) (hx : x.In w) (_ : In64 most) (hyr : IntSl w yr.p yr.c yr.l) : Calls Try.prog 6 #[x.val, .int .i64 most, .slice yr.p yr.l.length yr.c] w (Ret (.bool true) w) := by
  obtain ⟨qp, qc, S⟩ := yr
  have hR : Hid (∀ w', Gr w w' → Ret (.bool true) w (.returned (.bool true)) w') := fun w' hg => ⟨rfl, hg⟩
  generalize Ret (.bool true) w = Q at hR ⊢
  have HX := Lib.hid hx
  have HS := Lib.hid (show IntSl w qp qc S from hyr)
  have hsc := HS.out.1
  have hsc2 := HS.out.2.1
  have Hth := Lib.hid there_calls
  rw [show x.val = .agg #[.slice x.dp x.D.length x.dc, .slice x.cp x.C.length x.cc] from rfl]
  show Calls Try.prog _ #[_, _, .slice qp S.length qc] _ _
  clear hyr
  go_enter Try.func6, Try.ntmps6
  try simp only [List.append_eq, List.cons_append, List.nil_append]
  go_upto_region 1 with fail
  have hB := BlkT.new w 25 #[.slice x.dp x.D.length x.dc, .slice x.cp x.C.length x.cc]
  have gA : Gr w (w.alloc (.cells #[.slice x.dp x.D.length x.dc, .slice x.cp x.C.length x.cc] 25)) := by go_grown
  obtain ⟨bx, hbx⟩ : ∃ bx, w.heap.size = bx := ⟨_, rfl⟩
  rw [hbx] at hB ⊢
  clear hbx
  generalize w.alloc (.cells #[.slice x.dp x.D.length x.dc, .slice x.cp x.C.length x.cc] 25) = wA at *
  have HB := Lib.hid hB
  have HG := Lib.hid gA
  clear hB gA
  by_cases hm : 20000 < most
  case pos =>
    have hd : decide (20000 < most) = true := decide_eq_true hm
    go_wp2_with fail
    exact hR.out _ HG.out
  have hd : decide (20000 < most) = false := decide_eq_false hm
  have HM := Lib.hid (show most ≤ 20000 by omega)
  have Hsv : Hid (∀ W, Gr w W → Calls Try.prog 15 #[.agg #[.slice x.dp x.D.length x.dc, .slice x.cp x.C.length x.cc], .int .i64 most] W (RetSolve x most W)) := fun W hW => solve_calls x most W (hx.mono hW) HM.out
  clear hm hx
  go_upto_region 5 with (first
    | (go_at_call 14; refine (Hth.out _).mono ?_; rintro e1 w1 ⟨rfl, hb⟩; have HG1 := Lib.hid (HG.out.trans (show Gr wA w1 from hb)); have HB1 := Lib.hid (HB.out.gr (show Gr wA w1 from hb)); clear hb)
    | fail)
  clear hd
  have b0 := HB1.out.cell 0 (v := .slice x.dp x.D.length x.dc) rfl
  have b1 := HB1.out.cell 1 (v := .slice x.cp x.C.length x.cc) rfl
  have H2 := Lib.hid (Hsv.out w1 HG1.out)
  by_cases h0 : checkP x.D x.cons = 0
  case neg =>
    obtain ⟨ec, hec⟩ : ∃ ec, checkP x.D x.cons = ec := ⟨_, rfl⟩
    have HEC := Lib.hid hec
    have H0 := Lib.hid h0
    rw [hec] at h0
    have hb1 : (ec == 0) = false := beq_eq_false_iff_ne.2 h0
    have hb2 : (ec != 0) = true := by rw [bne, hb1]; rfl
    clear hec h0
    go_wp2_with (first
      | (go_at_call 15; refine H2.out.mono ?_; rintro e2 w2 ⟨hg2, hor⟩; obtain rfl : e2 = .returned (.tuple #[.slice none 0 0, .int .i64 ec]) := (by
          rcases hor with ⟨_, h⟩ | ⟨h, _⟩
          · rw [h, HEC.out]
          · exact absurd h H0.out); have G2 := Lib.hid (HG1.out.trans hg2); clear hg2 hor b0 b1)
      | fail)
    exact hR.out _ G2.out
  have HEC := Lib.hid h0
  have HRise : Hid (∀ d ∈ x.D, d.Pairwise (· < ·)) := fun d hd => (okDom_rise ((check_zero h0).1 d hd)).1
  have HNear : Hid (∀ d ∈ x.D, ∀ y ∈ d, Near y) := fun d hd => (okDom_rise ((check_zero h0).1 d hd)).2
  have HOK : Hid (∀ y ∈ x.C, y.con.ok x.D.length = true) := fun y hy => (check_zero h0).2.1 _ (List.mem_map.2 ⟨y, hy, rfl⟩)
  clear h0
  obtain ⟨L, hL⟩ : ∃ L, (sols x.cons x.D).take most.toNat = L := ⟨_, rfl⟩
  have HL := Lib.hid hL
  have HLS : Hid (∀ s ∈ L, s ∈ sols x.cons x.D) := fun s hs => List.mem_of_mem_take (hL ▸ hs)
  have HLR : Hid (L.Pairwise (fun a b => befL a b = true)) := hL ▸ sols_rise HRise.out _
  clear hL
  go_upto_region 6 with (first
    | (go_at_call 15; refine H2.out.mono ?_; rintro e2 w2 ⟨hg2, hor⟩; obtain ⟨lp, lc, he2, hro, hlc, hlc', hnr⟩ : ∃ p c, e2 = .returned (.tuple #[.slice p L.length c, .int .i64 0]) ∧ RowsOwn w1.heap.size w2 p L ∧ L.length ≤ c ∧ c ≤ 9223372036854775807 ∧ ∀ s ∈ L, ∀ y ∈ s, Near y := (by
        rcases hor with ⟨h, _⟩ | ⟨_, L', p, c, h1, h2, h3, h4, h5, h6⟩
        · exact absurd HEC.out h
        · obtain rfl : L' = L := h1.trans HL.out
          exact ⟨p, c, h2, h3, h4, h5, fun s hs => (h6 s hs).2⟩); subst he2; have HLA := Lib.hid (hro.at hnr); have HLN := Lib.hid hnr; have G2 := Lib.hid (HG1.out.trans hg2); have HB2 := Lib.hid (HB1.out.gr hg2); clear hg2 hor hro hnr b0 b1)
    | fail)
  have b0 := HB2.out.cell 0 (v := .slice x.dp x.D.length x.dc) rfl
  have hDl := HX.out.lenD.1
  have hDc := HX.out.lenD.2
  have hCl := HX.out.lenC.1
  have hCc := HX.out.lenC.2
  go_upto_block 0 with fail
  clear b0
  go_cut [9, 10] from 37 to 56 (fun ov vv wx => ∃ b : Bool, ov = .bool b ∧ Hid (b = true → S ∈ prodL x.D) ∧ Hid (Gr w2 wx))
  case first =>
    go_wp2_with fail
    go_loopg [9, 10] S.length (fun k ov vv wr => ∃ (v : Nat) (b : Bool), v ≤ S.length ∧ k = S.length - v ∧ ov = .bool b ∧ vv = .int .i64 ((v : Nat) : Int) ∧ Hid (b = true → S.length = x.D.length ∧ ∀ k, k < v → S.getD k 0 ∈ x.D.getD k []) ∧ Hid (Gr w2 wr))
    case atStart => exact ⟨0, _, Nat.zero_le _, rfl, rfl, rfl, fun h => ⟨by have := beq_iff_eq.1 h; omega, fun k hk => by omega⟩, Gr.rfl' _⟩
    case round =>
      obtain ⟨v, b, hv, rfl, rfl, rfl, hin, gr⟩ := hrel
      cases b with
      | false =>
        go_wp2_with fail
        go_meet
        exact ⟨false, rfl, (fun h => by cases h), gr⟩
      | true =>
        by_cases hvS : v < S.length
        case neg =>
          obtain rfl : v = S.length := by omega
          have HP := Lib.hid (prodL_of (hin.out rfl).1 (hin.out rfl).2)
          go_wp2_with fail
          go_meet
          exact ⟨true, rfl, fun _ => HP.out, gr⟩
        have hvD : v < x.D.length := by rw [← (hin.out rfl).1]; exact hvS
        obtain ⟨d, hd⟩ : ∃ d, x.D[v]? = some d := ⟨_, List.getElem?_eq_getElem hvD⟩
        obtain ⟨z, hz⟩ : ∃ z, S[v]? = some z := ⟨_, List.getElem?_eq_getElem hvS⟩
        obtain ⟨rb, ro, hdp, _, hrd⟩ := (HX.out.mono (G2.out.trans gr.out)).rows.resolve_left (fun e0 => by rw [e0] at hvD; simp at hvD)
        obtain ⟨qd, cd, d0, hsl⟩ := hrd v d hd
        obtain ⟨sb, so, hqp, _, hrs⟩ := (HS.out.mono (G2.out.trans gr.out)).ptr (by omega)
        subst hqp
        have s0 := hrs v z hz
        have b0 := (HB2.out.gr gr.out).cell 0 (v := .slice x.dp x.D.length x.dc) rfl
        rw [hdp] at b0
        have HSLD := Lib.hid hsl
        have HIn : Hid (∀ b', decide (hasIdx d z ≥ 0) = b' → (b' = true → S.length = x.D.length ∧ ∀ k, k < v + 1 → S.getD k 0 ∈ x.D.getD k [])) := fun b' hb' h => by
          refine ⟨(hin.out rfl).1, fun k hk => ?_⟩
          by_cases hkv : k = v
          · subst hkv
            rw [List.getD_eq_getElem?_getD, List.getD_eq_getElem?_getD, hz, hd]
            rw [h] at hb'
            exact hasIdx_ge.1 (of_decide_eq_true hb')
          · exact (hin.out rfl).2 k (by omega)
        obtain ⟨b', hb'⟩ : ∃ b', decide (hasIdx d z ≥ 0) = b' := ⟨_, rfl⟩
        have HBB := Lib.hid (HIn.out b' hb')
        clear hsl hrd hrs hd hz hdp
        go_upto_region 12 with fail
        refine wp_region_rely_tail 11 [fx (.pointer (some ⟨bx, 0, none⟩)), fx (.slice (some ⟨rb, ro, none⟩) x.D.length x.dc), fx (.int .i64 (v : Nat)), fx (.pointer (some ⟨rb, ro + v, none⟩)), fx (.slice qd d.length cd), fx (.slice (some ⟨sb, so, none⟩) S.length qc), fx (.int .i64 (v : Nat)), fx (.pointer (some ⟨sb, so + v, none⟩)), fx (.int .i64 z), fx (.int .i64 (hasIdx d z)), fx (.bool b')]
          (by kernel_rfl) (by kernel_rfl) (by decide) (by repeat (first | exact Stable.nil | refine Stable.fix ?_)) ?_ ?_
        · refine ⟨?_, ?_, ?_, ?_, ?_, ?_, ?_, ?_, ?_, ?a9, ?_, trivial⟩
          case a9 =>
            intro fr wz hg hold
            have h2 : fr.tmps[2]?.getD undef = .slice (some ⟨sb, so, none⟩) S.length qc := hold 2 rfl
            have h3 : fr.tmps[3]?.getD undef = .pointer (some ⟨bx, 0, none⟩) := hold 3 rfl
            have h10 : fr.tmps[10]?.getD undef = .int .i64 (v : Nat) := hold 10 rfl
            clear hold
            have B0 := Gr.at hg b0
            have D0 := Gr.at hg d0
            have S0 := Gr.at hg s0
            simp [predsImp, Region.binds, dstAt, fx]
            intros
            rename_i K hK
            go_simp
            refine (has_calls qd cd d z wz (HSLD.out.mono hg)).mono ?_
            rintro e9 w9 ⟨rfl, k1⟩
            exact hK _ _ rfl k1
          all_goals
            intro fr wz hg hold
            have h2 : fr.tmps[2]?.getD undef = .slice (some ⟨sb, so, none⟩) S.length qc := hold 2 rfl
            have h3 : fr.tmps[3]?.getD undef = .pointer (some ⟨bx, 0, none⟩) := hold 3 rfl
            have h10 : fr.tmps[10]?.getD undef = .int .i64 (v : Nat) := hold 10 rfl
            clear hold
            have B0 := Gr.at hg b0
            have D0 := Gr.at hg d0
            have S0 := Gr.at hg s0
            simp [predsImp, Region.binds, dstAt, fx]
            intros
            first
              | (rw [if_pos (by simp [*])]
                 intro K hK)
              | (rename_i K hK)
            go_simp
          all_goals exact hK _ _ rfl (Gr.rfl' _)
        · intro wz hg
          rintro _ rfl _ rfl _ rfl _ rfl _ rfl _ rfl _ rfl _ rfl _ rfl _ rfl _ rfl
          simp only [finAll, Act.put, List.setIfInBounds_toArray, List.set_cons_succ, List.set_cons_zero, List.drop_succ_cons, List.drop_zero, List.take_zero]
          clear b0 d0 s0
          have HGZ := Lib.hid (gr.out.trans hg)
          clear hg hb'
          go_wp2_with fail
          go_roundg (S.length - (v + 1))
          case measure => omega
          case rel => exact ⟨v + 1, b', by omega, rfl, rfl, by go_num, HBB, HGZ⟩
  case rest =>
    obtain ⟨b, rfl, hpr, gw⟩ := hcut
    go_upto_block 2 with fail
    go_cut [9, 11] from 57 to 73 (fun ov jv wx => ∃ b : Bool, ov = .bool b ∧ Hid (b = true → S ∈ sols x.cons x.D) ∧ Hid (Gr w2 wx))
    case first =>
      go_wp2_with fail
      go_loopg [9, 11] x.C.length (fun k ov jv wr => ∃ (j : Nat) (b : Bool), j ≤ x.C.length ∧ k = x.C.length - j ∧ ov = .bool b ∧ jv = .int .i64 ((j : Nat) : Int) ∧ Hid (b = true → S ∈ prodL x.D ∧ ∀ i y, i < j → x.C[i]? = some y → y.con.sat (asg S) = true) ∧ Hid (Gr w2 wr))
      case atStart => exact ⟨0, _, Nat.zero_le _, rfl, rfl, rfl, fun h => ⟨hpr.out h, fun i y hi => by omega⟩, gw⟩
      case round =>
        obtain ⟨j, b, hj, rfl, rfl, rfl, hin, gr⟩ := hrel
        have b1 := (HB2.out.gr gr.out).cell 1 (v := .slice x.cp x.C.length x.cc) rfl
        cases b with
        | false =>
          go_wp2_with fail
          go_meet
          exact ⟨false, rfl, (fun h => by cases h), gr⟩
        | true =>
          by_cases hjC : j < x.C.length
          case neg =>
            obtain rfl : j = x.C.length := by omega
            have HP : Hid (S ∈ sols x.cons x.D) := mem_sols.2 ⟨(hin.out rfl).1, List.all_eq_true.2 fun c hc => by
              obtain ⟨y, hy, rfl⟩ := List.mem_map.1 hc
              obtain ⟨i, hi⟩ := List.getElem?_of_mem hy
              exact (hin.out rfl).2 i y (List.getElem?_eq_some_iff.1 hi).1 hi⟩
            go_wp2_with fail
            go_meet
            exact ⟨true, rfl, fun _ => HP.out, gr⟩
          obtain ⟨y, hy⟩ : ∃ y, x.C[j]? = some y := ⟨_, List.getElem?_eq_getElem hjC⟩
          have hyin := List.mem_of_getElem? hy
          obtain ⟨cb, co, hcpe, _, hcells⟩ := (HX.out.mono (G2.out.trans gr.out)).cns.resolve_left (fun e0 => by rw [e0] at hyin; exact (List.not_mem_nil hyin))
          have x0 := hcells _ y hy 0 (.int .i64 y.k) rfl
          have x1 := hcells _ y hy 1 (.slice y.vp y.vs.length y.vc) rfl
          have x2 := hcells _ y hy 2 (.slice y.cp y.cs.length y.cc) rfl
          have x3 := hcells _ y hy 3 (.int .i64 y.op) rfl
          have x4 := hcells _ y hy 4 (.int .i64 y.c) rfl
          simp only [← Nat.add_assoc, Nat.add_zero] at x0 x1 x2 x3 x4
          rw [hcpe] at b1
          have hSl := (mem_prodL.1 (hin.out rfl).1).1
          have HMt := Lib.hid (meets_calls y S qp qc wr ((HX.out.mono (G2.out.trans gr.out)).ins y hyin) (HS.out.mono (G2.out.trans gr.out)) (by rw [hSl]; exact HOK.out y hyin) (fun v _ => near_asg (fun u hu => by
            obtain ⟨k, hk, rfl⟩ := List.getElem_of_mem hu
            have h9 := (mem_prodL.1 (hin.out rfl).1).2 k (by omega)
            rw [getD_lt 0 hk, getD_lt [] (by omega)] at h9
            exact HNear.out _ (List.getElem_mem _) _ h9) v))
          rw [show y.val = .agg #[.int .i64 y.k, .slice y.vp y.vs.length y.vc, .slice y.cp y.cs.length y.cc, .int .i64 y.op, .int .i64 y.c] from rfl] at HMt
          obtain ⟨b', hb'⟩ : ∃ b', y.con.sat (asg S) = b' := ⟨_, rfl⟩
          rw [hb'] at HMt
          have HBB : Hid (b' = true → S ∈ prodL x.D ∧ ∀ i y, i < j + 1 → x.C[i]? = some y → y.con.sat (asg S) = true) := fun h => ⟨(hin.out rfl).1, fun i u hi hu => by
            by_cases hij : i = j
            · subst hij
              rw [hy] at hu
              cases hu
              rw [hb', h]
            · exact (hin.out rfl).2 i u (by omega) hu⟩
          clear hy hyin hcells hcpe hSl hb'
          go_wp2_with (first
            | (go_at_call 20; refine HMt.out.mono ?_; rintro e4 w4 ⟨rfl, hb⟩; have G4 := Lib.hid (gr.out.trans (show Gr wr w4 from hb)); clear hb b1 x0 x1 x2 x3 x4)
            | fail)
          go_roundg (x.C.length - (j + 1))
          case measure => omega
          case rel => exact ⟨j + 1, b', by omega, rfl, rfl, by go_num, HBB, G4⟩
    case rest =>
      clear hpr gw
      obtain ⟨ob, rfl, hso, gw⟩ := hcut
      have hLl := hlc
      go_upto_region 19 with fail
      have HF0 : Hid (false = decide (S ∈ L.take 0)) := by show _ = _; rw [List.take_zero]; rfl
      go_loopg [12, 13, 14, 15] L.length (fun k fv iv u14 u15 wr => ∃ (i : Nat) (fb : Bool), i ≤ L.length ∧ k = L.length - i ∧ fv = .bool fb ∧ iv = .int .i64 ((i : Nat) : Int) ∧ Hid (fb = decide (S ∈ L.take i)) ∧ Hid (Gr w2 wr))
      case atStart => exact ⟨0, false, Nat.zero_le _, rfl, rfl, rfl, HF0, gw⟩
      case round =>
        clear HF0 gw
        obtain ⟨i, fb, hi, rfl, rfl, rfl, hfb, gr⟩ := hrel
        by_cases hiL : i < L.length
        case neg =>
          obtain rfl : i = L.length := by omega
          have hfb := hfb.out
          rw [List.take_length] at hfb
          have HFB := Lib.hid hfb
          clear hfb
          cases ob with
          | false =>
            go_wp2_with fail
            exact hR.out _ (G2.out.trans gr.out)
          | true =>
            cases fb with
            | true =>
              go_wp2_with fail
              exact hR.out _ (G2.out.trans gr.out)
            | false =>
              have hge := not_found HL.out (hso.out rfl) (of_decide_eq_false HFB.out.symm)
              have hge2 : decide ((L.length : Int) ≥ most) = true := decide_eq_true hge
              go_wp2_with fail
              exact hR.out _ (G2.out.trans gr.out)
        obtain ⟨s, hs⟩ : ∃ s, L[i]? = some s := ⟨_, List.getElem?_eq_getElem hiL⟩
        have hsin := List.mem_of_getElem? hs
        obtain ⟨hsl, hsm, hss⟩ := sol_facts (HLS.out s hsin)
        have HSM := Lib.hid hsm
        have HSS := Lib.hid hss
        have HSLen := Lib.hid hsl
        have HSN := Lib.hid (HLN.out s hsin)
        have HIS := Lib.hid hs
        obtain ⟨lb, lo, hlp, _, hrl⟩ := (HLA.out.mono gr.out).resolve_left (fun e0 => by rw [e0] at hiL; simp at hiL)
        obtain ⟨qs, cs, c0, hss2⟩ := hrl i s hs
        have HSL := Lib.hid hss2
        have HC0 := Lib.hid c0
        have hscl := hss2.1
        have hscc := hss2.2.1
        subst hlp
        have b0 := (HB2.out.gr gr.out).cell 0 (v := .slice x.dp x.D.length x.dc) rfl
        have hb1 : ((s.length : Int) == (x.D.length : Int)) = true := beq_iff_eq.2 (by omega)
        have hb2 : ((s.length : Int) != (x.D.length : Int)) = false := by rw [bne, hb1]; rfl
        clear hs hsin hsl hsm hss hrl hss2
        generalize wr = wI at *
        go_upto_region 21 with fail
        go_quiet (fail)
        clear b0 hb1 hb2 c0
        go_upto_region 23 with fail
        have HGI := Lib.hid (gr.out.trans ((Gr.rfl' wI).drewN nq))
        have HC1 := Lib.hid (((Gr.rfl' wI).drewN nq).at HC0.out)
        have HSL1 := Lib.hid (HSL.out.mono ((Gr.rfl' wI).drewN nq))
        clear gr HC0 HSL
        generalize wI.drewN nq = wJ at *
        have c0 := HC1.out
        go_upto_region 24 with fail
        clear c0
        go_loopg [14] s.length (fun k vv wr => ∃ v : Nat, v ≤ s.length ∧ k = s.length - v ∧ vv = .int .i64 ((v : Nat) : Int) ∧ Hid (Gr wJ wr))
        case atStart => exact ⟨0, Nat.zero_le _, rfl, rfl, Gr.rfl' _⟩
        case round =>
          obtain ⟨v, hv, rfl, rfl, gr⟩ := hrel
          have c0 := gr.out.at HC1.out
          by_cases hvs : v < s.length
          case pos =>
            have hvD : v < x.D.length := by rw [← HSLen.out]; exact hvs
            obtain ⟨d, hd⟩ : ∃ d, x.D[v]? = some d := ⟨_, List.getElem?_eq_getElem hvD⟩
            obtain ⟨z, hz⟩ : ∃ z, s[v]? = some z := ⟨_, List.getElem?_eq_getElem hvs⟩
            obtain ⟨rb, ro, hdp, _, hrd⟩ := (HX.out.mono (G2.out.trans (HGI.out.trans gr.out))).rows.resolve_left (fun e0 => by rw [e0] at hvD; simp at hvD)
            obtain ⟨qd, cd, d0, hsl⟩ := hrd v d hd
            obtain ⟨sb, so, hqp, _, hrs⟩ := (HSL1.out.mono gr.out).ptr (by omega)
            subst hqp
            have s0 := hrs v z hz
            have b0 := (HB2.out.gr (HGI.out.trans gr.out)).cell 0 (v := .slice x.dp x.D.length x.dc) rfl
            rw [hdp] at b0
            have HSLD := Lib.hid hsl
            have hge : decide (hasIdx d z < 0) = false := decide_eq_false (by have := hasIdx_ge.2 (HSM.out v d z hd hz); omega)
            have HHas := Lib.hid (fun W (hW : Gr wr W) => has_calls qd cd d z W (HSLD.out.mono hW))
            generalize hasIdx d z = hx0 at *
            clear hsl hrd hrs hd hz hdp
            go_upto_region 26 with fail
            refine wp_region_rely [fx (.pointer (some ⟨bx, 0, none⟩)), fx (.slice (some ⟨rb, ro, none⟩) x.D.length x.dc), fx (.int .i64 (v : Nat)), fx (.pointer (some ⟨rb, ro + v, none⟩)), fx (.slice qd d.length cd), fx (.slice (some ⟨lb, lo, none⟩) L.length lc), fx (.int .i64 (i : Nat)), fx (.pointer (some ⟨lb, lo + i, none⟩)), fx (.slice (some ⟨sb, so, none⟩) s.length cs), fx (.int .i64 (v : Nat)), fx (.pointer (some ⟨sb, so + v, none⟩)), fx (.int .i64 z), fx (.int .i64 hx0), fx (.bool false)]
              (by kernel_rfl) (by kernel_rfl) (by repeat (first | exact Stable.nil | refine Stable.fix ?_)) ?_ ?_
            · refine ⟨?_, ?_, ?_, ?_, ?_, ?_, ?_, ?_, ?_, ?_, ?_, ?_, ?a12, ?_, trivial⟩
              case a12 =>
                intro fr wz hg hold
                have h3 : fr.tmps[3]?.getD undef = .pointer (some ⟨bx, 0, none⟩) := hold 3 rfl
                have h7 : fr.tmps[7]?.getD undef = .slice (some ⟨lb, lo, none⟩) L.length lc := hold 7 rfl
                have h13 : fr.tmps[13]?.getD undef = .int .i64 (i : Nat) := hold 13 rfl
                have h14 : fr.tmps[14]?.getD undef = .int .i64 (v : Nat) := hold 14 rfl
                clear hold
                have B0 := Gr.at hg b0
                have D0 := Gr.at hg d0
                have S0 := Gr.at hg s0
                have C0 := Gr.at hg c0
                simp [predsImp, Region.binds, dstAt, fx]
                intros
                rename_i K hK
                go_simp
                refine (HHas.out wz hg).mono ?_
                rintro e9 w9 ⟨rfl, k1⟩
                exact hK _ _ rfl k1
              all_goals
                intro fr wz hg hold
                have h3 : fr.tmps[3]?.getD undef = .pointer (some ⟨bx, 0, none⟩) := hold 3 rfl
                have h7 : fr.tmps[7]?.getD undef = .slice (some ⟨lb, lo, none⟩) L.length lc := hold 7 rfl
                have h13 : fr.tmps[13]?.getD undef = .int .i64 (i : Nat) := hold 13 rfl
                have h14 : fr.tmps[14]?.getD undef = .int .i64 (v : Nat) := hold 14 rfl
                clear hold
                have B0 := Gr.at hg b0
                have D0 := Gr.at hg d0
                have S0 := Gr.at hg s0
                have C0 := Gr.at hg c0
                simp [predsImp, Region.binds, dstAt, fx]
                intros
                first
                  | (rw [if_pos (by simp [*])]
                     intro K hK)
                  | (rename_i K hK)
                go_simp
              all_goals exact hK _ _ rfl (Gr.rfl' _)
            · intro wz hg
              rintro _ rfl _ rfl _ rfl _ rfl _ rfl _ rfl _ rfl _ rfl _ rfl _ rfl _ rfl _ rfl _ rfl _ rfl
              simp only [finAll, Act.put, List.setIfInBounds_toArray, List.set_cons_succ, List.set_cons_zero]
              clear b0 d0 s0 c0
              have HGZ := Lib.hid (gr.out.trans hg)
              clear hg
              go_wp2_with fail
              go_roundg (s.length - (v + 1))
              case measure => omega
              case rel => exact ⟨v + 1, by omega, rfl, by go_num, HGZ⟩
          obtain rfl : v = s.length := by omega
          go_upto_region 28 with fail
          clear c0
          generalize wr = wK at *
          have HGK := Lib.hid gr.out
          have HKI := Lib.hid (HGI.out.trans gr.out)
          clear gr
          go_upto_region 29 with fail
          go_loopg [15] x.C.length (fun k jv wr => ∃ j : Nat, j ≤ x.C.length ∧ k = x.C.length - j ∧ jv = .int .i64 ((j : Nat) : Int) ∧ Hid (Gr wK wr))
          case atStart => exact ⟨0, Nat.zero_le _, rfl, rfl, Gr.rfl' _⟩
          case round =>
            obtain ⟨j, hj, rfl, rfl, gr⟩ := hrel
            have c0 := gr.out.at (HGK.out.at HC1.out)
            have b1 := (HB2.out.gr (HKI.out.trans gr.out)).cell 1 (v := .slice x.cp x.C.length x.cc) rfl
            have GW := Lib.hid (G2.out.trans (HKI.out.trans gr.out))
            by_cases hjC : j < x.C.length
            case pos =>
              obtain ⟨y, hy⟩ : ∃ y, x.C[j]? = some y := ⟨_, List.getElem?_eq_getElem hjC⟩
              have hyin := List.mem_of_getElem? hy
              obtain ⟨cb, co, hcpe, _, hcells⟩ := (HX.out.mono GW.out).cns.resolve_left (fun e0 => by rw [e0] at hyin; exact (List.not_mem_nil hyin))
              have x0 := hcells _ y hy 0 (.int .i64 y.k) rfl
              have x1 := hcells _ y hy 1 (.slice y.vp y.vs.length y.vc) rfl
              have x2 := hcells _ y hy 2 (.slice y.cp y.cs.length y.cc) rfl
              have x3 := hcells _ y hy 3 (.int .i64 y.op) rfl
              have x4 := hcells _ y hy 4 (.int .i64 y.c) rfl
              simp only [← Nat.add_assoc, Nat.add_zero] at x0 x1 x2 x3 x4
              rw [hcpe] at b1
              have HMt : Hid (∀ W, Gr wr W → Calls Try.prog 20 #[.agg #[.int .i64 y.k, .slice y.vp y.vs.length y.vc, .slice y.cp y.cs.length y.cc, .int .i64 y.op, .int .i64 y.c], .slice qs s.length cs] W (Ret (.bool true) W)) := fun W hW => by
                have h := meets_calls y s qs cs W ((HX.out.mono (GW.out.trans hW)).ins y hyin) (HSL1.out.mono (HGK.out.trans (gr.out.trans hW))) (by rw [HSLen.out]; exact HOK.out y hyin) (fun v _ => near_asg HSN.out v)
                rw [HSS.out _ (List.mem_map.2 ⟨y, hyin, rfl⟩)] at h
                exact h
              clear hy hyin hcells hcpe
              go_upto_region 31 with fail
              refine wp_region_rely [fx (.pointer (some ⟨bx, 1, none⟩)), fx (.slice (some ⟨cb, co, none⟩) x.C.length x.cc), fx (.int .i64 (j : Nat)), fx (.pointer (some ⟨cb, co + j * 5, none⟩)), fx (.agg #[.int .i64 y.k, .slice y.vp y.vs.length y.vc, .slice y.cp y.cs.length y.cc, .int .i64 y.op, .int .i64 y.c]), fx (.slice (some ⟨lb, lo, none⟩) L.length lc), fx (.int .i64 (i : Nat)), fx (.pointer (some ⟨lb, lo + i, none⟩)), fx (.slice qs s.length cs), fx (.bool true), fx (.bool false)]
                (by kernel_rfl) (by kernel_rfl) (by repeat (first | exact Stable.nil | refine Stable.fix ?_)) ?_ ?_
              · refine ⟨?_, ?_, ?_, ?_, ?_, ?_, ?_, ?_, ?_, ?a9, ?_, trivial⟩
                case a9 =>
                  intro fr wz hg hold
                  have h3 : fr.tmps[3]?.getD undef = .pointer (some ⟨bx, 0, none⟩) := hold 3 rfl
                  have h7 : fr.tmps[7]?.getD undef = .slice (some ⟨lb, lo, none⟩) L.length lc := hold 7 rfl
                  have h13 : fr.tmps[13]?.getD undef = .int .i64 (i : Nat) := hold 13 rfl
                  have h15 : fr.tmps[15]?.getD undef = .int .i64 (j : Nat) := hold 15 rfl
                  clear hold
                  have B1 := Gr.at hg b1
                  have C0 := Gr.at hg c0
                  have X0 := Gr.at hg x0
                  have X1 := Gr.at hg x1
                  have X2 := Gr.at hg x2
                  have X3 := Gr.at hg x3
                  have X4 := Gr.at hg x4
                  simp [predsImp, Region.binds, dstAt, fx]
                  intros
                  rename_i K hK
                  go_simp
                  refine (HMt.out wz hg).mono ?_
                  rintro e9 w9 ⟨rfl, k1⟩
                  exact hK _ _ rfl k1
                all_goals
                  intro fr wz hg hold
                  have h3 : fr.tmps[3]?.getD undef = .pointer (some ⟨bx, 0, none⟩) := hold 3 rfl
                  have h7 : fr.tmps[7]?.getD undef = .slice (some ⟨lb, lo, none⟩) L.length lc := hold 7 rfl
                  have h13 : fr.tmps[13]?.getD undef = .int .i64 (i : Nat) := hold 13 rfl
                  have h15 : fr.tmps[15]?.getD undef = .int .i64 (j : Nat) := hold 15 rfl
                  clear hold
                  have B1 := Gr.at hg b1
                  have C0 := Gr.at hg c0
                  have X0 := Gr.at hg x0
                  have X1 := Gr.at hg x1
                  have X2 := Gr.at hg x2
                  have X3 := Gr.at hg x3
                  have X4 := Gr.at hg x4
                  simp [predsImp, Region.binds, dstAt, fx]
                  intros
                  first
                    | (rw [if_pos (by simp [*])]
                       intro K hK)
                    | (rename_i K hK)
                  go_simp
                all_goals exact hK _ _ rfl (Gr.rfl' _)
              · intro wz hg
                rintro _ rfl _ rfl _ rfl _ rfl _ rfl _ rfl _ rfl _ rfl _ rfl _ rfl _ rfl
                simp only [finAll, Act.put, List.setIfInBounds_toArray, List.set_cons_succ, List.set_cons_zero]
                clear b1 c0 x0 x1 x2 x3 x4
                have HGZ := Lib.hid (gr.out.trans hg)
                clear hg
                go_wp2_with fail
                go_roundg (x.C.length - (j + 1))
                case measure => omega
                case rel => exact ⟨j + 1, by omega, rfl, by go_num, HGZ⟩
            obtain rfl : j = x.C.length := by omega
            have HSame : Hid (∀ W, Gr wr W → Calls Try.prog 17 #[.slice qs s.length cs, .slice qp S.length qc] W (Ret (.bool (decide (s = S))) W)) := fun W hW => same_calls qs qp cs qc s S W (HSL1.out.mono (HGK.out.trans (gr.out.trans hW))) (HS.out.mono (GW.out.trans hW))
            have HNF := Lib.hid (take_mem (S := S) HIS.out)
            rw [← hfb.out] at HNF
            obtain ⟨ss, hss⟩ : ∃ ss, decide (s = S) = ss := ⟨_, rfl⟩
            rw [hss] at HSame HNF
            clear hss
            go_upto_region 33 with fail
            clear b1
            go_cut [12] from 130 to 138 (fun fv wx => fv = .bool (fb || ss) ∧ Hid (Gr wr wx))
            case first =>
              cases fb with
              | true =>
                go_wp2_with fail
                go_meet
                exact ⟨rfl, Gr.rfl' _⟩
              | false =>
                go_wp2_with (first
                  | (go_at_call 17; refine (HSame.out _ (Gr.rfl' _)).mono ?_; rintro e4 w4 ⟨rfl, hb⟩; have G4 := Lib.hid (show Gr wr w4 from hb); clear hb)
                  | fail)
                go_meet
                exact ⟨by rw [Bool.false_or], G4⟩
            case rest =>
              obtain ⟨rfl, gx⟩ := hcut
              have HGX := Lib.hid (HKI.out.trans (gr.out.trans gx.out))
              have c1 := gx.out.at c0
              have HNF2 : Hid ((fb || ss) = decide (S ∈ L.take (i + 1))) := HNF.out.symm
              generalize wr = wM at *
              clear c0 HNF hfb
              generalize (fb || ss) = fb2 at *
              go_upto_region 34 with fail
              by_cases hi0 : i = 0
              case pos =>
                subst hi0
                refine wp_region_rely [fx (.int .i64 0), fx (.bool false), fx (.bool false), fx undef, fx undef, fx undef, fx undef, fx undef, fx undef, fx undef, fx undef, fx undef, fx undef, fx undef, fx (.bool false)]
                  (by kernel_rfl) (by kernel_rfl) (by repeat (first | exact Stable.nil | refine Stable.fix ?_)) ?_ ?_
                · refine ⟨?_, ?_, ?_, ?a3, ?a4, ?a5, ?a6, ?a7, ?a8, ?a9, ?a10, ?a11, ?a12, ?a13, ?_, trivial⟩
                  case a3 => exact stepOK_skip 2 true 141 rfl rfl rfl ⟨⟨2, Ground.guard⟩, by simp, rfl, rfl⟩
                  case a4 => exact stepOK_skip 2 true 141 rfl rfl rfl ⟨⟨2, Ground.guard⟩, by simp, rfl, rfl⟩
                  case a5 => exact stepOK_skip 2 true 141 rfl rfl rfl ⟨⟨2, Ground.guard⟩, by simp, rfl, rfl⟩
                  case a6 => exact stepOK_skip 2 true 141 rfl rfl rfl ⟨⟨2, Ground.guard⟩, by simp, rfl, rfl⟩
                  case a7 => exact stepOK_skip 2 true 141 rfl rfl rfl ⟨⟨2, Ground.guard⟩, by simp, rfl, rfl⟩
                  case a8 => exact stepOK_skip 2 true 141 rfl rfl rfl ⟨⟨2, Ground.guard⟩, by simp, rfl, rfl⟩
                  case a9 => exact stepOK_skip 2 true 141 rfl rfl rfl ⟨⟨2, Ground.guard⟩, by simp, rfl, rfl⟩
                  case a10 => exact stepOK_skip 2 true 141 rfl rfl rfl ⟨⟨2, Ground.guard⟩, by simp, rfl, rfl⟩
                  case a11 => exact stepOK_skip 2 true 141 rfl rfl rfl ⟨⟨2, Ground.guard⟩, by simp, rfl, rfl⟩
                  case a12 => exact stepOK_skip 2 true 141 rfl rfl rfl ⟨⟨2, Ground.guard⟩, by simp, rfl, rfl⟩
                  case a13 => exact stepOK_skip 2 true 141 rfl rfl rfl ⟨⟨2, Ground.guard⟩, by simp, rfl, rfl⟩
                  all_goals
                    intro a wz hg hold
                    have h13 : a.tmps[13]?.getD undef = .int .i64 0 := hold 13 rfl
                    clear hold
                    simp [predsImp, Region.binds, dstAt, fx]
                    intros
                    first
                      | (rw [if_pos (by simp [*])]
                         intro K hK)
                      | (rename_i K hK)
                    go_simp
                  all_goals exact hK _ _ rfl (Gr.rfl' _)
                · intro wz hg
                  rintro _ rfl _ rfl _ rfl _ rfl _ rfl _ rfl _ rfl _ rfl _ rfl _ rfl _ rfl _ rfl _ rfl _ rfl _ rfl
                  simp only [finAll, Act.put, List.setIfInBounds_toArray, List.set_cons_succ, List.set_cons_zero]
                  clear c1
                  have HGZ := Lib.hid (HGX.out.trans hg)
                  clear hg
                  go_wp2_with fail
                  go_roundg (L.length - (0 + 1))
                  case measure => omega
                  case rel => exact ⟨0 + 1, fb2, by omega, rfl, rfl, by go_num, HNF2, HGZ⟩
              case neg =>
                obtain ⟨m, rfl⟩ : ∃ m, i = m + 1 := ⟨i - 1, by omega⟩
                have hgt : decide ((m : Int) + 1 > 0) = true := decide_eq_true (by omega)
                have hgt2 : decide (0 < (m : Int) + 1) = true := decide_eq_true (by omega)
                obtain ⟨s', hs'⟩ : ∃ s', L[m]? = some s' := ⟨_, List.getElem?_eq_getElem (by omega)⟩
                have hs'in := List.mem_of_getElem? hs'
                obtain ⟨lb', lo', hlp', _, hrl'⟩ := (HLA.out.mono HGX.out).resolve_left (fun e0 => by rw [e0] at hs'; simp at hs')
                cases hlp'
                obtain ⟨q', c', d1, hsl'⟩ := hrl' m s' hs'
                have HBef : Hid (∀ W, Gr wc W → Calls Try.prog 21 #[.slice q' s'.length c', .slice qs s.length cs] W (Ret (.bool true) W)) := fun W hW => by
                  have h := before_calls q' qs c' cs s' s W (hsl'.mono hW) (HSL1.out.mono (HGK.out.trans (gr.out.trans (gx.out.trans hW)))) (by rw [HSLen.out]; exact (sol_facts (HLS.out s' hs'in)).1)
                  rw [rise_at HLR.out hs' HIS.out] at h
                  exact h
                have hmL2 : (m : Int) + 1 < (L.length : Int) := by omega
                have hmL : (m : Int) < (L.length : Int) := by omega
                clear hs' hs'in hrl' hsl' hi0
                refine wp_region_rely [fx (.int .i64 ((m : Int) + 1)), fx (.bool true), fx (.bool true), fx (.slice (some ⟨lb, lo, none⟩) L.length lc), fx (.int .i64 ((m : Int) + 1)), fx (.int .i64 (m : Nat)), fx (.pointer (some ⟨lb, lo + m, none⟩)), fx (.slice q' s'.length c'), fx (.slice (some ⟨lb, lo, none⟩) L.length lc), fx (.int .i64 ((m : Int) + 1)), fx (.pointer (some ⟨lb, lo + (m + 1), none⟩)), fx (.slice qs s.length cs), fx (.bool true), fx (.bool false), fx (.bool false)]
                  (by kernel_rfl) (by kernel_rfl) (by repeat (first | exact Stable.nil | refine Stable.fix ?_)) ?_ ?_
                · refine ⟨?_, ?_, ?_, ?_, ?_, ?a5, ?_, ?_, ?_, ?_, ?_, ?_, ?a12, ?_, ?_, trivial⟩
                  case a12 =>
                    intro a wz hg hold
                    have h7 : a.tmps[7]?.getD undef = .slice (some ⟨lb, lo, none⟩) L.length lc := hold 7 rfl
                    have h13 : a.tmps[13]?.getD undef = .int .i64 ((m : Int) + 1) := hold 13 rfl
                    clear hold
                    have C1 := Gr.at hg c1
                    have D1 := Gr.at hg d1
                    simp [predsImp, Region.binds, dstAt, fx, wantedE, Act.eval]
                    intros
                    rw [if_pos (by simp [*])]
                    intro K hK
                    go_simp
                    refine (HBef.out wz hg).mono ?_
                    rintro e9 w9 ⟨rfl, k1⟩
                    exact hK _ _ rfl k1
                  all_goals
                    intro a wz hg hold
                    have h7 : a.tmps[7]?.getD undef = .slice (some ⟨lb, lo, none⟩) L.length lc := hold 7 rfl
                    have h13 : a.tmps[13]?.getD undef = .int .i64 ((m : Int) + 1) := hold 13 rfl
                    clear hold
                    have C1 := Gr.at hg c1
                    have D1 := Gr.at hg d1
                    simp [predsImp, Region.binds, dstAt, fx, wantedE, Act.eval]
                    intros
                    first
                      | (rw [if_pos (by simp [*])]
                         intro K hK)
                      | (rename_i K hK)
                    go_simp
                  case a5 =>
                    exact hK _ _ (congrArg (Value.int .i64) (IntWalk.i64_in _ ⟨by omega, by omega⟩)) (Gr.rfl' _)
                  all_goals exact hK _ _ rfl (Gr.rfl' _)
                · intro wz hg
                  rintro _ rfl _ rfl _ rfl _ rfl _ rfl _ rfl _ rfl _ rfl _ rfl _ rfl _ rfl _ rfl _ rfl _ rfl _ rfl
                  simp only [finAll, Act.put, List.setIfInBounds_toArray, List.set_cons_succ, List.set_cons_zero]
                  clear c1 d1
                  have HGZ := Lib.hid (HGX.out.trans hg)
                  clear hg
                  go_wp2_with fail
                  go_roundg (L.length - (m + 1 + 1))
                  case measure => omega
                  case rel => exact ⟨m + 1 + 1, fb2, by omega, rfl, rfl, by go_num, HNF2, HGZ⟩
end Go.Proofs.Ytbapmokbkjmdcaa
