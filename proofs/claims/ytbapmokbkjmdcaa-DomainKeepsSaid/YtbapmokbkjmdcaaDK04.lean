/-
  DomainKeeps: the law's walk.
-/
import Derived.Test.YtbapmokbkjmdcaaDK03
namespace Go.Proofs.Ytbapmokbkjmdcaa
open Go.RowKit Go.Maps Go.Lib

theorem okDom_of {d : List Int} (h : d.Pairwise (· < ·)) (hn : ∀ y ∈ d, Near y) : okDom d = true := by
  rw [okDom, List.all_eq_true]
  intro i hi
  have hi := List.mem_range.1 hi
  have h1 := hn _ (List.getElem_mem hi)
  simp only [okAt, getD_lt 0 hi, Bool.and_eq_true, Bool.or_eq_true, decide_eq_true_eq]
  refine ⟨h1, ?_⟩
  by_cases h0 : i = 0
  · exact .inl h0
  · right
    rw [getD_lt 0 (by omega : i - 1 < d.length)]
    exact List.pairwise_iff_getElem.1 h (i - 1) i (by omega) hi (by omega)
theorem checkP_of {D : List (List Int)} {C : List Con} (h1 : ∀ d ∈ D, okDom d = true) (h2 : ∀ c ∈ C, c.ok D.length = true) (h3 : D.length ≤ 50) (h4 : C.length ≤ 100) (h5 : ∀ d ∈ D, d.length ≤ 100) : checkP D C = 0 := by
  rw [checkP, if_pos (by rw [Bool.and_eq_true, List.all_eq_true, List.all_eq_true]; exact ⟨h1, h2⟩), if_neg]
  rw [largeP, Bool.or_eq_true, Bool.or_eq_true, decide_eq_true_eq, decide_eq_true_eq]
  rintro (h | h | h)
  · omega
  · omega
  · obtain ⟨d, hd, h⟩ := List.any_eq_true.1 h
    have := h5 d hd
    simp at h; omega
/-- What is left may stand as a problem. -/
theorem checkP_left {D E : List (List Int)} {C : List Con} (h : checkP D C = 0) (hE : SubD E D) : checkP E C = 0 := by
  obtain ⟨c1, c2, c3, c4, c5⟩ := check_zero h
  have hrow : ∀ d ∈ E, ∃ d' ∈ D, d.Sublist d' := fun d hd => by
    obtain ⟨i, hi, rfl⟩ := List.getElem_of_mem hd
    have hk : i < D.length := hE.1 ▸ hi
    have h1 := hE.2 i
    rw [getD_lt [] hi, getD_lt [] hk] at h1
    exact ⟨_, List.getElem_mem hk, h1⟩
  refine checkP_of (fun d hd => ?_) (fun c hc => by rw [hE.1]; exact c2 c hc) (by rw [hE.1]; exact c3) c4 fun d hd => ?_
  · obtain ⟨d', hd', hs⟩ := hrow d hd
    obtain ⟨h1, h2⟩ := okDom_rise (c1 d' hd')
    exact okDom_of (h1.sublist hs) fun y hy => h2 y (hs.subset hy)
  · obtain ⟨d', hd', hs⟩ := hrow d hd
    exact Nat.le_trans hs.length_le (c5 d' hd')
/-- All that is left has support. -/
theorem supR_left {C : List Con} {E : List (List Int)} (hac : AC C E) {c : Con} (hc : c ∈ C) (hok : c.ok E.length = true) (v : Int) : supR E c v = dom E v := by
  unfold supR
  split
  · rename_i hv
    refine List.filter_eq_self.2 fun x hx => ?_
    have h := (mem_supR hok (v := v) (x := x)).2 ⟨hx, fun _ => hac c hc v hv x hx⟩
    unfold supR at h
    rw [if_pos hv] at h
    exact (List.mem_filter.1 h).2
  · rfl
theorem dom_natK (E : List (List Int)) {v : Nat} {d : List Int} (h : E[v]? = some d) : dom E (v : Int) = d := by
  rw [dom, Int.toNat_natCast, List.getD_eq_getElem?_getD, h]; rfl
def rowV (L : List Int) : VP := fun v w => ∃ q c, v = .slice q L.length c ∧ IntSl w q c L
theorem rowV_stable {L : List Int} : ∀ v w w', rowV L v w → Gr w w' → rowV L v w' := fun _ _ _ ⟨q, c, h1, h2⟩ hg => ⟨q, c, h1, h2.mono hg⟩

set_option maxHeartbeats 8000000 in
set_option maxRecDepth 100000 in
theorem domainKeeps_walk (x : Pb) (most : Int) (w : World) (hx : x.In w) (_ : In64 most) : Calls Try.prog 4 #[x.val, .int .i64 most] w (Ret (.bool true) w) := by
  have hR : Hid (∀ w', Gr w w' → Ret (.bool true) w (.returned (.bool true)) w') := fun w' hg => ⟨rfl, hg⟩
  generalize Ret (.bool true) w = Q at hR ⊢
  have HX := Lib.hid hx
  have Hth := Lib.hid there_calls
  have Hrd : Hid (∀ W, Gr w W → Calls Try.prog 10 #[x.val] W (RetReduce x W)) := fun W hW => reduceP_calls x W (hx.mono hW)
  rw [show x.val = .agg #[.slice x.dp x.D.length x.dc, .slice x.cp x.C.length x.cc] from rfl] at Hrd ⊢
  go_enter Try.func4, Try.ntmps4
  try simp only [List.append_eq, List.cons_append, List.nil_append]
  go_upto_region 1 with fail
  have hB := BlkT.new w 25 #[.slice x.dp x.D.length x.dc, .slice x.cp x.C.length x.cc]
  have gA : Gr w (w.alloc (.cells #[.slice x.dp x.D.length x.dc, .slice x.cp x.C.length x.cc] 25)) := by go_grown
  obtain ⟨bx, hbx⟩ : ∃ bx, w.heap.size = bx := ⟨_, rfl⟩
  rw [hbx] at hB ⊢
  clear hbx
  generalize w.alloc (.cells #[.slice x.dp x.D.length x.dc, .slice x.cp x.C.length x.cc] 25) = wA at *
  have HB := Lib.hid hB
  have HG := Lib.hid gA
  clear hB gA
  by_cases hm : 20000 < most
  case pos =>
    have hd : decide (20000 < most) = true := decide_eq_true hm
    go_wp2_with fail
    exact hR.out _ HG.out
  have hd : decide (20000 < most) = false := decide_eq_false hm
  have HM := Lib.hid (show most ≤ 20000 by omega)
  have Hsv : Hid (∀ W, Gr w W → Calls Try.prog 15 #[.agg #[.slice x.dp x.D.length x.dc, .slice x.cp x.C.length x.cc], .int .i64 most] W (RetSolve x most W)) := fun W hW => solve_calls x most W (hx.mono hW) HM.out
  clear hm hx
  go_upto_region 5 with (first
    | (go_at_call 14; refine (Hth.out _).mono ?_; rintro e1 w1 ⟨rfl, hb⟩; have HG1 := Lib.hid (HG.out.trans (show Gr wA w1 from hb)); have HB1 := Lib.hid (HB.out.gr (show Gr wA w1 from hb)); clear hb)
    | fail)
  clear hd
  have b0 := HB1.out.cell 0 (v := .slice x.dp x.D.length x.dc) rfl
  have b1 := HB1.out.cell 1 (v := .slice x.cp x.C.length x.cc) rfl
  have H2 := Lib.hid (Hrd.out w1 HG1.out)
  by_cases h0 : checkP x.D x.cons = 0
  case neg =>
    obtain ⟨ec, hec⟩ : ∃ ec, checkP x.D x.cons = ec := ⟨_, rfl⟩
    have HEC := Lib.hid hec
    have H0 := Lib.hid h0
    rw [hec] at h0
    have hb1 : (ec == 0) = false := beq_eq_false_iff_ne.2 h0
    have hb2 : (ec != 0) = true := by rw [bne, hb1]; rfl
    clear hec h0
    go_wp2_with (first
      | (go_at_call 10; refine H2.out.mono ?_; rintro e2 w2 ⟨hg2, hor⟩; obtain rfl : e2 = .returned (.tuple #[.slice none 0 0, .bool false, .int .i64 ec]) := (by
          rcases hor with ⟨_, h⟩ | ⟨h, _⟩ | ⟨h, _⟩
          · rw [h, HEC.out]
          · exact absurd h H0.out
          · exact absurd h H0.out); have G2 := Lib.hid (HG1.out.trans hg2); clear hg2 hor b0 b1)
      | fail)
    exact hR.out _ G2.out
  have HEC := Lib.hid h0
  have HND : Hid (∀ d ∈ x.D, d.Nodup) := fun d hd => ((okDom_rise ((check_zero h0).1 d hd)).1).imp fun h e => by omega
  have HOK : Hid (∀ c ∈ x.cons, c.ok x.D.length = true) := (check_zero h0).2.1
  have HFEW : Hid (x.D.length ≤ 50) := (check_zero h0).2.2.1
  clear h0
  by_cases hE : ∃ E, RedOk x.cons x.D E
  case neg =>
    have HNE := Lib.hid hE
    clear hE
    go_upto_region 6 with (first
      | (go_at_call 10; refine H2.out.mono ?_; rintro e2 w2 ⟨hg2, hor⟩; obtain ⟨rfl, hno⟩ : e2 = .returned (.tuple #[.slice none 0 0, .bool false, .int .i64 0]) ∧ RedNo x.cons x.D := (by
          rcases hor with ⟨h, _⟩ | ⟨_, h, h2⟩ | ⟨_, E, _, _, h, _⟩
          · exact absurd HEC.out h
          · exact ⟨h2, h⟩
          · exact absurd ⟨E, h⟩ HNE.out); replace b0 := Gr.at hg2 b0; replace b1 := Gr.at hg2 b1; have G2 := Lib.hid (HG1.out.trans hg2); have HNo := Lib.hid hno; clear hg2 hor hno)
      | fail)
    have H3 := Lib.hid (Hsv.out w2 G2.out)
    have HNil := Lib.hid (RedNo.sols HOK.out HNo.out)
    go_wp2_with (first
      | (go_at_call 15; refine H3.out.mono ?_; rintro e3 w3 ⟨hg3, hor⟩; obtain ⟨p3, c3, rfl⟩ : ∃ p c, e3 = .returned (.tuple #[.slice p 0 c, .int .i64 0]) := (by
          rcases hor with ⟨h, _⟩ | ⟨_, L, p, c, h1, h2, _⟩
          · exact absurd HEC.out h
          · rw [HNil.out, List.take_nil] at h1
            subst h1
            exact ⟨p, c, h2⟩); have G3 := Lib.hid (G2.out.trans hg3); clear hg3 hor b0 b1)
      | fail)
    exact hR.out _ G3.out
  obtain ⟨E, hE⟩ := hE
  have HE := Lib.hid hE
  clear hE
  go_upto_region 6 with (first
    | (go_at_call 10; refine H2.out.mono ?_; rintro e2 w2 ⟨hg2, hor⟩; obtain ⟨p, c, he2, hro, hc1, hc2, hnr, hsh⟩ : ∃ p c, e2 = .returned (.tuple #[.slice p E.length c, .bool true, .int .i64 0]) ∧ RowsOwn w1.heap.size w2 p E ∧ E.length ≤ c ∧ c ≤ 9223372036854775807 ∧ (∀ d ∈ E, ∀ y ∈ d, Near y) ∧ ∀ d ∈ E, d.length ≤ 100 := (by
        rcases hor with ⟨h, _⟩ | ⟨_, h, _⟩ | ⟨_, E', p, c, h, h1, h2, h3, h4, h5, h6⟩
        · exact absurd HEC.out h
        · exact (RedOk.not HE.out h).elim
        · obtain rfl := RedOk.uniq HND.out h HE.out
          exact ⟨p, c, h1, h2, h3, h4, h5, h6⟩); subst he2; have HRA := Lib.hid (hro.at hnr); have HNR := Lib.hid hnr; have HSH := Lib.hid hsh; replace b0 := Gr.at hg2 b0; replace b1 := Gr.at hg2 b1; have G2 := Lib.hid (HG1.out.trans hg2); have HB2 := Lib.hid (HB1.out.gr hg2); clear hg2 hor hro hnr hsh)
    | fail)
  have H3 := Lib.hid (Hsv.out w2 G2.out)
  obtain ⟨L, hL⟩ : ∃ L, (sols x.cons x.D).take most.toNat = L := ⟨_, rfl⟩
  have HL := Lib.hid hL
  clear hL
  go_upto_region 11 with (first
    | (go_at_call 15; refine H3.out.mono ?_; rintro e3 w3 ⟨hg3, hor⟩; obtain ⟨p3, c3, he3, hro3, hc3, hc3', hnr3⟩ : ∃ p c, e3 = .returned (.tuple #[.slice p L.length c, .int .i64 0]) ∧ RowsOwn w2.heap.size w3 p L ∧ L.length ≤ c ∧ c ≤ 9223372036854775807 ∧ ∀ s ∈ L, ∀ y ∈ s, Near y := (by
        rcases hor with ⟨h, _⟩ | ⟨_, L', p, c, h1, h2, h3, h4, h5, h6⟩
        · exact absurd HEC.out h
        · obtain rfl : L' = L := h1.trans HL.out
          exact ⟨p, c, h2, h3, h4, h5, fun s hs => (h6 s hs).2⟩); subst he3; have HL3 := Lib.hid (hro3.at hnr3); have G3 := Lib.hid (G2.out.trans hg3); have G23 := Lib.hid hg3; have HB3 := Lib.hid (HB2.out.gr hg3); clear hg3 hor hro3 hnr3 b0 b1)
    | fail)
  have b1 := HB3.out.cell 1 (v := .slice x.cp x.C.length x.cc) rfl
  go_upto_region 12 with fail
  clear b1
  have hq := BlkT.new w3 25 #[.slice p E.length c, .slice x.cp x.C.length x.cc]
  have gq : Gr w3 (w3.alloc (.cells #[.slice p E.length c, .slice x.cp x.C.length x.cc] 25)) := by go_grown
  obtain ⟨bq, hbq⟩ : ∃ bq, w3.heap.size = bq := ⟨_, rfl⟩
  rw [hbq] at hq ⊢
  clear hbq
  generalize w3.alloc (.cells #[.slice p E.length c, .slice x.cp x.C.length x.cc] 25) = w4 at *
  have q0 := hq.cell 0 (v := .slice p E.length c) rfl
  have q1 := hq.cell 1 (v := .slice x.cp x.C.length x.cc) rfl
  have HGQ := Lib.hid gq
  have G4 := Lib.hid (G3.out.trans gq)
  obtain ⟨z, hz⟩ : ∃ z : Pb, z = ⟨p, c, E, x.cp, x.cc, x.C⟩ := ⟨_, rfl⟩
  have HZI : Hid (∀ W, Gr w4 W → z.In W) := fun W hW => by
    rw [hz]
    exact ⟨HRA.out.mono (G23.out.trans (HGQ.out.trans hW)), ⟨hc1, hc2⟩, (HX.out.mono (G4.out.trans hW)).cns, HX.out.lenC, (HX.out.mono (G4.out.trans hW)).ins⟩
  have HZV : Hid (z.val = .agg #[.slice p E.length c, .slice x.cp x.C.length x.cc]) := by rw [hz]; rfl
  have HZD : Hid (z.D = E) := by rw [hz]; rfl
  have HZC : Hid (z.cons = x.cons) := by rw [hz]; rfl
  have HZK : Hid (checkP z.D z.cons = 0) := by
    show _ = _
    rw [HZD.out, HZC.out]; exact checkP_left HEC.out HE.out.sub
  clear hq gq hz
  have H5 := Lib.hid (solve_calls z most w4 (HZI.out w4 (Gr.rfl' _)) HM.out)
  rw [HZV.out] at H5
  have HSE := Lib.hid (show (sols z.cons z.D).take most.toNat = L by rw [HZC.out, HZD.out, RedOk.sols HND.out HOK.out HE.out]; exact HL.out)
  go_upto_region 13 with (first
    | (go_at_call 15; refine H5.out.mono ?_; rintro e5 w5 ⟨hg5, hor⟩; obtain ⟨p5, c5, he5, hro5, hc5, hc5', hnr5⟩ : ∃ p c, e5 = .returned (.tuple #[.slice p L.length c, .int .i64 0]) ∧ RowsOwn w4.heap.size w5 p L ∧ L.length ≤ c ∧ c ≤ 9223372036854775807 ∧ ∀ s ∈ L, ∀ y ∈ s, Near y := (by
        rcases hor with ⟨h, _⟩ | ⟨_, L', p, c, h1, h2, h3, h4, h5, h6⟩
        · exact absurd HZK.out h
        · obtain rfl : L' = L := h1.trans HSE.out
          exact ⟨p, c, h2, h3, h4, h5, fun s hs => (h6 s hs).2⟩); subst he5; have HL5 := Lib.hid (hro5.at hnr5); have G5 := Lib.hid (G4.out.trans hg5); have G45 := Lib.hid hg5; replace q0 := Gr.at hg5 q0; replace q1 := Gr.at hg5 q1; clear hg5 hor hro5 hnr5)
    | fail)
  have H6 := Lib.hid (reduceP_calls z w5 (HZI.out w5 G45.out))
  rw [HZV.out] at H6
  have HE2 : Hid (RedOk z.cons z.D E) := by
    show RedOk _ _ _
    rw [HZC.out, HZD.out]; exact HE.out.again
  have HND2 : Hid (∀ d ∈ z.D, d.Nodup) := by
    show ∀ _, _
    rw [HZD.out]; exact sub_nodup HE.out.sub HND.out
  go_upto_region 14 with (first
    | (go_at_call 10; refine H6.out.mono ?_; rintro e6 w6 ⟨hg6, hor⟩; obtain ⟨p6, c6, he6, hro6, hc6, hc6', hnr6⟩ : ∃ p c, e6 = .returned (.tuple #[.slice p E.length c, .bool true, .int .i64 0]) ∧ RowsOwn w5.heap.size w6 p E ∧ E.length ≤ c ∧ c ≤ 9223372036854775807 ∧ (∀ d ∈ E, ∀ y ∈ d, Near y) := (by
        rcases hor with ⟨h, _⟩ | ⟨_, h, _⟩ | ⟨_, E', p, c, h, h1, h2, h3, h4, h5, h6⟩
        · exact absurd HZK.out h
        · exact (RedOk.not HE2.out h).elim
        · obtain rfl := RedOk.uniq HND2.out h HE2.out
          exact ⟨p, c, h1, h2, h3, h4, h5⟩); subst he6; have HR6 := Lib.hid (hro6.at hnr6); have G6 := Lib.hid (G5.out.trans hg6); have G56 := Lib.hid hg6; clear hg6 hor hro6 hnr6 q0 q1)
    | fail)
  have HB6 := Lib.hid (HB3.out.gr (HGQ.out.trans (G45.out.trans G56.out)))
  have G26 := Lib.hid (G23.out.trans (HGQ.out.trans (G45.out.trans G56.out)))
  have Hw1 : Hid (∀ W, Gr w6 W → Calls Try.prog 16 #[.slice p3 L.length c3, .slice p5 L.length c5] W (Ret (.bool true) W)) := fun W hW => by
    have h := rowsKeep_calls p3 p5 c3 c5 L L W (HL3.out.mono (HGQ.out.trans (G45.out.trans (G56.out.trans hW)))) (HL5.out.mono (G56.out.trans hW)) ⟨hc3, hc3'⟩ ⟨hc5, hc5'⟩
    rw [decide_eq_true rfl] at h; exact h
  have Hw2 : Hid (∀ W, Gr w6 W → Calls Try.prog 16 #[.slice p6 E.length c6, .slice p E.length c] W (Ret (.bool true) W)) := fun W hW => by
    have h := rowsKeep_calls p6 p c6 c E E W (HR6.out.mono hW) (HRA.out.mono (G26.out.trans hW)) ⟨hc6, hc6'⟩ ⟨hc1, hc2⟩
    rw [decide_eq_true rfl] at h; exact h
  have Mk : Hid True := trivial
  go_upto_region 17 with (first
    | (go_at_call 16; clear Mk; refine (Hw1.out _ (Gr.rfl' _)).mono ?_; rintro e7 w7 ⟨rfl, hb⟩; have G7 := Lib.hid (show Gr w6 w7 from hb); clear hb)
    | (go_at_call 16; refine (Hw2.out _ G7.out).mono ?_; rintro e8 w8 ⟨rfl, hb⟩; have G8 := Lib.hid (G7.out.trans (show Gr w7 w8 from hb)); clear hb)
    | fail)
  have HB8 := Lib.hid (HB6.out.gr G8.out)
  have G08 := Lib.hid (G6.out.trans G8.out)
  have G28 := Lib.hid (G26.out.trans G8.out)
  have hlC := HX.out.lenC.1
  have hcC := HX.out.lenC.2
  go_loopg [16, 17] x.C.length (fun k iv vv wr => ∃ i : Nat, i ≤ x.C.length ∧ k = x.C.length - i ∧ iv = .int .i64 ((i : Nat) : Int) ∧ Hid (Gr w8 wr))
  case atStart => exact ⟨0, Nat.zero_le _, rfl, rfl, Gr.rfl' _⟩
  case round =>
    obtain ⟨i, hi, rfl, rfl, gr⟩ := hrel
    have b1 := gr.out.at (HB8.out.cell 1 (v := .slice x.cp x.C.length x.cc) rfl)
    by_cases hic : i < x.C.length
    case neg =>
      obtain rfl : i = x.C.length := by omega
      go_wp2_with fail
      exact hR.out _ (G08.out.trans gr.out)
    obtain ⟨y, hy⟩ : ∃ y, x.C[i]? = some y := ⟨_, List.getElem?_eq_getElem hic⟩
    have hyin := List.mem_of_getElem? hy
    obtain ⟨cb, co, hcpe, _, hcells⟩ := (HX.out.mono (G08.out.trans gr.out)).cns.resolve_left (fun e0 => by rw [e0] at hyin; exact (List.not_mem_nil hyin))
    have HYI := Lib.hid (HX.out.ins y hyin)
    have HYO := Lib.hid (HOK.out y.con (List.mem_map.2 ⟨y, hyin, rfl⟩))
    have HYC := Lib.hid (show y.con ∈ x.cons from List.mem_map.2 ⟨y, hyin, rfl⟩)
    have HY0 := Lib.hid (hcells _ y hy 0 (.int .i64 y.k) rfl)
    have HY1 := Lib.hid (hcells _ y hy 1 (.slice y.vp y.vs.length y.vc) rfl)
    have HY2 := Lib.hid (hcells _ y hy 2 (.slice y.cp y.cs.length y.cc) rfl)
    have HY3 := Lib.hid (hcells _ y hy 3 (.int .i64 y.op) rfl)
    have HY4 := Lib.hid (hcells _ y hy 4 (.int .i64 y.c) rfl)
    rw [hcpe] at b1
    clear hy hyin hcells
    go_upto_region 20 with fail
    clear b1
    generalize wr = wI at *
    go_loopg [17] E.length (fun k vv ws => ∃ v : Nat, v ≤ E.length ∧ k = E.length - v ∧ vv = .int .i64 ((v : Nat) : Int) ∧ Hid (Gr wI ws))
    case atStart => exact ⟨0, Nat.zero_le _, rfl, rfl, Gr.rfl' _⟩
    case round =>
      obtain ⟨v, hv, rfl, rfl, gs⟩ := hrel
      by_cases hvE : v < E.length
      case neg =>
        obtain rfl : v = E.length := by omega
        go_wp2_with fail
        go_roundg (x.C.length - (i + 1))
        case measure => omega
        case rel => exact ⟨i + 1, by omega, rfl, by go_num, gr.out.trans gs.out⟩
      obtain ⟨d, hd⟩ : ∃ d, E[v]? = some d := ⟨_, List.getElem?_eq_getElem hvE⟩
      obtain ⟨eb, eo, hpe, _, hrr⟩ := (HRA.out.mono (G28.out.trans (gr.out.trans gs.out))).resolve_left (fun e0 => by rw [e0] at hvE; simp at hvE)
      obtain ⟨q, cq, d0, hsl⟩ := hrr v d hd
      have HSL := Lib.hid hsl
      have GWS := Lib.hid (G08.out.trans (gr.out.trans gs.out))
      have b1 := gs.out.at (gr.out.at (HB8.out.cell 1 (v := .slice x.cp x.C.length x.cc) rfl))
      have x0 := gs.out.at HY0.out
      have x1 := gs.out.at HY1.out
      have x2 := gs.out.at HY2.out
      have x3 := gs.out.at HY3.out
      have x4 := gs.out.at HY4.out
      simp only [← Nat.add_assoc, Nat.add_zero] at x0 x1 x2 x3 x4
      rw [hcpe] at b1
      have HSup : Hid (∀ W, Gr wr W → Calls Try.prog 18 #[.agg #[.int .i64 y.k, .slice y.vp y.vs.length y.vc, .slice y.cp y.cs.length y.cc, .int .i64 y.op, .int .i64 y.c], .int .i64 (v : Int), .slice p E.length c] W (RetSl d W)) := fun W hW => by
        have h := supported_calls y v p c E W (HYI.out.mono (GWS.out.trans hW)) (HRA.out.mono (G28.out.trans ((gr.out.trans gs.out).trans hW))) ⟨hc1, hc2⟩ (by rw [HE.out.sub.1]; exact HYO.out) hvE (by rw [HE.out.sub.1]; exact HFEW.out) HNR.out HSH.out
        rw [supR_left HE.out.ac HYC.out (by rw [HE.out.sub.1]; exact HYO.out), dom_natK E hd] at h
        exact h
      subst hpe
      have hlE : E.length ≤ c := hc1
      clear hrr hsl hd
      go_upto_region 22 with fail
      refine wp_region_rely [fx (.pointer (some ⟨bx, 1, none⟩)), fx (.slice (some ⟨cb, co, none⟩) x.C.length x.cc), fx (.int .i64 (i : Nat)), fx (.pointer (some ⟨cb, co + i * 5, none⟩)), fx (.agg #[.int .i64 y.k, .slice y.vp y.vs.length y.vc, .slice y.cp y.cs.length y.cc, .int .i64 y.op, .int .i64 y.c]), fx (.int .i64 (v : Nat)), fx (.slice (some ⟨eb, eo, none⟩) E.length c), rowV d, fx (.slice (some ⟨eb, eo, none⟩) E.length c), fx (.int .i64 (v : Nat)), fx (.pointer (some ⟨eb, eo + v, none⟩)), fx (.slice q d.length cq), fx (.bool true), fx (.bool false)]
        (by kernel_rfl) (by kernel_rfl) (by repeat (first | exact Stable.nil | refine Stable.fix ?_ | refine Stable.cons rowV_stable ?_)) ?_ ?_
      · refine ⟨?_, ?_, ?_, ?_, ?_, ?_, ?_, ?a7, ?_, ?_, ?_, ?_, ?a12, ?_, trivial⟩
        case a7 =>
          intro fr wz hg hold
          have h2 : fr.tmps[2]?.getD undef = .pointer (some ⟨bx, 0, none⟩) := hold 2 rfl
          have h5 : fr.tmps[5]?.getD undef = .slice (some ⟨eb, eo, none⟩) E.length c := hold 5 rfl
          have h16 : fr.tmps[16]?.getD undef = .int .i64 (i : Nat) := hold 16 rfl
          have h17 : fr.tmps[17]?.getD undef = .int .i64 (v : Nat) := hold 17 rfl
          clear hold
          have B1 := Gr.at hg b1
          have X0 := Gr.at hg x0
          have X1 := Gr.at hg x1
          have X2 := Gr.at hg x2
          have X3 := Gr.at hg x3
          have X4 := Gr.at hg x4
          have D0 := Gr.at hg d0
          simp [predsImp, Region.binds, dstAt, fx]
          intros
          rename_i K hK
          go_simp
          refine (HSup.out wz hg).mono ?_
          rintro e9 w9 ⟨q9, c9, rfl, k1, k2⟩
          exact hK _ _ ⟨q9, c9, rfl, k1⟩ k2
        case a12 =>
          intro fr wz hg hold
          have h2 : fr.tmps[2]?.getD undef = .pointer (some ⟨bx, 0, none⟩) := hold 2 rfl
          have h5 : fr.tmps[5]?.getD undef = .slice (some ⟨eb, eo, none⟩) E.length c := hold 5 rfl
          have h16 : fr.tmps[16]?.getD undef = .int .i64 (i : Nat) := hold 16 rfl
          have h17 : fr.tmps[17]?.getD undef = .int .i64 (v : Nat) := hold 17 rfl
          clear hold
          have B1 := Gr.at hg b1
          have X0 := Gr.at hg x0
          have X1 := Gr.at hg x1
          have X2 := Gr.at hg x2
          have X3 := Gr.at hg x3
          have X4 := Gr.at hg x4
          have D0 := Gr.at hg d0
          simp [predsImp, Region.binds, dstAt, fx]
          intro hA hB
          obtain ⟨q9, c9, hv9, hs9⟩ := hA
          intros
          rename_i K hK
          go_simp
          refine (same_calls q9 q c9 cq d d wz hs9 (HSL.out.mono hg)).mono ?_
          rw [decide_eq_true rfl]
          rintro e9 w9 ⟨rfl, k1⟩
          exact hK _ _ rfl k1
        all_goals
          intro fr wz hg hold
          have h2 : fr.tmps[2]?.getD undef = .pointer (some ⟨bx, 0, none⟩) := hold 2 rfl
          have h5 : fr.tmps[5]?.getD undef = .slice (some ⟨eb, eo, none⟩) E.length c := hold 5 rfl
          have h16 : fr.tmps[16]?.getD undef = .int .i64 (i : Nat) := hold 16 rfl
          have h17 : fr.tmps[17]?.getD undef = .int .i64 (v : Nat) := hold 17 rfl
          clear hold
          have B1 := Gr.at hg b1
          have X0 := Gr.at hg x0
          have X1 := Gr.at hg x1
          have X2 := Gr.at hg x2
          have X3 := Gr.at hg x3
          have X4 := Gr.at hg x4
          have D0 := Gr.at hg d0
          simp [predsImp, Region.binds, dstAt, fx]
          intros
          first
            | (rw [if_pos (by simp [*])]
               intro K hK)
            | (rename_i K hK)
          go_simp
        all_goals exact hK _ _ rfl (Gr.rfl' _)
      · intro wz hg
        rintro _ rfl _ rfl _ rfl _ rfl _ rfl _ rfl _ rfl _ - _ rfl _ rfl _ rfl _ rfl _ rfl _ rfl
        simp only [finAll, Act.put, List.setIfInBounds_toArray, List.set_cons_succ, List.set_cons_zero]
        clear b1 x0 x1 x2 x3 x4 d0
        go_wp2_with fail
        go_roundg (E.length - (v + 1))
        case measure => omega
        case rel => exact ⟨v + 1, by omega, rfl, by go_num, gs.out.trans hg⟩
end Go.Proofs.Ytbapmokbkjmdcaa
