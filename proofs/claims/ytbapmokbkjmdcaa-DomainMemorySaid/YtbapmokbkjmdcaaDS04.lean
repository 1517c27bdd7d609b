/-
  DomainSolves: the law's walk.
-/
import Derived.Test.YtbapmokbkjmdcaaDS03
namespace Go.Proofs.Ytbapmokbkjmdcaa
open Go.RowKit Go.Maps Go.Lib

set_option maxHeartbeats 4000000 in
set_option maxRecDepth 100000 in
theorem rowsLawS_calls (p q : Option Addr) (c d : Nat) (L M : List (List Int)) (w : World) (hx : RowsAt w p L) (hy : RowsAt w q M) (hlc : L.length ≤ c ∧ c ≤ 9223372036854775807) (hld : M.length ≤ d ∧ d ≤ 9223372036854775807) :
    Calls Try.prog 13 #[.slice p L.length c, .slice q M.length d] w (Ret (.bool (decide (L = M))) w) := by
  have hR : Hid (∀ b, decide (L = M) = b → ∀ w', Gr w w' → Ret (.bool (decide (L = M))) w (.returned (.bool b)) w') := fun b hb w' hg => ⟨by rw [hb], hg⟩
  have hlc1 := hlc.1
  have hc := hlc.2
  have hlc2 := hld.1
  have hc2 := hld.2
  have H := Lib.hid hx
  have K := Lib.hid hy
  generalize hQ : Ret (.bool (decide (L = M))) w = Q at hR ⊢
  clear hQ hx hy hlc hld
  by_cases hll : L.length = M.length
  case neg =>
    have hb : ((L.length : Int) == (M.length : Int)) = false := beq_eq_false_iff_ne.2 (by omega)
    have hb2 : ((L.length : Int) != (M.length : Int)) = true := by rw [bne, hb]; rfl
    have HF := Lib.hid (decide_eq_false (p := L = M) fun e => hll (by rw [e]))
    clear hll
    go_enter Try.func13, Try.ntmps13
    try simp only [List.append_eq, List.cons_append, List.nil_append]
    go_wp2_with fail
    exact hR.out _ HF.out _ (Gr.rfl' _)
  have hb : ((L.length : Int) == (M.length : Int)) = true := beq_iff_eq.2 (by omega)
  have hb2 : ((L.length : Int) != (M.length : Int)) = false := by rw [bne, hb]; rfl
  have HLL := Lib.hid hll
  clear hll
  go_enter Try.func13, Try.ntmps13
  try simp only [List.append_eq, List.cons_append, List.nil_append]
  go_wp2_with fail
  go_loopg [5] L.length (fun m i wr => ∃ k : Nat, k ≤ L.length ∧ m = L.length - k ∧ i = .int .i64 k ∧ Gr w wr ∧ Hid (∀ i, i < k → L[i]? = M[i]?))
  case atStart => exact ⟨0, Nat.zero_le _, rfl, rfl, Gr.rfl' _, fun i hi => by omega⟩
  case round =>
    obtain ⟨k, hk, rfl, rfl, gr, hsm⟩ := hrel
    by_cases hlt : k < L.length
    · have hlt2 : k < M.length := by rw [← HLL.out]; exact hlt
      obtain ⟨b, o, hpe, _, hr⟩ := (H.out.mono gr).resolve_left (fun e0 => by rw [e0] at hlt; simp at hlt)
      obtain ⟨b', o', hqe, _, hr'⟩ := (K.out.mono gr).resolve_left (fun e0 => by rw [e0] at hlt2; simp at hlt2)
      subst hpe hqe
      obtain ⟨y, hy⟩ : ∃ y, L[k]? = some y := ⟨_, List.getElem?_eq_getElem hlt⟩
      obtain ⟨z, hz⟩ : ∃ z, M[k]? = some z := ⟨_, List.getElem?_eq_getElem hlt2⟩
      obtain ⟨q1, c1, c0, hs1⟩ := hr k _ hy
      obtain ⟨q2, c2, d0, hs2⟩ := hr' k _ hz
      have HY := Lib.hid hy
      have HZ := Lib.hid hz
      have HS1 := Lib.hid hs1
      have HS2 := Lib.hid hs2
      clear hr hr' hy hz hs1 hs2
      go_upto_region 6 with fail
      refine wp_region_rely_tail 8 [fx (.slice (some ⟨b, o, none⟩) L.length c), fx (.int .i64 (k : Nat)), fx (.pointer (some ⟨b, o + k, none⟩)), fx (.slice q1 y.length c1), fx (.slice (some ⟨b', o', none⟩) M.length d), fx (.int .i64 (k : Nat)), fx (.pointer (some ⟨b', o' + k, none⟩)), fx (.slice q2 z.length c2)]
        (by kernel_rfl) (by kernel_rfl) (by decide) (by repeat (first | exact Stable.nil | refine Stable.fix ?_)) ?_ ?_
      · refine ⟨?_, ?_, ?_, ?_, ?_, ?_, ?_, ?_, trivial⟩
        all_goals
          intro fr wz hg hold
          have h0 : fr.tmps[0]?.getD undef = .slice (some ⟨b, o, none⟩) L.length c := hold 0 rfl
          have h1 : fr.tmps[1]?.getD undef = .slice (some ⟨b', o', none⟩) M.length d := hold 1 rfl
          have h5 : fr.tmps[5]?.getD undef = .int .i64 (k : Nat) := hold 5 rfl
          clear hold
          have C0 := Gr.at hg c0
          have D0 := Gr.at hg d0
          simp [predsImp, Region.binds, dstAt, fx]
          intros
          first
            | (rw [if_pos (by simp [*])]
               intro K hK)
            | (rename_i K hK)
          go_simp
        all_goals exact hK _ _ rfl (Gr.rfl' _)
      · intro wz hg
        rintro _ rfl _ rfl _ rfl _ rfl _ rfl _ rfl _ rfl _ rfl
        simp only [finAll, Act.put, List.setIfInBounds_toArray, List.set_cons_succ, List.set_cons_zero, List.drop_succ_cons, List.drop_zero, List.take_zero]
        clear c0 d0
        have Hc := Lib.hid (same_calls q1 q2 c1 c2 y z wz (HS1.out.mono hg) (HS2.out.mono hg))
        have HGz := Lib.hid (gr.trans hg)
        clear hg
        obtain ⟨bq, hbq⟩ : ∃ bq, decide (y = z) = bq := ⟨_, rfl⟩
        have HBQ := Lib.hid hbq
        rw [hbq] at Hc
        clear hbq
        cases bq with
        | true =>
          have HN : Hid (∀ i, i < k + 1 → L[i]? = M[i]?) := fun i hi => by
            by_cases hik : i = k
            · rw [hik, HY.out, HZ.out, of_decide_eq_true HBQ.out]
            · exact hsm.out i (by omega)
          go_wp2_with (first
            | (go_at_call 17; refine Hc.out.mono ?_; rintro e1 w1 ⟨rfl, hb⟩; have HG1 := Lib.hid (HGz.out.trans (show Gr wz w1 from hb)); clear hb)
            | fail)
          go_roundg (L.length - (k + 1))
          case measure => omega
          case rel => exact ⟨k + 1, by omega, rfl, by go_num, HG1.out, HN⟩
        | false =>
          have HF := Lib.hid (decide_eq_false (p := L = M) fun e => by
            subst e
            have h1 := HY.out.symm.trans HZ.out
            cases h1
            exact of_decide_eq_false HBQ.out rfl)
          go_wp2_with (first
            | (go_at_call 17; refine Hc.out.mono ?_; rintro e1 w1 ⟨rfl, hb⟩; have HG1 := Lib.hid (HGz.out.trans (show Gr wz w1 from hb)); clear hb)
            | fail)
          exact hR.out _ HF.out _ HG1.out
    · obtain rfl : k = L.length := by omega
      have HF := Lib.hid (decide_eq_true (p := L = M) (by
        apply List.ext_getElem?
        intro i
        by_cases hi : i < L.length
        · exact hsm.out i hi
        · rw [List.getElem?_eq_none (by omega), List.getElem?_eq_none (by have := HLL.out; omega)]))
      go_wp2_with fail
      exact hR.out _ HF.out _ gr

/-- What Best says, in one form. -/
theorem best_form (x : Pb) (v : Int) (hv : In64 v) : ∃ (bs : List Int) (ok : Bool) (f : Int), (∀ W, x.In W → Calls Try.prog 22 #[x.val, .int .i64 v] W fun en w' => ∃ p c, en = .returned (.tuple #[.slice p bs.length c, .bool ok, .int .i64 f]) ∧ IntSl w' p c bs ∧ Gr W w') ∧
    (checkP x.D x.cons ≠ 0 → bs = [] ∧ ok = false ∧ f = checkP x.D x.cons) ∧ (checkP x.D x.cons = 0 → ¬ (0 ≤ v ∧ v < x.D.length) → bs = [] ∧ ok = false ∧ f = 1) ∧
    (checkP x.D x.cons = 0 → (0 ≤ v ∧ v < x.D.length) → f = 0 ∧ ((firstSol x.cons x.D v.toNat (x.D.getD v.toNat []) = none ∧ bs = [] ∧ ok = false) ∨ (firstSol x.cons x.D v.toNat (x.D.getD v.toNat []) = some bs ∧ ok = true))) := by
  have hnil : ∀ W : World, IntSl W none 0 [] := fun W => ⟨Nat.le_refl _, by omega, (fun n hn => by cases hn), .inl rfl⟩
  by_cases h0 : checkP x.D x.cons = 0
  · by_cases hr : 0 ≤ v ∧ v < x.D.length
    · cases hf : firstSol x.cons x.D v.toNat (x.D.getD v.toNat []) with
      | none =>
        refine ⟨[], false, 0, fun W hW => (best_calls x v W hW hv).mono ?_, fun h => absurd h0 h, fun _ h => absurd hr h, fun _ _ => ⟨rfl, .inl ⟨rfl, rfl, rfl⟩⟩⟩
        rintro en w' ⟨hg, h⟩
        rcases h with ⟨h, _⟩ | ⟨_, h, _⟩ | ⟨_, _, _, h⟩ | ⟨_, _, s, p, c, h, _⟩
        · exact absurd h0 h
        · exact absurd hr h
        · exact ⟨none, 0, h, hnil _, hg⟩
        · rw [hf] at h; cases h
      | some s =>
        refine ⟨s, true, 0, fun W hW => (best_calls x v W hW hv).mono ?_, fun h => absurd h0 h, fun _ h => absurd hr h, fun _ _ => ⟨rfl, .inr ⟨rfl, rfl⟩⟩⟩
        rintro en w' ⟨hg, h⟩
        rcases h with ⟨h, _⟩ | ⟨_, h, _⟩ | ⟨_, _, h, _⟩ | ⟨_, _, s', p, c, h, h2, h3, h4⟩
        · exact absurd h0 h
        · exact absurd hr h
        · rw [hf] at h; cases h
        · rw [hf] at h; cases h
          exact ⟨p, c, h2, (h3.sl fun y hy => (h4 y hy).in64).2, hg⟩
    · refine ⟨[], false, 1, fun W hW => (best_calls x v W hW hv).mono ?_, fun h => absurd h0 h, fun _ _ => ⟨rfl, rfl, rfl⟩, fun _ h => absurd h hr⟩
      rintro en w' ⟨hg, h⟩
      rcases h with ⟨h, _⟩ | ⟨_, _, h⟩ | ⟨_, h, _⟩ | ⟨_, h, _⟩
      · exact absurd h0 h
      · exact ⟨none, 0, h, hnil _, hg⟩
      · exact absurd h hr
      · exact absurd h hr
  · refine ⟨[], false, checkP x.D x.cons, fun W hW => (best_calls x v W hW hv).mono ?_, fun _ => ⟨rfl, rfl, rfl⟩, fun h => absurd h h0, fun h => absurd h h0⟩
    rintro en w' ⟨hg, h⟩
    rcases h with ⟨_, h⟩ | ⟨h, _⟩ | ⟨h, _⟩ | ⟨h, _⟩
    · exact ⟨none, 0, h, hnil _, hg⟩
    · exact absurd h h0
    · exact absurd h h0
    · exact absurd h h0
def rowsV (L : List (List Int)) : VP := fun v w => ∃ p c, v = .slice p L.length c ∧ RowsBack w p c L
theorem rowsV_stable {L : List (List Int)} : ∀ v w w', rowsV L v w → Gr w w' → rowsV L v w' := fun _ _ _ ⟨p, c, h1, h2⟩ hg => ⟨p, c, h1, h2.mono hg⟩

set_option maxHeartbeats 16000000 in
set_option maxRecDepth 100000 in
theorem domainSolves_walk (x : Pb) (most v : Int) (w : World) (hx : x.In w) (_ : In64 most) (hv : In64 v) : Calls Try.prog 7 #[x.val, .int .i64 most, .int .i64 v] w (Ret (.bool true) w) := by
  have hR : Hid (∀ w', Gr w w' → Ret (.bool true) w (.returned (.bool true)) w') := fun w' hg => ⟨rfl, hg⟩
  generalize Ret (.bool true) w = Q at hR ⊢
  have HX := Lib.hid hx
  obtain ⟨bs, ok, f, hB1, hB2, hB3, hB4⟩ := best_form x v hv
  have HB1 := Lib.hid (fun W (hW : Gr w W) => hB1 W (hx.mono hW))
  have HB2 := Lib.hid hB2
  have HB3 := Lib.hid hB3
  have HB4 := Lib.hid hB4
  have Hrc : Hid (∀ W, Gr w W → Calls Try.prog 11 #[x.val] W (Ret (.int .i64 (checkP x.D x.cons)) W)) := fun W hW => rcheck_calls x W (hx.mono hW)
  have HVal := Lib.hid (show x.val = .agg #[.slice x.dp x.D.length x.dc, .slice x.cp x.C.length x.cc] from rfl)
  rw [HVal.out] at HB1 Hrc ⊢
  clear hB1 hB2 hB3 hB4 hv
  go_enter Try.func7, Try.ntmps7
  try simp only [List.append_eq, List.cons_append, List.nil_append]
  go_upto_region 1 with fail
  have hB := BlkT.new w 25 #[.slice x.dp x.D.length x.dc, .slice x.cp x.C.length x.cc]
  have gA : Gr w (w.alloc (.cells #[.slice x.dp x.D.length x.dc, .slice x.cp x.C.length x.cc] 25)) := by go_grown
  obtain ⟨bx, hbx⟩ : ∃ bx, w.heap.size = bx := ⟨_, rfl⟩
  rw [hbx] at hB ⊢
  clear hbx
  generalize w.alloc (.cells #[.slice x.dp x.D.length x.dc, .slice x.cp x.C.length x.cc] 25) = wA at *
  have HB := Lib.hid hB
  have HG := Lib.hid gA
  clear hB gA
  by_cases hm : 20000 < most
  case pos =>
    have hd : decide (20000 < most) = true := decide_eq_true hm
    go_wp2_with fail
    exact hR.out _ HG.out
  have hd : decide (20000 < most) = false := decide_eq_false hm
  have HM := Lib.hid (show most ≤ 20000 by omega)
  have H1 := Lib.hid (solve_calls x most wA (hx.mono HG.out) HM.out)
  rw [HVal.out] at H1
  clear hm hx
  have b0 := HB.out.cell 0 (v := .slice x.dp x.D.length x.dc) rfl
  have b1 := HB.out.cell 1 (v := .slice x.cp x.C.length x.cc) rfl
  obtain ⟨ec, hec⟩ : ∃ ec, checkP x.D x.cons = ec := ⟨_, rfl⟩
  have HEC := Lib.hid hec
  rw [hec] at Hrc
  by_cases h0 : ec = 0
  case neg =>
    have hb1 : (ec == 0) = false := beq_eq_false_iff_ne.2 h0
    have hb2 : (ec != 0) = true := by rw [bne, hb1]; rfl
    have hb3 : (ec == ec) = true := beq_self_eq_true ec
    have HNZ := Lib.hid (show checkP x.D x.cons ≠ 0 by rw [hec]; exact h0)
    obtain ⟨e1, e2, e3⟩ := HB2.out HNZ.out
    subst e1 e2
    rw [hec] at e3
    subst e3
    clear hec h0 HB2 HB3 HB4
    go_upto_region 4 with (first
      | (go_at_call 15; refine H1.out.mono ?_; rintro e2 w2 ⟨hg2, hor⟩; obtain rfl : e2 = .returned (.tuple #[.slice none 0 0, .int .i64 f]) := (by
          rcases hor with ⟨_, h⟩ | ⟨h, _⟩
          · rw [h, HEC.out]
          · exact absurd h HNZ.out); replace b0 := Gr.at hg2 b0; replace b1 := Gr.at hg2 b1; have G2 := Lib.hid (HG.out.trans hg2); clear hg2 hor)
      | fail)
    have H2 := Lib.hid (HB1.out w2 G2.out)
    go_upto_region 5 with (first
      | (go_at_call 22; refine H2.out.mono ?_; rintro e3 w3 ⟨p3, c3, rfl, h3, h4⟩; replace b0 := Gr.at h4 b0; replace b1 := Gr.at h4 b1; have G3 := Lib.hid (G2.out.trans h4); clear h3 h4)
      | fail)
    have H3 := Lib.hid (Hrc.out w3 G3.out)
    go_wp2_with (first
      | (go_at_call 11; refine H3.out.mono ?_; rintro e4 w4 ⟨rfl, hb⟩; have G4 := Lib.hid (G3.out.trans (show Gr w3 w4 from hb)); clear hb b0 b1)
      | fail)
    exact hR.out _ G4.out
  subst h0
  have HCK := Lib.hid hec
  have HB3 := Lib.hid (HB3.out hec)
  have HB4 := Lib.hid (HB4.out hec)
  have HNear : Hid (∀ d ∈ x.D, ∀ y ∈ d, Near y) := fun d hd => (okDom_rise ((check_zero hec).1 d hd)).2
  clear hec HB2
  obtain ⟨L, hL⟩ : ∃ L, (sols x.cons x.D).take most.toNat = L := ⟨_, rfl⟩
  have HL := Lib.hid hL
  clear hL
  go_upto_region 4 with (first
    | (go_at_call 15; refine H1.out.mono ?_; rintro e2 w2 ⟨hg2, hor⟩; obtain ⟨lp, lc, he2, hrb⟩ : ∃ p c, e2 = .returned (.tuple #[.slice p L.length c, .int .i64 0]) ∧ RowsBack w2 p c L := (by
        rcases hor with ⟨h, _⟩ | ⟨_, L', p, c, h1, h2, h3, h4, h5, h6⟩
        · exact absurd HCK.out h
        · obtain rfl : L' = L := h1.trans HL.out
          exact ⟨p, c, h2, h3.at fun s hs => (h6 s hs).2, h4, h5⟩); subst he2; have HRB := Lib.hid hrb; replace b0 := Gr.at hg2 b0; replace b1 := Gr.at hg2 b1; have G2 := Lib.hid (HG.out.trans hg2); have HBX2 := Lib.hid (HB.out.gr hg2); clear hg2 hor hrb)
    | fail)
  have H2 := Lib.hid (HB1.out w2 G2.out)
  go_upto_region 5 with (first
    | (go_at_call 22; refine H2.out.mono ?_; rintro e3 w3 ⟨p3, c3, rfl, h3, h4⟩; have HBS := Lib.hid h3; replace b0 := Gr.at h4 b0; replace b1 := Gr.at h4 b1; have G23 := Lib.hid h4; have G3 := Lib.hid (G2.out.trans h4); clear h3 h4)
    | fail)
  have H3 := Lib.hid (Hrc.out w3 G3.out)
  go_upto_region 8 with (first
    | (go_at_call 11; refine H3.out.mono ?_; rintro e4 w4 ⟨rfl, hb⟩; have hb : Gr w3 w4 := hb; replace b0 := Gr.at hb b0; replace b1 := Gr.at hb b1; have G34 := Lib.hid hb; have G4 := Lib.hid (G3.out.trans hb); clear hb)
    | fail)
  have H4 := Lib.hid (solutions_calls x most (-1) 0 (fun _ => none) w4 (HX.out.mono G4.out) HCK.out HM.out (.inl ⟨by omega, rfl⟩))
  rw [domsG_none, HL.out, HVal.out] at H4
  go_upto_region 10 with (first
    | (go_at_call 23; refine H4.out.mono ?_; rintro e5 w5 ⟨hg5, p5, c5, rfl, hrb5⟩; have HRB5 := Lib.hid hrb5; have G5 := Lib.hid hg5; have Hrw := Lib.hid (rowsLawS_calls lp p5 lc c5 L L w5 (HRB.out.mono (G23.out.trans (G34.out.trans hg5))).at_ hrb5.at_ HRB.out.cap hrb5.cap); rw [decide_eq_true rfl] at Hrw; clear hg5 hrb5 b0 b1)
    | (go_at_call 13; refine Hrw.out.mono ?_; rintro e6 w6 ⟨rfl, hb⟩; have G56 := Lib.hid (show Gr w5 w6 from hb); clear hb)
    | fail)
  have G46 := Lib.hid (G5.out.trans G56.out)
  have G26 := Lib.hid (G23.out.trans (G34.out.trans G46.out))
  have G6 := Lib.hid (G4.out.trans G46.out)
  have HBX6 := Lib.hid (HBX2.out.gr G26.out)
  have HBS6 := Lib.hid (HBS.out.mono (G34.out.trans G46.out))
  have b0 := HBX6.out.cell 0 (v := .slice x.dp x.D.length x.dc) rfl
  have hDl := HX.out.lenD.1
  have hDc := HX.out.lenD.2
  by_cases hv0 : v < 0
  case pos =>
    have hd0 : decide (v < 0) = true := decide_eq_true hv0
    obtain ⟨e1, e2, e3⟩ := HB3.out (fun h => by omega)
    subst e1 e2 e3
    clear hv0
    go_wp2_with fail
    exact hR.out _ G6.out
  have hd0 : decide (v < 0) = false := decide_eq_false hv0
  by_cases hv1 : (x.D.length : Int) ≤ v
  case pos =>
    have hd1 : decide (v ≥ (x.D.length : Int)) = true := decide_eq_true hv1
    obtain ⟨e1, e2, e3⟩ := HB3.out (fun h => by omega)
    subst e1 e2 e3
    clear hv0 hv1
    go_wp2_with fail
    exact hR.out _ G6.out
  have hd1 : decide (v ≥ (x.D.length : Int)) = false := decide_eq_false hv1
  obtain ⟨vn, rfl⟩ : ∃ vn : Nat, v = (vn : Int) := ⟨v.toNat, by omega⟩
  have hvn : vn < x.D.length := by omega
  obtain ⟨rfl, hbf⟩ := HB4.out ⟨by omega, by omega⟩
  simp only [Int.toNat_natCast] at hbf
  obtain ⟨d, hd⟩ : ∃ d, x.D[vn]? = some d := ⟨_, List.getElem?_eq_getElem hvn⟩
  rw [show x.D.getD vn [] = d by rw [List.getD_eq_getElem?_getD, hd]; rfl] at hbf
  have HBF := Lib.hid hbf
  have HD := Lib.hid hd
  have HSet : Hid (∀ z, domsG (updG (fun _ => none) (vn : Int) z) x.D 0 = x.D.set vn [z]) := fun z => by
    have := domsG_one x.D 0 vn z (Nat.zero_le _)
    rw [Nat.sub_zero] at this; exact this
  clear hv0 hv1 hbf hd
  go_upto_region 13 with fail
  clear b0 hd0 hd1
  go_loopg [13] d.length (fun k iv wr => ∃ i : Nat, i ≤ d.length ∧ k = d.length - i ∧ iv = .int .i64 ((i : Nat) : Int) ∧ Hid (firstSol x.cons x.D vn (d.drop i) = firstSol x.cons x.D vn d) ∧ Hid (Gr w6 wr))
  case atStart => exact ⟨0, Nat.zero_le _, rfl, rfl, rfl, Gr.rfl' _⟩
  case round =>
    obtain ⟨i, hi, rfl, rfl, hfd, gr⟩ := hrel
    have b0 := (HBX6.out.gr gr.out).cell 0 (v := .slice x.dp x.D.length x.dc) rfl
    have b1 := (HBX6.out.gr gr.out).cell 1 (v := .slice x.cp x.C.length x.cc) rfl
    have GW := Lib.hid (G6.out.trans gr.out)
    obtain ⟨rb, ro, hdp, _, hrd⟩ := (HX.out.mono GW.out).rows.resolve_left (fun e0 => by rw [e0] at hvn; simp at hvn)
    obtain ⟨qd, cd, d0, hsl⟩ := hrd vn d HD.out
    have hdl := hsl.1
    have hdc := hsl.2.1
    rw [hdp] at b0
    have HSLD := Lib.hid hsl
    have hvnI : (vn : Int) < (x.D.length : Int) := by omega
    clear hrd hsl
    by_cases hid : i < d.length
    case neg =>
      obtain rfl : i = d.length := by omega
      have hf := hfd.out
      rw [List.drop_length, firstSol] at hf
      rcases HBF.out with ⟨_, rfl, rfl⟩ | ⟨h, _⟩
      · clear hf hfd
        go_wp2_with fail
        exact hR.out _ GW.out
      · rw [← hf] at h; cases h
    obtain ⟨z, hz⟩ : ∃ z, d[i]? = some z := ⟨_, List.getElem?_eq_getElem hid⟩
    obtain ⟨qb, qo, hqd, _, hrz⟩ := HSLD.out.ptr (by omega)
    subst hqd
    have z0 := hrz i z hz
    have HDR := Lib.hid (show d.drop i = z :: d.drop (i + 1) by
      rw [List.drop_eq_getElem_cons hid]
      have := (List.getElem?_eq_some_iff.1 hz).2
      rw [this])
    rw [HDR.out] at hfd
    have HZN := Lib.hid (HNear.out d (List.mem_of_getElem? HD.out) z (List.mem_of_getElem? hz))
    have HSol : Hid (∀ W, Gr wr W → Calls Try.prog 23 #[.agg #[.slice x.dp x.D.length x.dc, .slice x.cp x.C.length x.cc], .int .i64 1, .int .i64 (vn : Int), .int .i64 z] W (RetSols ((sols x.cons (x.D.set vn [z])).take 1) W)) := fun W hW => by
      have h := solutions_calls x 1 (vn : Int) z (updG (fun _ => none) (vn : Int) z) W (HX.out.mono (GW.out.trans hW)) HCK.out (by omega) (.inr ⟨vn, rfl, hvn, HZN.out, rfl⟩)
      rw [HSet.out, HVal.out] at h
      exact h
    have HDP := Lib.hid hdp
    rw [hdp] at HSol
    obtain ⟨SS, hSS⟩ : ∃ SS, sols x.cons (x.D.set vn [z]) = SS := ⟨_, rfl⟩
    have HSS := Lib.hid hSS
    rw [hSS] at HSol
    obtain ⟨L1, hL1⟩ : ∃ L1, SS.take 1 = L1 := ⟨_, rfl⟩
    have HL1 := Lib.hid hL1
    rw [hL1] at HSol
    clear hrz hz hdp hSS hL1
    go_upto_region 15 with fail
    refine wp_region_rely_tail 11 [fx (.agg #[.slice (some ⟨rb, ro, none⟩) x.D.length x.dc, .slice x.cp x.C.length x.cc]), fx (.int .i64 (vn : Nat)), fx (.pointer (some ⟨bx, 0, none⟩)), fx (.slice (some ⟨rb, ro, none⟩) x.D.length x.dc), fx (.int .i64 (vn : Nat)), fx (.pointer (some ⟨rb, ro + vn, none⟩)), fx (.slice (some ⟨qb, qo, none⟩) d.length cd), fx (.int .i64 (i : Nat)), fx (.pointer (some ⟨qb, qo + i, none⟩)), fx (.int .i64 z), rowsV L1]
      (by kernel_rfl) (by kernel_rfl) (by decide) (by repeat (first | exact Stable.nil | refine Stable.fix ?_ | refine Stable.cons rowsV_stable ?_)) ?_ ?_
    · refine ⟨?_, ?_, ?_, ?_, ?_, ?_, ?_, ?_, ?_, ?_, ?a10, trivial⟩
      case a10 =>
        intro fr wz hg hold
        have h2 : fr.tmps[2]?.getD undef = .int .i64 (vn : Nat) := hold 2 rfl
        have h3 : fr.tmps[3]?.getD undef = .pointer (some ⟨bx, 0, none⟩) := hold 3 rfl
        have h13 : fr.tmps[13]?.getD undef = .int .i64 (i : Nat) := hold 13 rfl
        clear hold
        have B0 := Gr.at hg b0
        have B1 := Gr.at hg b1
        have D0 := Gr.at hg d0
        have Z0 := Gr.at hg z0
        simp [predsImp, Region.binds, dstAt, fx]
        intros
        rename_i K hK
        go_simp
        refine (HSol.out wz hg).mono ?_
        rintro e9 w9 ⟨k1, p9, c9, rfl, k2⟩
        exact hK _ _ ⟨p9, c9, rfl, k2⟩ k1
      all_goals
        intro fr wz hg hold
        have h2 : fr.tmps[2]?.getD undef = .int .i64 (vn : Nat) := hold 2 rfl
        have h3 : fr.tmps[3]?.getD undef = .pointer (some ⟨bx, 0, none⟩) := hold 3 rfl
        have h13 : fr.tmps[13]?.getD undef = .int .i64 (i : Nat) := hold 13 rfl
        clear hold
        have B0 := Gr.at hg b0
        have B1 := Gr.at hg b1
        have D0 := Gr.at hg d0
        have Z0 := Gr.at hg z0
        simp [predsImp, Region.binds, dstAt, fx]
        intros
        first
          | (rw [if_pos (by simp [*])]
             intro K hK)
          | (rename_i K hK)
        go_simp
      all_goals exact hK _ _ rfl (Gr.rfl' _)
    · intro wz hg
      rintro _ rfl _ rfl _ rfl _ rfl _ rfl _ rfl _ rfl _ rfl _ rfl _ rfl _ ⟨p9, c9, rfl, hrb⟩
      simp only [finAll, Act.put, List.setIfInBounds_toArray, List.set_cons_succ, List.set_cons_zero, List.drop_succ_cons, List.drop_zero, List.take_zero]
      clear b0 b1 d0 z0
      have HRB9 := Lib.hid hrb
      have GZ := Lib.hid (gr.out.trans hg)
      have hgz := hg
      clear hrb hg
      cases SS with
      | nil =>
        obtain rfl : L1 = [] := HL1.out.symm
        have HN : Hid (firstSol x.cons x.D vn (d.drop (i + 1)) = firstSol x.cons x.D vn d) := by
          show _ = _
          rw [← hfd.out, firstSol_nil HSS.out]
        clear hfd
        go_wp2_with fail
        go_roundg (d.length - (i + 1))
        case measure => omega
        case rel => exact ⟨i + 1, by omega, rfl, by go_num, HN, GZ⟩
      | cons s l =>
        obtain rfl : L1 = [s] := HL1.out.symm
        have hfs := hfd.out
        rw [firstSol_hit HSS.out] at hfs
        obtain ⟨rfl, rfl⟩ : bs = s ∧ ok = true := by
          rcases HBF.out with ⟨h, _⟩ | ⟨h, h2⟩
          · rw [h] at hfs; cases hfs
          · rw [h] at hfs; cases hfs; exact ⟨rfl, h2⟩
        obtain ⟨ob, oo, hpo, _, hro⟩ := HRB9.out.at_.resolve_left (fun e0 => by cases e0)
        subst hpo
        obtain ⟨q1, cq1, o0, hs1⟩ := hro 0 bs rfl
        rw [Nat.add_zero] at o0
        have Hsm := Lib.hid (same_calls p3 q1 c3 cq1 bs bs wz (HBS6.out.mono GZ.out) hs1)
        rw [decide_eq_true rfl] at Hsm
        clear hfs hfd hro hs1 hgz
        go_wp2_with (first
          | (go_at_call 17; refine Hsm.out.mono ?_; rintro e7 w7 ⟨rfl, hb⟩; have G7 := Lib.hid (show Gr wz w7 from hb); clear hb)
          | fail)
        exact hR.out _ (G6.out.trans (GZ.out.trans G7.out))
end Go.Proofs.Ytbapmokbkjmdcaa
