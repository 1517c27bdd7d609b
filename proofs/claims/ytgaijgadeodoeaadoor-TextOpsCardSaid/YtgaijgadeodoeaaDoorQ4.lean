/-
  text.CheckOps
-/
import Derived.Test.YtgaijgadeodoeaaDoorQ3
import Derived.Test.YtgaijgadeodoeaaDoorQ7
import Derived.Test.YtgaijgadeodoeaaDoorS0
namespace Go.Proofs.YtgaijgadeodoeaaDoor
open Go.RowKit Go.Maps

theorem badTo_le {l : List Opv} {j k : Nat} (h : badTo l j = true) (hjk : j ≤ k) : badTo l k = true := by
  induction k with
  | zero => obtain rfl : j = 0 := by omega
            exact h
  | succ k ih =>
    by_cases hj : j = k + 1
    · exact hj ▸ h
    · exact badTo_mono l k (ih (by omega))

theorem opsErr_long {l : List Opv} (h : 200 < l.length) : opsErr l = 6 := opsErr_true (badTo_le (j := 0) (by rw [badTo]; simpa using h) (Nat.zero_le _))
theorem badTo_at {l : List Opv} {k : Nat} {y : Opv} (hy : l[k]? = some y) : badTo l (k + 1) = (badTo l k || (badOp y || (l.take k).any (clash · y))) := by rw [badTo, hy]
theorem opsErr_bad {l : List Opv} {k : Nat} {y : Opv} (hy : l[k]? = some y) (h : badOp y = true) : opsErr l = 6 :=
  opsErr_true (badTo_le (j := k + 1) (by rw [badTo_at hy, h]; simp) (List.getElem?_eq_some_iff.1 hy).1)
theorem opsErr_clash {l : List Opv} {k : Nat} {y : Opv} (hy : l[k]? = some y) (b : Bool) (ht : decide (y.t ≤ 3) = b) (h : 0 < countOp b y.s.toList (l.take k)) : opsErr l = 6 :=
  opsErr_true (badTo_le (j := k + 1) (by rw [badTo_at hy, countOp_any, ht, decide_eq_true h]; simp) (List.getElem?_eq_some_iff.1 hy).1)

theorem countOp_succ (b : Bool) (s : List UInt8) {l : List Opv} {k : Nat} {y : Opv} (hy : l[k]? = some y) :
    countOp b s (l.take (k + 1)) = countOp b s (l.take k) + (if y.s.toList = s ∧ decide (y.t ≤ 3) = b then 1 else 0) := by
  obtain ⟨hk, rfl⟩ := List.getElem?_eq_some_iff.1 hy
  rw [List.take_succ_eq_append_getElem hk, countOp, countOp, List.filter_append, List.length_append]
  congr 1
  by_cases h1 : l[k].s.toList = s <;> by_cases h2 : decide (l[k].t ≤ 3) = b <;> simp [h1, h2]

/-- What the first k names are counted as. -/
def cnt (b : Bool) (l : List Opv) (k : Nat) : List UInt8 → Int := fun s => (countOp b s (l.take k) : Int)

/-- All is well so far. -/
def FineTo (l : List Opv) (k : Nat) : Prop := badTo l k = false ∧ ∀ b s, countOp b s (l.take k) ≤ 1

theorem FineTo.succ {l : List Opv} {k : Nat} {y : Opv} (h : FineTo l k) (hy : l[k]? = some y) (hb : badOp y = false) (c : Bool) (ht : decide (y.t ≤ 3) = c) (hc : countOp c y.s.toList (l.take k) = 0) : FineTo l (k + 1) := by
  refine ⟨by rw [badTo_at hy, h.1, hb, countOp_any, ht, hc]; rfl, fun b s => ?_⟩
  rw [countOp_succ b s hy]
  have := h.2 b s
  split
  · rename_i h1
    obtain ⟨rfl, rfl⟩ := h1
    rw [ht]
    omega
  · omega

/-- One more of the kind. -/
theorem cnt_put {l : List Opv} {k : Nat} {y : Opv} (hy : l[k]? = some y) (b : Bool) (ht : decide (y.t ≤ 3) = b) : (fun t => if t = y.s.toList then cnt b l k y.s.toList + 1 else cnt b l k t) = cnt b l (k + 1) := by
  funext t
  simp only [cnt]
  rw [countOp_succ b t hy]
  by_cases h : t = y.s.toList
  · subst h
    rw [if_pos rfl, if_pos ⟨rfl, ht⟩]
    rfl
  · rw [if_neg h, if_neg (fun e => h e.1.symm)]
    rfl

theorem cnt_same {l : List Opv} {k : Nat} {y : Opv} (hy : l[k]? = some y) (b : Bool) (ht : decide (y.t ≤ 3) = !b) : cnt b l k = cnt b l (k + 1) := by
  funext t
  simp only [cnt]
  rw [countOp_succ b t hy, if_neg (fun e => by rw [e.2] at ht; cases b <;> cases ht)]
  rfl

theorem wf_small {c : Int} (h0 : 0 ≤ c) (h1 : c ≤ 1) : (Lit.int .i64 (c + 1)).wf = true := by
  obtain rfl | rfl : c = 0 ∨ c = 1 := by omega
  · rfl
  · rfl

theorem bad_num {y : Opv} (h : 100 < (y.s.size : Int) ∨ y.p < 1 ∨ 1200 < y.p) : badOp y = true := by
  simp only [badOp, Bool.or_eq_true, decide_eq_true_eq]
  omega
theorem bad_s1 {y : Opv} (h : (y.s.toList == [44]) = true) : badOp y = true := by simp only [badOp, beq_iff_eq.1 h]; simp
theorem bad_s2 {y : Opv} (h : (y.s.toList == [124]) = true) : badOp y = true := by simp only [badOp, beq_iff_eq.1 h]; simp
theorem bad_s3 {y : Opv} (h : (y.s.toList == [91, 93]) = true) : badOp y = true := by simp only [badOp, beq_iff_eq.1 h]; simp
theorem bad_s4 {y : Opv} (h : (y.s.toList == [123, 125]) = true) : badOp y = true := by simp only [badOp, beq_iff_eq.1 h]; simp
theorem bad_t {y : Opv} (h1 : (y.t == 1) = false) (h2 : (y.t == 2) = false) (h3 : (y.t == 3) = false) (h4 : (y.t == 4) = false) (h5 : (y.t == 5) = false) : badOp y = true := by
  simp only [beq_eq_false_iff_ne] at h1 h2 h3 h4 h5
  simp only [badOp, Bool.or_eq_true, decide_eq_true_eq]
  omega

theorem bad_none {y : Opv} (h1 : ¬ 100 < (y.s.size : Int)) (h2 : ¬ y.p < 1) (h3 : ¬ 1200 < y.p) (s1 : (y.s.toList == [44]) = false) (s2 : (y.s.toList == [124]) = false) (s3 : (y.s.toList == [91, 93]) = false) (s4 : (y.s.toList == [123, 125]) = false)
    (ht : 1 ≤ y.t ∧ y.t ≤ 5) : badOp y = false := by
  simp only [beq_eq_false_iff_ne] at s1 s2 s3 s4
  simp only [badOp, Bool.or_eq_false_iff, decide_eq_false_iff_not]
  exact ⟨⟨⟨⟨⟨⟨⟨⟨by omega, by omega⟩, by omega⟩, by omega⟩, by omega⟩, s1⟩, s2⟩, s3⟩, s4⟩

theorem start_maps (w : World) (l : List Opv) : CountMap ((w.alloc (.map #[] 0)).alloc (.map #[] 0)) w.heap.size 0 (cnt true l 0) ∧ CountMap ((w.alloc (.map #[] 0)).alloc (.map #[] 0)) (w.heap.size + 1) 0 (cnt false l 0) := by
  have e : ∀ b, cnt b l 0 = fun _ => 0 := fun b => by funext s; simp [cnt, countOp]
  rw [e, e]
  refine ⟨(CountMap.made w).gr (by go_grown), ?_⟩
  have := CountMap.made (w.alloc (.map #[] 0))
  simpa using this

theorem keep_cell {w w' : World} {r R o : Nat} {v : Value} (hg : w.grownBy w' (some r)) (hR : R < w.heap.size) (hne : R ≠ r) (h : w.cell? ⟨R, o, none⟩ = some v) : w'.cell? ⟨R, o, none⟩ = some v :=
  (World.cell?_of_block (hg.block R hR (by simpa using hne))).trans h

theorem gr_grownBy {w w1 w2 : World} {r : Nat} (h : Gr w w1) (hg : w1.grownBy w2 (some r)) (hr : w.heap.size ≤ r) : Gr w w2 :=
  Below.trans h (grownBy_below hg h.size fun k hk => by cases hk; exact hr)

set_option maxHeartbeats 2000000 in
set_option maxRecDepth 100000 in
theorem checkOps_calls (p : Option Addr) (c : Nat) (l : List Opv) (w : World) (hx : (Opvs.mk p c l).In w) :
    Calls Tryd.prog 8 #[.slice p l.length c] w fun e w' => e = .returned (.int .i64 (opsErr l)) ∧ Gr w w' := by
  have HX := Lib.hid hx
  obtain ⟨hlc, ⟨hl64, hc⟩, _, _⟩ := hx
  simp only at hlc hl64 hc
  go_enter Tryd.func8, Tryd.ntmps8
  try simp only [List.append_eq, List.cons_append, List.nil_append]
  by_cases h0 : 200 < l.length
  · have HB := Lib.hid (opsErr_long h0)
    have h0' : (200 : Int) < (l.length : Int) := by omega
    go_wp2_with fail
    go_ret
    exact ⟨by rw [HB.out]; rfl, Gr.rfl' _⟩
  have h00 : Hid (FineTo l 0) := ⟨by rw [badTo]; simpa using h0, fun b s => by simp [countOp]⟩
  have h0' : ¬ (200 : Int) < (l.length : Int) := by omega
  clear h0
  have hmm := @run_makeMap Tryd.prog
  go_wp2_with fail
  go_loopg [14] l.length (fun m i wr => ∃ k : Nat, k ≤ l.length ∧ m = l.length - k ∧ i = .int .i64 k ∧ Hid (FineTo l k) ∧ Gr w wr ∧ CountMap wr w.heap.size k (cnt true l k) ∧ CountMap wr (w.heap.size + 1) k (cnt false l k))
  case atStart => exact ⟨0, Nat.zero_le _, rfl, rfl, h00, by go_grown, (start_maps w l).1, (start_maps w l).2⟩
  case round =>
    clear h00
    obtain ⟨k, hk, rfl, rfl, hfine, gr, m1, m2⟩ := hrel
    by_cases hlt : k < l.length
    · obtain ⟨b, o, rfl⟩ := HX.out.ptr (by omega)
      obtain ⟨⟨c0, c1, c2⟩, hs, hp, ht, hbl⟩ := (HX.out.mono gr).elem k hlt
      have gsz := gr.size
      have hy0 : l[k]? = some l[k] := List.getElem?_eq_getElem hlt
      have lt1 := m1.lt
      have lt2 := m2.lt
      generalize l[k] = y at *
      have HY := Lib.hid hy0
      clear hy0
      obtain ⟨⟨cf1, cf2⟩, cp1, cp2⟩ : (cnt true l k y.s.toList ≤ 1 ∧ cnt false l k y.s.toList ≤ 1) ∧ (0 ≤ cnt true l k y.s.toList ∧ 0 ≤ cnt false l k y.s.toList) := by
        have e1 := hfine.out.2 true y.s.toList
        have e2 := hfine.out.2 false y.s.toList
        unfold cnt
        exact ⟨⟨by omega, by omega⟩, by omega, by omega⟩
      have hw1 : IntKind.i64.wrap (cnt true l k y.s.toList + 1) = cnt true l k y.s.toList + 1 := IntWalk.i64_in _ (by omega)
      have hw2 : IntKind.i64.wrap (cnt false l k y.s.toList + 1) = cnt false l k y.s.toList + 1 := IntWalk.i64_in _ (by omega)
      go_upto_region 7 with fail
      have gr1 : Gr wr (wr.alloc (.cells #[.string y.s, .int .i64 y.p, .int .i64 y.t] 27)) := by go_grown
      obtain ⟨d0, d1, d2⟩ := cells3 wr (.string y.s) (.int .i64 y.p) (.int .i64 y.t) 27
      have m1' := m1.gr gr1
      have m2' := m2.gr gr1
      have g1 := gr.trans gr1
      have hRlt : wr.heap.size < (wr.alloc (.cells #[.string y.s, .int .i64 y.p, .int .i64 y.t] 27)).heap.size := World.block_lt_of_cell? _ _ d0
      clear c0 c1 c2 m1 m2 gr1 gr
      generalize wr.alloc (.cells #[.string y.s, .int .i64 y.p, .int .i64 y.t] 27) = wa at *
      by_cases hn0 : 100 < (y.s.size : Int)
      · have hbad : Hid (badOp y = true) := bad_num (by omega)
        go_wp2_with fail
        go_ret
        exact ⟨by rw [opsErr_bad HY.out (hbad.out)]; rfl, g1⟩
      by_cases hn1 : y.p < 1
      · have hbad : Hid (badOp y = true) := bad_num (by omega)
        go_wp2_with fail
        go_ret
        exact ⟨by rw [opsErr_bad HY.out (hbad.out)]; rfl, g1⟩
      by_cases hn2 : 1200 < y.p
      · have hbad : Hid (badOp y = true) := bad_num (by omega)
        go_wp2_with fail
        go_ret
        exact ⟨by rw [opsErr_bad HY.out (hbad.out)]; rfl, g1⟩
      cases hs1 : (y.s.toList == [44]) with
      | true =>
        have hbad : Hid (badOp y = true) := bad_s1 hs1
        go_wp2_with fail
        go_ret
        exact ⟨by rw [opsErr_bad HY.out (hbad.out)]; rfl, g1⟩
      | false =>
      cases hs2 : (y.s.toList == [124]) with
      | true =>
        have hbad : Hid (badOp y = true) := bad_s2 hs2
        go_wp2_with fail
        go_ret
        exact ⟨by rw [opsErr_bad HY.out (hbad.out)]; rfl, g1⟩
      | false =>
      cases hs3 : (y.s.toList == [91, 93]) with
      | true =>
        have hbad : Hid (badOp y = true) := bad_s3 hs3
        go_wp2_with fail
        go_ret
        exact ⟨by rw [opsErr_bad HY.out (hbad.out)]; rfl, g1⟩
      | false =>
      cases hs4 : (y.s.toList == [123, 125]) with
      | true =>
        have hbad : Hid (badOp y = true) := bad_s4 hs4
        go_wp2_with fail
        go_ret
        exact ⟨by rw [opsErr_bad HY.out (hbad.out)]; rfl, g1⟩
      | false =>
      cases ht1 : (y.t == 1) with
      | true =>
        have hty : Hid (decide (y.t ≤ 3) = true) := by rw [beq_iff_eq.1 ht1]; rfl
        have hgood : Hid (badOp y = false) := bad_none hn0 hn1 hn2 hs1 hs2 hs3 hs4 (by have := beq_iff_eq.1 ht1; omega)
        have hcl : Hid (0 < cnt true l k y.s.toList → opsErr l = 6) := fun h => opsErr_clash HY.out true hty.out (by unfold cnt at h; omega)
        have hput := cnt_put HY.out true hty.out
        have hput1 : cnt true l (k + 1) y.s.toList = cnt true l k y.s.toList + 1 := (congrFun hput _).symm.trans (if_pos rfl)
        have Hput := Lib.hid hput
        have Hput1 := Lib.hid hput1
        have Hsame := Lib.hid (cnt_same HY.out false (by rw [hty.out]; rfl))
        have ho : ¬ 1 < cnt false l k y.s.toList := by omega
        by_cases hz : 1 < cnt true l (k + 1) y.s.toList
        · clear hput hput1
          go_wp2_with (first
            | (at_lookup; refine wpList_lookup_count rfl _ _ rfl rfl _ _ _ _ rfl rfl (by unfold maxLen; omega) (by assumption) ?_)
            | (at_mapUpdate; refine wpList_update_count rfl _ _ _ rfl rfl _ _ _ _ (cnt true l k y.s.toList + 1) rfl rfl rfl m1' (by unfold maxLen; omega) (by unfold maxLen; omega) (wf_small cp1 cf1) ?_; intro w1 n1 g2; have n2 := m2'.kept g2 (by omega); have e0 := keep_cell g2 hRlt (by omega) d0; have g3 : Gr w w1 := gr_grownBy g1 g2 (by omega); rw [Hput.out] at n1; have rl := n2.run y.s (by unfold maxLen; omega))
            | fail)
          go_ret
          exact ⟨by rw [hcl.out (by have := Hput1.out; omega)]; rfl, g3⟩
        · have hfn : Hid (FineTo l (k + 1)) := hfine.out.succ HY.out hgood.out true hty.out (by have := Hput1.out; unfold cnt at this hz; omega)
          clear hput hput1
          go_wp2_with (first
            | (at_lookup; refine wpList_lookup_count rfl _ _ rfl rfl _ _ _ _ rfl rfl (by unfold maxLen; omega) (by assumption) ?_)
            | (at_mapUpdate; refine wpList_update_count rfl _ _ _ rfl rfl _ _ _ _ (cnt true l k y.s.toList + 1) rfl rfl rfl m1' (by unfold maxLen; omega) (by unfold maxLen; omega) (wf_small cp1 cf1) ?_; intro w1 n1 g2; have n2 := m2'.kept g2 (by omega); have e0 := keep_cell g2 hRlt (by omega) d0; have g3 : Gr w w1 := gr_grownBy g1 g2 (by omega); rw [Hput.out] at n1; have rl := n2.run y.s (by unfold maxLen; omega))
            | fail)
          go_roundg (l.length - (k + 1))
          case measure => omega
          case rel => exact ⟨k + 1, by omega, rfl, by go_num, hfn, g3, n1, by rw [← Hsame.out]; exact n2.mono (by omega)⟩
      | false =>
      cases ht2 : (y.t == 2) with
      | true =>
        have hty : Hid (decide (y.t ≤ 3) = true) := by rw [beq_iff_eq.1 ht2]; rfl
        have hgood : Hid (badOp y = false) := bad_none hn0 hn1 hn2 hs1 hs2 hs3 hs4 (by have := beq_iff_eq.1 ht2; omega)
        have hcl : Hid (0 < cnt true l k y.s.toList → opsErr l = 6) := fun h => opsErr_clash HY.out true hty.out (by unfold cnt at h; omega)
        have hput := cnt_put HY.out true hty.out
        have hput1 : cnt true l (k + 1) y.s.toList = cnt true l k y.s.toList + 1 := (congrFun hput _).symm.trans (if_pos rfl)
        have Hput := Lib.hid hput
        have Hput1 := Lib.hid hput1
        have Hsame := Lib.hid (cnt_same HY.out false (by rw [hty.out]; rfl))
        have ho : ¬ 1 < cnt false l k y.s.toList := by omega
        by_cases hz : 1 < cnt true l (k + 1) y.s.toList
        · clear hput hput1
          go_wp2_with (first
            | (at_lookup; refine wpList_lookup_count rfl _ _ rfl rfl _ _ _ _ rfl rfl (by unfold maxLen; omega) (by assumption) ?_)
            | (at_mapUpdate; refine wpList_update_count rfl _ _ _ rfl rfl _ _ _ _ (cnt true l k y.s.toList + 1) rfl rfl rfl m1' (by unfold maxLen; omega) (by unfold maxLen; omega) (wf_small cp1 cf1) ?_; intro w1 n1 g2; have n2 := m2'.kept g2 (by omega); have e0 := keep_cell g2 hRlt (by omega) d0; have g3 : Gr w w1 := gr_grownBy g1 g2 (by omega); rw [Hput.out] at n1; have rl := n2.run y.s (by unfold maxLen; omega))
            | fail)
          go_ret
          exact ⟨by rw [hcl.out (by have := Hput1.out; omega)]; rfl, g3⟩
        · have hfn : Hid (FineTo l (k + 1)) := hfine.out.succ HY.out hgood.out true hty.out (by have := Hput1.out; unfold cnt at this hz; omega)
          clear hput hput1
          go_wp2_with (first
            | (at_lookup; refine wpList_lookup_count rfl _ _ rfl rfl _ _ _ _ rfl rfl (by unfold maxLen; omega) (by assumption) ?_)
            | (at_mapUpdate; refine wpList_update_count rfl _ _ _ rfl rfl _ _ _ _ (cnt true l k y.s.toList + 1) rfl rfl rfl m1' (by unfold maxLen; omega) (by unfold maxLen; omega) (wf_small cp1 cf1) ?_; intro w1 n1 g2; have n2 := m2'.kept g2 (by omega); have e0 := keep_cell g2 hRlt (by omega) d0; have g3 : Gr w w1 := gr_grownBy g1 g2 (by omega); rw [Hput.out] at n1; have rl := n2.run y.s (by unfold maxLen; omega))
            | fail)
          go_roundg (l.length - (k + 1))
          case measure => omega
          case rel => exact ⟨k + 1, by omega, rfl, by go_num, hfn, g3, n1, by rw [← Hsame.out]; exact n2.mono (by omega)⟩
      | false =>
      cases ht3 : (y.t == 3) with
      | true =>
        have hty : Hid (decide (y.t ≤ 3) = true) := by rw [beq_iff_eq.1 ht3]; rfl
        have hgood : Hid (badOp y = false) := bad_none hn0 hn1 hn2 hs1 hs2 hs3 hs4 (by have := beq_iff_eq.1 ht3; omega)
        have hcl : Hid (0 < cnt true l k y.s.toList → opsErr l = 6) := fun h => opsErr_clash HY.out true hty.out (by unfold cnt at h; omega)
        have hput := cnt_put HY.out true hty.out
        have hput1 : cnt true l (k + 1) y.s.toList = cnt true l k y.s.toList + 1 := (congrFun hput _).symm.trans (if_pos rfl)
        have Hput := Lib.hid hput
        have Hput1 := Lib.hid hput1
        have Hsame := Lib.hid (cnt_same HY.out false (by rw [hty.out]; rfl))
        have ho : ¬ 1 < cnt false l k y.s.toList := by omega
        by_cases hz : 1 < cnt true l (k + 1) y.s.toList
        · clear hput hput1
          go_wp2_with (first
            | (at_lookup; refine wpList_lookup_count rfl _ _ rfl rfl _ _ _ _ rfl rfl (by unfold maxLen; omega) (by assumption) ?_)
            | (at_mapUpdate; refine wpList_update_count rfl _ _ _ rfl rfl _ _ _ _ (cnt true l k y.s.toList + 1) rfl rfl rfl m1' (by unfold maxLen; omega) (by unfold maxLen; omega) (wf_small cp1 cf1) ?_; intro w1 n1 g2; have n2 := m2'.kept g2 (by omega); have e0 := keep_cell g2 hRlt (by omega) d0; have g3 : Gr w w1 := gr_grownBy g1 g2 (by omega); rw [Hput.out] at n1; have rl := n2.run y.s (by unfold maxLen; omega))
            | fail)
          go_ret
          exact ⟨by rw [hcl.out (by have := Hput1.out; omega)]; rfl, g3⟩
        · have hfn : Hid (FineTo l (k + 1)) := hfine.out.succ HY.out hgood.out true hty.out (by have := Hput1.out; unfold cnt at this hz; omega)
          clear hput hput1
          go_wp2_with (first
            | (at_lookup; refine wpList_lookup_count rfl _ _ rfl rfl _ _ _ _ rfl rfl (by unfold maxLen; omega) (by assumption) ?_)
            | (at_mapUpdate; refine wpList_update_count rfl _ _ _ rfl rfl _ _ _ _ (cnt true l k y.s.toList + 1) rfl rfl rfl m1' (by unfold maxLen; omega) (by unfold maxLen; omega) (wf_small cp1 cf1) ?_; intro w1 n1 g2; have n2 := m2'.kept g2 (by omega); have e0 := keep_cell g2 hRlt (by omega) d0; have g3 : Gr w w1 := gr_grownBy g1 g2 (by omega); rw [Hput.out] at n1; have rl := n2.run y.s (by unfold maxLen; omega))
            | fail)
          go_roundg (l.length - (k + 1))
          case measure => omega
          case rel => exact ⟨k + 1, by omega, rfl, by go_num, hfn, g3, n1, by rw [← Hsame.out]; exact n2.mono (by omega)⟩
      | false =>
      cases ht4 : (y.t == 4) with
      | true =>
        have hty : Hid (decide (y.t ≤ 3) = false) := by rw [beq_iff_eq.1 ht4]; rfl
        have hgood : Hid (badOp y = false) := bad_none hn0 hn1 hn2 hs1 hs2 hs3 hs4 (by have := beq_iff_eq.1 ht4; omega)
        have hcl : Hid (0 < cnt false l k y.s.toList → opsErr l = 6) := fun h => opsErr_clash HY.out false hty.out (by unfold cnt at h; omega)
        have hput := cnt_put HY.out false hty.out
        have hput1 : cnt false l (k + 1) y.s.toList = cnt false l k y.s.toList + 1 := (congrFun hput _).symm.trans (if_pos rfl)
        have Hput := Lib.hid hput
        have Hput1 := Lib.hid hput1
        have Hsame := Lib.hid (cnt_same HY.out true (by rw [hty.out]; rfl))
        have ho : ¬ 1 < cnt true l k y.s.toList := by omega
        by_cases hz : 1 < cnt false l (k + 1) y.s.toList
        · clear hput hput1
          go_wp2_with (first
            | (at_lookup; refine wpList_lookup_count rfl _ _ rfl rfl _ _ _ _ rfl rfl (by unfold maxLen; omega) (by assumption) ?_)
            | (at_mapUpdate; refine wpList_update_count rfl _ _ _ rfl rfl _ _ _ _ (cnt false l k y.s.toList + 1) rfl rfl rfl m2' (by unfold maxLen; omega) (by unfold maxLen; omega) (wf_small cp2 cf2) ?_; intro w1 n1 g2; have n2 := m1'.kept g2 (by omega); have e0 := keep_cell g2 hRlt (by omega) d0; have g3 : Gr w w1 := gr_grownBy g1 g2 (by omega); rw [Hput.out] at n1; have rl := n1.run y.s (by unfold maxLen; omega))
            | fail)
          go_ret
          exact ⟨by rw [hcl.out (by have := Hput1.out; omega)]; rfl, g3⟩
        · have hfn : Hid (FineTo l (k + 1)) := hfine.out.succ HY.out hgood.out false hty.out (by have := Hput1.out; unfold cnt at this hz; omega)
          clear hput hput1
          go_wp2_with (first
            | (at_lookup; refine wpList_lookup_count rfl _ _ rfl rfl _ _ _ _ rfl rfl (by unfold maxLen; omega) (by assumption) ?_)
            | (at_mapUpdate; refine wpList_update_count rfl _ _ _ rfl rfl _ _ _ _ (cnt false l k y.s.toList + 1) rfl rfl rfl m2' (by unfold maxLen; omega) (by unfold maxLen; omega) (wf_small cp2 cf2) ?_; intro w1 n1 g2; have n2 := m1'.kept g2 (by omega); have e0 := keep_cell g2 hRlt (by omega) d0; have g3 : Gr w w1 := gr_grownBy g1 g2 (by omega); rw [Hput.out] at n1; have rl := n1.run y.s (by unfold maxLen; omega))
            | fail)
          go_roundg (l.length - (k + 1))
          case measure => omega
          case rel => exact ⟨k + 1, by omega, rfl, by go_num, hfn, g3, by rw [← Hsame.out]; exact n2.mono (by omega), n1⟩
      | false =>
      cases ht5 : (y.t == 5) with
      | true =>
        have hty : Hid (decide (y.t ≤ 3) = false) := by rw [beq_iff_eq.1 ht5]; rfl
        have hgood : Hid (badOp y = false) := bad_none hn0 hn1 hn2 hs1 hs2 hs3 hs4 (by have := beq_iff_eq.1 ht5; omega)
        have hcl : Hid (0 < cnt false l k y.s.toList → opsErr l = 6) := fun h => opsErr_clash HY.out false hty.out (by unfold cnt at h; omega)
        have hput := cnt_put HY.out false hty.out
        have hput1 : cnt false l (k + 1) y.s.toList = cnt false l k y.s.toList + 1 := (congrFun hput _).symm.trans (if_pos rfl)
        have Hput := Lib.hid hput
        have Hput1 := Lib.hid hput1
        have Hsame := Lib.hid (cnt_same HY.out true (by rw [hty.out]; rfl))
        have ho : ¬ 1 < cnt true l k y.s.toList := by omega
        by_cases hz : 1 < cnt false l (k + 1) y.s.toList
        · clear hput hput1
          go_wp2_with (first
            | (at_lookup; refine wpList_lookup_count rfl _ _ rfl rfl _ _ _ _ rfl rfl (by unfold maxLen; omega) (by assumption) ?_)
            | (at_mapUpdate; refine wpList_update_count rfl _ _ _ rfl rfl _ _ _ _ (cnt false l k y.s.toList + 1) rfl rfl rfl m2' (by unfold maxLen; omega) (by unfold maxLen; omega) (wf_small cp2 cf2) ?_; intro w1 n1 g2; have n2 := m1'.kept g2 (by omega); have e0 := keep_cell g2 hRlt (by omega) d0; have g3 : Gr w w1 := gr_grownBy g1 g2 (by omega); rw [Hput.out] at n1; have rl := n1.run y.s (by unfold maxLen; omega))
            | fail)
          go_ret
          exact ⟨by rw [hcl.out (by have := Hput1.out; omega)]; rfl, g3⟩
        · have hfn : Hid (FineTo l (k + 1)) := hfine.out.succ HY.out hgood.out false hty.out (by have := Hput1.out; unfold cnt at this hz; omega)
          clear hput hput1
          go_wp2_with (first
            | (at_lookup; refine wpList_lookup_count rfl _ _ rfl rfl _ _ _ _ rfl rfl (by unfold maxLen; omega) (by assumption) ?_)
            | (at_mapUpdate; refine wpList_update_count rfl _ _ _ rfl rfl _ _ _ _ (cnt false l k y.s.toList + 1) rfl rfl rfl m2' (by unfold maxLen; omega) (by unfold maxLen; omega) (wf_small cp2 cf2) ?_; intro w1 n1 g2; have n2 := m1'.kept g2 (by omega); have e0 := keep_cell g2 hRlt (by omega) d0; have g3 : Gr w w1 := gr_grownBy g1 g2 (by omega); rw [Hput.out] at n1; have rl := n1.run y.s (by unfold maxLen; omega))
            | fail)
          go_roundg (l.length - (k + 1))
          case measure => omega
          case rel => exact ⟨k + 1, by omega, rfl, by go_num, hfn, g3, by rw [← Hsame.out]; exact n2.mono (by omega), n1⟩
      | false =>
        have hbad : Hid (badOp y = true) := bad_t ht1 ht2 ht3 ht4 ht5
        go_wp2_with fail
        go_ret
        exact ⟨by rw [opsErr_bad HY.out (hbad.out)]; rfl, g1⟩
    · obtain rfl : k = l.length := by omega
      have HB := Lib.hid (opsErr_false hfine.out.1)
      go_wp2_with fail
      go_ret
      exact ⟨by rw [HB.out]; rfl, gr⟩
end Go.Proofs.YtgaijgadeodoeaaDoor

