/-
  hornref.CheckProblem.
  hornref.Has, hornref.SameNumbers; a number behind a row of the call's own.
-/
import Derived.Test.YtbapmokbkjmdcaaDR19
namespace Go.Proofs.Ytbapmokbkjmdcaa
open Go.RowKit Go.Maps Go.Lib

/-- Too large? (So far.) -/
def largeAt (D : List (List Int)) (C : Nat) (j : Nat) : Bool := decide (50 < D.length) || (decide (100 < C) || (D.take j).any fun d => decide (100 < d.length))
theorem largeAt_succ {D : List (List Int)} {C j : Nat} {d : List Int} (h : D[j]? = some d) : largeAt D C (j + 1) = (largeAt D C j || decide (100 < d.length)) := by
  rw [largeAt, largeAt, List.take_add_one, h, List.any_append]
  simp [Bool.or_assoc]

set_option maxHeartbeats 8000000 in
set_option maxRecDepth 100000 in
theorem rcheck_calls (x : Pb) (w : World) (hx : x.In w) : Calls Try.prog 11 #[x.val] w (Ret (.int .i64 (checkP x.D x.cons)) w) := by
  have hR1 : Hid (∀ w', (x.D.all okDom && x.cons.all (fun c => c.ok x.D.length)) = false → Gr w w' → Ret (.int .i64 (checkP x.D x.cons)) w (.returned (.int .i64 1)) w') := fun w' h hg => ⟨by rw [checkP, if_neg (by rw [h]; decide)], hg⟩
  have hR2 : Hid (∀ w', (x.D.all okDom && x.cons.all (fun c => c.ok x.D.length)) = true → largeP x.D x.cons = true → Gr w w' → Ret (.int .i64 (checkP x.D x.cons)) w (.returned (.int .i64 9)) w') := fun w' h h2 hg => ⟨by rw [checkP, if_pos h, if_pos h2], hg⟩
  have hR3 : Hid (∀ w', (x.D.all okDom && x.cons.all (fun c => c.ok x.D.length)) = true → largeP x.D x.cons = false → Gr w w' → Ret (.int .i64 (checkP x.D x.cons)) w (.returned (.int .i64 0)) w') := fun w' h h2 hg => ⟨by rw [checkP, if_pos h, if_neg (by rw [h2]; decide)], hg⟩
  generalize Ret (.int .i64 (checkP x.D x.cons)) w = Q at hR1 hR2 hR3 ⊢
  have HX := Lib.hid hx
  have hlc := hx.lenD.1
  have hcc := hx.lenD.2
  have hlc2 := hx.lenC.1
  have hcc2 := hx.lenC.2
  clear hx
  rw [show x.val = .agg #[.slice x.dp x.D.length x.dc, .slice x.cp x.C.length x.cc] from rfl]
  have HCL := Lib.hid (show x.cons.length = x.C.length from List.length_map _)
  go_enter Try.func11, Try.ntmps11
  try simp only [List.append_eq, List.cons_append, List.nil_append]
  go_upto_region 1 with fail
  have hB := BlkT.new w 25 #[.slice x.dp x.D.length x.dc, .slice x.cp x.C.length x.cc]
  have gA : Gr w (w.alloc (.cells #[.slice x.dp x.D.length x.dc, .slice x.cp x.C.length x.cc] 25)) := by go_grown
  generalize hwA : w.alloc (.cells #[.slice x.dp x.D.length x.dc, .slice x.cp x.C.length x.cc] 25) = wA at *
  clear hwA
  have b0 := hB.cell 0 (v := .slice x.dp x.D.length x.dc) rfl
  have b1 := hB.cell 1 (v := .slice x.cp x.C.length x.cc) rfl
  have HB0 := Lib.hid b0
  have HB1 := Lib.hid b1
  have HG := Lib.hid gA
  clear hB gA
  have HXR := Lib.hid (HX.out.rows.mono HG.out)
  have HXC := Lib.hid (HX.out.cns.mono HG.out)
  generalize hdp : x.dp = dp at *
  generalize hcp : x.cp = cp at *
  go_cut [3] from 8 to 17 (fun b wx => b = .bool (largeAt x.D x.C.length 0) ∧ wA = wx)
  case first =>
    by_cases h1 : 50 < x.D.length
    case pos =>
      have e1 : (50 : Int) < (x.D.length : Int) := by omega
      have HF := Lib.hid (show largeAt x.D x.C.length 0 = true by simp [largeAt, h1])
      go_wp2_with fail
      go_meet
      exact ⟨by rw [HF.out], rfl⟩
    have e1 : ¬ (50 : Int) < (x.D.length : Int) := by omega
    by_cases h2 : 100 < x.C.length
    case pos =>
      have e2 : (100 : Int) < (x.C.length : Int) := by omega
      have HF := Lib.hid (show largeAt x.D x.C.length 0 = true by simp [largeAt, h2])
      go_wp2_with fail
      go_meet
      exact ⟨by rw [HF.out], rfl⟩
    have e2 : ¬ (100 : Int) < (x.C.length : Int) := by omega
    have HF := Lib.hid (show largeAt x.D x.C.length 0 = false by simp [largeAt, h1, h2])
    go_wp2_with fail
    go_meet
    exact ⟨by rw [HF.out], rfl⟩
  case rest =>
    obtain ⟨rfl, rfl⟩ := hcut
    clear b0 b1
    go_wp2_with fail
    go_loopg [3, 4, 5, 6] x.D.length (fun k lv i dv jv wr => ∃ (j : Nat), j ≤ x.D.length ∧ k = x.D.length - j ∧ lv = .bool (largeAt x.D x.C.length j) ∧ i = .int .i64 ((j : Nat) : Int) ∧ Hid (Gr wA wr) ∧ Hid (∀ i d, i < j → x.D[i]? = some d → okDom d = true))
    case atStart => exact ⟨0, Nat.zero_le _, rfl, rfl, rfl, Gr.rfl' _, fun i _ hi => by omega⟩
    case round =>
      obtain ⟨j, hj, rfl, rfl, rfl, gr, hok⟩ := hrel
      have b0 := gr.out.at HB0.out
      by_cases hlt : j < x.D.length
      · obtain ⟨b, o, hdpe, _, hr⟩ := (HXR.out.mono gr.out).resolve_left (fun e0 => by rw [e0] at hlt; simp at hlt)
        subst hdpe
        obtain ⟨d, hd⟩ : ∃ d, x.D[j]? = some d := ⟨_, List.getElem?_eq_getElem hlt⟩
        obtain ⟨q, cq, c0, hsl⟩ := hr j d hd
        have hdl := hsl.1
        have hdc := hsl.2.1
        have HSL := Lib.hid hsl
        have HD := Lib.hid hd
        have HLS := Lib.hid (largeAt_succ (C := x.C.length) hd)
        clear hr hd hsl
        go_upto_region 6 with fail
        clear c0
        go_cut [3] from 18 to 69 (fun b wx => b = .bool (largeAt x.D x.C.length (j + 1)) ∧ wr = wx)
        case first =>
          obtain ⟨lj, hlj⟩ : ∃ lj, largeAt x.D x.C.length j = lj := ⟨_, rfl⟩
          rw [hlj] at HLS
          rw [hlj]
          clear hlj
          cases lj with
          | true =>
            have HF := Lib.hid (HLS.out.trans (Bool.true_or _))
            go_wp2_with fail
            go_meet
            exact ⟨by rw [HF.out], rfl⟩
          | false =>
            by_cases h1 : 100 < d.length
            case pos =>
              have e1 : (100 : Int) < (d.length : Int) := by omega
              have HF := Lib.hid (HLS.out.trans ((Bool.false_or _).trans (decide_eq_true h1)))
              go_wp2_with fail
              go_meet
              exact ⟨by rw [HF.out], rfl⟩
            have e1 : ¬ (100 : Int) < (d.length : Int) := by omega
            have HF := Lib.hid (HLS.out.trans ((Bool.false_or _).trans (decide_eq_false h1)))
            go_wp2_with fail
            go_meet
            exact ⟨by rw [HF.out], rfl⟩
        case rest =>
          obtain ⟨rfl, rfl⟩ := hcut
          clear HLS b0
          go_wp2_with fail
          go_loopg [6] d.length (fun k i wx => ∃ m : Nat, m ≤ d.length ∧ k = d.length - m ∧ i = .int .i64 ((m : Nat) : Int) ∧ Hid (Gr wr wx) ∧ Hid (∀ i, i < m → okAt d i = true))
          case atStart => exact ⟨0, Nat.zero_le _, rfl, rfl, Gr.rfl' _, fun i hi => by omega⟩
          case round =>
            obtain ⟨m, hm, rfl, rfl, gx, hat⟩ := hrel
            by_cases hlt2 : m < d.length
            · obtain ⟨b', o', rfl, _, hr'⟩ := (HSL.out.mono gx.out).ptr (by omega)
              obtain ⟨y, hy⟩ : ∃ y, d[m]? = some y := ⟨_, List.getElem?_eq_getElem hlt2⟩
              have d0 := hr' m y hy
              have hyd : d.getD m 0 = y := by rw [List.getD_eq_getElem?_getD, hy]; rfl
              have HBad : Hid (okAt d m = false → (x.D.all okDom && x.cons.all (fun c => c.ok x.D.length)) = false) := fun h => by
                have h1 : okDom d = false := by
                  rw [okDom, List.all_eq_false]
                  exact ⟨m, List.mem_range.2 hlt2, by rw [h]; decide⟩
                have h2 : x.D.all okDom = false := by
                  rw [List.all_eq_false]
                  exact ⟨d, List.mem_of_getElem? HD.out, by rw [h1]; decide⟩
                rw [h2]; rfl
              have HNext : Hid (okAt d m = true → Hid (∀ i, i < m + 1 → okAt d i = true)) := fun h i hi => by
                by_cases hij : i = m
                · rw [hij]; exact h
                · exact hat.out i (by omega)
              have HGX := Lib.hid (HG.out.trans (gr.out.trans gx.out))
              by_cases h2 : 1000000 < y
              case pos =>
                have e2 : decide (1000000 < y) = true := decide_eq_true h2
                have hb := Lib.hid (HBad.out (by rw [okAt, hyd, decide_eq_false (show ¬ y ≤ 1000000 by omega), Bool.and_false]; rfl))
                clear hr' hy hyd
                go_upto_region 10 with fail
                go_quiet (fail)
                go_wp2_with fail
                exact hR1.out _ hb.out (HGX.out.drewN nq)
              have e2 : decide (1000000 < y) = false := decide_eq_false h2
              by_cases h1 : y < -1000000
              case pos =>
                have e1 : decide (y < -1000000) = true := decide_eq_true h1
                have hb := Lib.hid (HBad.out (by rw [okAt, hyd, decide_eq_false (by omega)]; rfl))
                clear hr' hy hyd
                go_upto_region 10 with fail
                go_quiet (fail)
                go_wp2_with fail
                exact hR1.out _ hb.out (HGX.out.drewN nq)
              have e1 : decide (y < -1000000) = false := decide_eq_false h1
              have hnr : (decide (-1000000 ≤ y) && decide (y ≤ 1000000)) = true := by rw [decide_eq_true (by omega), decide_eq_true (by omega)]; rfl
              cases m with
              | zero =>
                have hn := Lib.hid (HNext.out (by rw [okAt, hyd, hnr]; rfl))
                clear hr' hy hyd hnr
                rw [Nat.add_zero] at d0
                have n0 : 0 < d.length := hlt2
                go_upto_region 10 with fail
                go_quiet (fail)
                go_wp2_with fail
                go_roundg (d.length - 1)
                case measure => omega
                case rel => exact ⟨1, by omega, rfl, by go_num, gx.out.drewN nq, hn⟩
              | succ m =>
                obtain ⟨z, hz⟩ : ∃ z, d[m]? = some z := ⟨_, List.getElem?_eq_getElem (by omega)⟩
                have d1 := hr' m z hz
                have hzd : d.getD m 0 = z := by rw [List.getD_eq_getElem?_getD, hz]; rfl
                have hml : (m : Int) < (d.length : Int) := by omega
                have hm0 : decide ((0 : Int) < (m : Int) + 1) = true := decide_eq_true (by omega)
                by_cases h3 : y ≤ z
                · have e3 : decide (y ≤ z) = true := decide_eq_true h3
                  have hb := Lib.hid (HBad.out (by rw [okAt, hyd, Nat.add_sub_cancel, hzd, hnr, decide_eq_false (show ¬ m + 1 = 0 by omega), decide_eq_false (show ¬ z < y by omega)]; rfl))
                  clear hr' hy hyd hnr hz hzd
                  go_upto_region 10 with fail
                  go_quiet (fail)
                  go_wp2_with fail
                  exact hR1.out _ hb.out (HGX.out.drewN nq)
                · have e3 : decide (y ≤ z) = false := decide_eq_false h3
                  have hn := Lib.hid (HNext.out (by rw [okAt, hyd, Nat.add_sub_cancel, hzd, hnr, decide_eq_true (show z < y by omega), Bool.or_true]; rfl))
                  clear hr' hy hyd hnr hz hzd
                  go_upto_region 10 with fail
                  go_quiet (fail)
                  go_wp2_with fail
                  go_roundg (d.length - (m + 1 + 1))
                  case measure => omega
                  case rel => exact ⟨m + 1 + 1, by omega, rfl, by go_num, gx.out.drewN nq, hn⟩
            · obtain rfl : m = d.length := by omega
              have hn : Hid (∀ i e, i < j + 1 → x.D[i]? = some e → okDom e = true) := fun i e hi he => by
                by_cases hij : i = j
                · subst hij
                  rw [HD.out] at he
                  cases he
                  exact List.all_eq_true.2 fun i hi => hat.out i (List.mem_range.1 hi)
                · exact hok.out i e (by omega) he
              have HGX := Lib.hid (gr.out.trans gx.out)
              go_wp2_with fail
              go_roundg (x.D.length - (j + 1))
              case measure => omega
              case rel => exact ⟨j + 1, by omega, rfl, rfl, by go_num, HGX, hn⟩
      · obtain rfl : j = x.D.length := by omega
        have HAllD : Hid (x.D.all okDom = true) := List.all_eq_true.2 fun d hd => by
          obtain ⟨i, hi⟩ := List.getElem?_of_mem hd
          exact hok.out i d (List.getElem?_eq_some_iff.1 hi).1 hi
        have HLP := Lib.hid (show largeAt x.D x.C.length x.D.length = largeP x.D x.cons by rw [largeAt, largeP, HCL.out, List.take_length])
        rw [HLP.out]
        generalize hlp : largeP x.D x.cons = lp at *
        clear hok hlp HLP
        have GR := gr
        go_wp2_with fail
        clear b0
        go_loopg [7] x.C.length (fun k i wx => ∃ j : Nat, j ≤ x.C.length ∧ k = x.C.length - j ∧ i = .int .i64 ((j : Nat) : Int) ∧ Hid (Gr wA wx) ∧ Hid (∀ i y, i < j → x.C[i]? = some y → y.con.ok x.D.length = true))
        case atStart => exact ⟨0, Nat.zero_le _, rfl, rfl, GR, fun i _ hi => by omega⟩
        case round =>
          clear gr GR
          obtain ⟨j, hj2, rfl, rfl, gr, hok⟩ := hrel
          have b0 := gr.out.at HB0.out
          have b1 := gr.out.at HB1.out
          by_cases hlt : j < x.C.length
          · obtain ⟨y, hy⟩ : ∃ y, x.C[j]? = some y := ⟨_, List.getElem?_eq_getElem hlt⟩
            have hyin : y ∈ x.C := List.mem_of_getElem? hy
            obtain ⟨cb, co, hcpe, _, hcells⟩ := (HXC.out.mono gr.out).resolve_left (fun e0 => by rw [e0] at hyin; exact (List.not_mem_nil hyin))
            subst hcpe
            have x0 := hcells _ y hy 0 (.int .i64 y.k) rfl
            have x1 := hcells _ y hy 1 (.slice y.vp y.vs.length y.vc) rfl
            have x2 := hcells _ y hy 2 (.slice y.cp y.cs.length y.cc) rfl
            have x3 := hcells _ y hy 3 (.int .i64 y.op) rfl
            have x4 := hcells _ y hy 4 (.int .i64 y.c) rfl
            simp only [← Nat.add_assoc, Nat.add_zero] at x0 x1 x2 x3 x4
            have HY := Lib.hid hy
            have HYI := Lib.hid (HX.out.ins y hyin)
            obtain ⟨oky, hoky⟩ : ∃ oky, y.con.ok x.D.length = oky := ⟨_, rfl⟩
            have HOKY := Lib.hid hoky
            clear hcells hy hyin hoky
            go_upto_region 15 with fail
            refine wp_region_rely_tail 8 [fx (.pointer (some ⟨w.heap.size, 1, none⟩)), fx (.slice (some ⟨cb, co, none⟩) x.C.length x.cc), fx (.int .i64 (j : Nat)), fx (.pointer (some ⟨cb, co + j * 5, none⟩)), fx (.agg #[.int .i64 y.k, .slice y.vp y.vs.length y.vc, .slice y.cp y.cs.length y.cc, .int .i64 y.op, .int .i64 y.c]), fx (.pointer (some ⟨w.heap.size, 0, none⟩)), fx (.slice dp x.D.length x.dc), fx (.int .i64 x.D.length)]
              (by kernel_rfl) (by kernel_rfl) (by decide) (by repeat (first | exact Stable.nil | refine Stable.fix ?_)) ?_ ?_
            · refine ⟨?_, ?_, ?_, ?_, ?_, ?_, ?_, ?_, trivial⟩
              all_goals
                intro fr wz hg hold
                have h1 : fr.tmps[1]?.getD undef = .pointer (some ⟨w.heap.size, 0, none⟩) := hold 1 rfl
                have h7 : fr.tmps[7]?.getD undef = .int .i64 (j : Nat) := hold 7 rfl
                clear hold
                have q0 := Gr.at hg b0
                have q1 := Gr.at hg b1
                have q2 := Gr.at hg x0
                have q3 := Gr.at hg x1
                have q4 := Gr.at hg x2
                have q5 := Gr.at hg x3
                have q6 := Gr.at hg x4
                simp [predsImp, Region.binds, dstAt, fx]
                intros
                first
                  | (rw [if_pos (by simp [*])]
                     intro K hK)
                  | (rename_i K hK)
                go_simp
              all_goals exact hK _ _ rfl (Gr.rfl' _)
            · intro wz hg
              rintro _ rfl _ rfl _ rfl _ rfl _ rfl _ rfl _ rfl _ rfl
              simp only [finAll, Act.put, List.setIfInBounds_toArray, List.set_cons_succ, List.set_cons_zero, List.drop_succ_cons, List.drop_zero, List.take_zero]
              clear b0 b1 x0 x1 x2 x3 x4
              have HGz := Lib.hid (gr.out.trans hg)
              have Hc := Lib.hid (con1_calls y x.D.length wz (HYI.out.mono (HG.out.trans HGz.out)) (by omega))
              rw [HOKY.out, show y.val = .agg #[.int .i64 y.k, .slice y.vp y.vs.length y.vc, .slice y.cp y.cs.length y.cc, .int .i64 y.op, .int .i64 y.c] from rfl] at Hc
              clear hg
              cases oky with
              | true =>
                have hn : Hid (∀ i z, i < j + 1 → x.C[i]? = some z → z.con.ok x.D.length = true) := fun i z hi hz => by
                  by_cases hij : i = j
                  · subst hij
                    rw [HY.out] at hz
                    cases hz
                    exact HOKY.out
                  · exact hok.out i z (by omega) hz
                go_wp2_with (first
                  | (go_at_call 33; refine Hc.out.mono ?_; rintro e1 w1 ⟨rfl, hb⟩; have HG1 := Lib.hid (HGz.out.trans (show Gr wz w1 from hb)); clear hb)
                  | fail)
                go_roundg (x.C.length - (j + 1))
                case measure => omega
                case rel => exact ⟨j + 1, by omega, rfl, by go_num, HG1, hn⟩
              | false =>
                have HBad : Hid ((x.D.all okDom && x.cons.all (fun c => c.ok x.D.length)) = false) := by
                  show _ = _
                  have : x.cons.all (fun c => c.ok x.D.length) = false := by
                    rw [List.all_eq_false]
                    exact ⟨y.con, List.mem_map.2 ⟨y, List.mem_of_getElem? HY.out, rfl⟩, by rw [HOKY.out]; decide⟩
                  rw [this, Bool.and_false]
                go_wp2_with (first
                  | (go_at_call 33; refine Hc.out.mono ?_; rintro e1 w1 ⟨rfl, hb⟩; have HG1 := Lib.hid (HGz.out.trans (show Gr wz w1 from hb)); clear hb)
                  | fail)
                exact hR1.out _ HBad.out (HG.out.trans HG1.out)
          · obtain rfl : j = x.C.length := by omega
            have HAll : Hid ((x.D.all okDom && x.cons.all (fun c => c.ok x.D.length)) = true) := by
              show _ = _
              rw [HAllD.out, Bool.true_and, List.all_eq_true]
              intro c hc
              obtain ⟨y, hy, rfl⟩ := List.mem_map.1 hc
              obtain ⟨i, hi⟩ := List.getElem?_of_mem hy
              exact hok.out i y (List.getElem?_eq_some_iff.1 hi).1 hi
            cases lp with
            | true =>
              go_wp2_with fail
              exact hR2.out _ HAll.out trivial (HG.out.trans gr.out)
            | false =>
              go_wp2_with fail
              exact hR3.out _ HAll.out trivial (HG.out.trans gr.out)
end Go.Proofs.Ytbapmokbkjmdcaa

namespace Go.Proofs.Ytbapmokbkjmdcaa
open Go.RowKit Go.Maps Go.Lib

def hasIdx (L : List Int) (n : Int) : Int := if n ∈ L then (L.idxOf n : Int) else -1

theorem idxOf_first {L : List Int} {n : Int} {k : Nat} (hk : L[k]? = some n) (hno : ∀ i, i < k → L[i]? ≠ some n) : L.idxOf n = k := by
  obtain ⟨hlt, he⟩ := List.getElem?_eq_some_iff.1 hk
  have hm : n ∈ L := he ▸ List.getElem_mem hlt
  have h1 := List.idxOf_lt_length_of_mem hm
  have h2 : L[L.idxOf n] = n := List.getElem_idxOf h1
  rcases Nat.lt_trichotomy (L.idxOf n) k with h | h | h
  · exact absurd (List.getElem?_eq_some_iff.2 ⟨h1, h2⟩) (hno _ h)
  · exact h
  · have := List.not_of_lt_findIdx (p := (· == n)) (xs := L) (i := k) (by exact h)
    simp [he] at this

set_option maxHeartbeats 1000000 in
set_option maxRecDepth 100000 in
theorem has_calls (p : Option Addr) (c : Nat) (L : List Int) (n : Int) (w : World) (h : IntSl w p c L) : Calls Try.prog 19 #[.slice p L.length c, .int .i64 n] w (Ret (.int .i64 (hasIdx L n)) w) := by
  have hR : Hid (∀ m, hasIdx L n = m → ∀ w', Gr w w' → Ret (.int .i64 (hasIdx L n)) w (.returned (.int .i64 m)) w') := fun b hb w' hg => ⟨by rw [hb], hg⟩
  have HH := Lib.hid (show hasIdx L n = if n ∈ L then (L.idxOf n : Int) else -1 from rfl)
  generalize hQ : Ret (.int .i64 (hasIdx L n)) w = Q at hR ⊢
  clear hQ
  generalize hasIdx L n = r at *
  have hlc : L.length ≤ c := h.1
  have hc : c ≤ 9223372036854775807 := h.2.1
  have H := Lib.hid h
  clear h
  go_enter Try.func19, Try.ntmps19
  try simp only [List.append_eq, List.cons_append, List.nil_append]
  go_wp2_with fail
  go_loopg [5] L.length (fun m i wr => ∃ k : Nat, k ≤ L.length ∧ m = L.length - k ∧ i = .int .i64 k ∧ wr = w ∧ Hid (∀ i, i < k → L[i]? ≠ some n))
  case atStart => exact ⟨0, Nat.zero_le _, rfl, rfl, rfl, fun i hi => by omega⟩
  case round =>
    obtain ⟨k, hk, rfl, rfl, rfl, hno⟩ := hrel
    by_cases hlt : k < L.length
    · obtain ⟨b, o, rfl, _, hr⟩ := H.out.ptr (by omega)
      have hy : L[k]? = some L[k] := List.getElem?_eq_getElem hlt
      have c0 := hr k _ hy
      clear hr
      generalize L[k] = y at *
      have HY := Lib.hid hy
      clear hy
      cases he : (y == n) with
      | true =>
        have hyn : y = n := beq_iff_eq.1 he
        have hv : Hid (r = (k : Int)) := by
          have hk2 : L[k]? = some n := hyn ▸ HY.out
          show _ = _
          rw [HH.out, if_pos (List.mem_of_getElem? hk2), idxOf_first hk2 hno.out]
        clear hyn
        go_wp2_with fail
        exact hR.out _ hv.out _ (Gr.rfl' _)
      | false =>
        have hno2 : Hid (∀ i, i < k + 1 → L[i]? ≠ some n) := fun i hi => by
          by_cases hik : i = k
          · subst hik
            rw [HY.out]
            intro e
            cases e
            simp at he
          · exact hno.out i (by omega)
        go_wp2_with fail
        go_roundg (L.length - (k + 1))
        case measure => omega
        case rel => exact ⟨k + 1, by omega, rfl, by go_num, rfl, hno2⟩
    · obtain rfl : k = L.length := by omega
      have hv : Hid (r = -1) := by
        show _ = _
        rw [HH.out, if_neg]
        intro hm
        obtain ⟨i, hi, he⟩ := List.getElem_of_mem hm
        exact hno.out i hi (List.getElem?_eq_some_iff.2 ⟨hi, he⟩)
      go_wp2_with fail
      exact hR.out _ hv.out _ (Gr.rfl' _)

theorem hasIdx_ge {L : List Int} {n : Int} : (0 ≤ hasIdx L n) ↔ n ∈ L := by
  unfold hasIdx
  split
  · exact ⟨fun _ => by assumption, fun _ => by omega⟩
  · exact ⟨fun h => by omega, fun h => absurd h (by assumption)⟩

set_option maxHeartbeats 2000000 in
set_option maxRecDepth 100000 in
theorem same_calls (p q : Option Addr) (c d : Nat) (L M : List Int) (w : World) (hx : IntSl w p c L) (hy : IntSl w q d M) :
    Calls Try.prog 17 #[.slice p L.length c, .slice q M.length d] w (Ret (.bool (decide (L = M))) w) := by
  have hR : Hid (∀ b, decide (L = M) = b → ∀ w', Gr w w' → Ret (.bool (decide (L = M))) w (.returned (.bool b)) w') := fun b hb w' hg => ⟨by rw [hb], hg⟩
  have hlc : L.length ≤ c := hx.1
  have hc : c ≤ 9223372036854775807 := hx.2.1
  have hlc2 : M.length ≤ d := hy.1
  have hc2 : d ≤ 9223372036854775807 := hy.2.1
  have H := Lib.hid hx
  have K := Lib.hid hy
  generalize hQ : Ret (.bool (decide (L = M))) w = Q at hR ⊢
  clear hQ hx hy
  by_cases hll : L.length = M.length
  case neg =>
    have hb : ((L.length : Int) == (M.length : Int)) = false := beq_eq_false_iff_ne.2 (by omega)
    have hb2 : ((L.length : Int) != (M.length : Int)) = true := by rw [bne, hb]; rfl
    have HF := Lib.hid (decide_eq_false (p := L = M) fun e => hll (by rw [e]))
    clear hll
    go_enter Try.func17, Try.ntmps17
    try simp only [List.append_eq, List.cons_append, List.nil_append]
    go_wp2_with fail
    exact hR.out _ HF.out _ (Gr.rfl' _)
  have hb : ((L.length : Int) == (M.length : Int)) = true := beq_iff_eq.2 (by omega)
  have hb2 : ((L.length : Int) != (M.length : Int)) = false := by rw [bne, hb]; rfl
  have HLL := Lib.hid hll
  clear hll
  go_enter Try.func17, Try.ntmps17
  try simp only [List.append_eq, List.cons_append, List.nil_append]
  go_wp2_with fail
  go_loopg [5] L.length (fun m i wr => ∃ k : Nat, k ≤ L.length ∧ m = L.length - k ∧ i = .int .i64 k ∧ Gr w wr ∧ Hid (∀ i, i < k → L[i]? = M[i]?))
  case atStart => exact ⟨0, Nat.zero_le _, rfl, rfl, Gr.rfl' _, fun i hi => by omega⟩
  case round =>
    obtain ⟨k, hk, rfl, rfl, gr, hsm⟩ := hrel
    by_cases hlt : k < L.length
    · have hlt2 : k < M.length := by rw [← HLL.out]; exact hlt
      obtain ⟨b, o, rfl, _, hr⟩ := (H.out.mono gr).ptr (by omega)
      obtain ⟨b', o', rfl, _, hr'⟩ := (K.out.mono gr).ptr (by omega)
      obtain ⟨y, hy⟩ : ∃ y, L[k]? = some y := ⟨_, List.getElem?_eq_getElem hlt⟩
      obtain ⟨z, hz⟩ : ∃ z, M[k]? = some z := ⟨_, List.getElem?_eq_getElem hlt2⟩
      have c0 := hr k _ hy
      have d0 := hr' k _ hz
      have HY := Lib.hid hy
      have HZ := Lib.hid hz
      clear hr hr' hy hz
      cases he : (y == z) with
      | true =>
        have hne : (y != z) = false := by rw [bne, he]; rfl
        have HN : Hid (∀ i, i < k + 1 → L[i]? = M[i]?) := fun i hi => by
          by_cases hik : i = k
          · rw [hik, HY.out, HZ.out, beq_iff_eq.1 he]
          · exact hsm.out i (by omega)
        go_upto_region 6 with fail
        go_quiet (fail)
        go_wp2_with fail
        go_roundg (L.length - (k + 1))
        case measure => omega
        case rel => exact ⟨k + 1, by omega, rfl, by go_num, gr.drewN _, HN⟩
      | false =>
        have hne : (y != z) = true := by rw [bne, he]; rfl
        have HF := Lib.hid (decide_eq_false (p := L = M) fun e => by
          subst e
          have h1 := HY.out.symm.trans HZ.out
          cases h1
          simp at he)
        go_upto_region 6 with fail
        go_quiet (fail)
        go_wp2_with fail
        exact hR.out _ HF.out _ (gr.drewN _)
    · obtain rfl : k = L.length := by omega
      have HF := Lib.hid (decide_eq_true (p := L = M) (by
        apply List.ext_getElem? 
        intro i
        by_cases hi : i < L.length
        · exact hsm.out i hi
        · rw [List.getElem?_eq_none (by omega), List.getElem?_eq_none (by have := HLL.out; omega)]))
      go_wp2_with fail
      exact hR.out _ HF.out _ gr

/-- A number behind a row of the call's own. -/
theorem ints_push {w0 wr : World} {B : Nat} {v : Value} {L : List Int} (x : Int) (h : IntsOwn wr B v L) (hB : B ≤ wr.heap.size) (hg : Gr w0 wr) (hw0 : w0.heap.size ≤ B) (hl : L.length ≤ 1000000000000) :
    ∃ v' w', (Builtin.append_ #[38, 38] 38 #[v, .slice (some ⟨wr.heap.size, 0, none⟩) 1 1]).run Try.prog (wr.alloc (.cells #[.int .i64 x] 2)) = .ok v' w' ∧ IntsOwn w' B v' (L ++ [x]) ∧ Gr w0 w' ∧ (wr.alloc (.cells #[.int .i64 x] 2)).grownBy w' v.ownBlock ∧ (v'.ownBlock = v.ownBlock ∨ v'.ownBlock = some (wr.alloc (.cells #[.int .i64 x] 2)).heap.size) := by
  obtain ⟨i0, hi, hz0, hz1, hz2⟩ := info_parts infoI64
  have gb : Gr wr (wr.alloc (.cells #[.int .i64 x] 2)) := by go_grown
  have hb : (wr.alloc (.cells #[.int .i64 x] 2)).cell? ⟨wr.heap.size, 0, none⟩ = some (.int .i64 x) := (BlkT.new wr 2 #[.int .i64 x]).cell 0 rfl
  obtain ⟨v', w', hr, ho', hgb, hob⟩ := run_append_own_fresh (P := Try.prog) (wr.alloc (.cells #[.int .i64 x] 2)) B 38 38 2 i0 (.int .i64 0) 1 8 Try.underlying38 hi hz0 hz1 hz2 rfl (by decide) v L.length (L.map (.int .i64)) (ownsRow_gr h gb) ⟨wr.heap.size, 0, none⟩ 1 1 [.int .i64 x] rfl (by
    intro k y hk
    match k, hk with
    | 0, hk => cases hk; exact hb
    | k + 1, hk => simp at hk) (by
    intro y hy
    rw [List.mem_singleton.1 hy]; rfl) (by simp only [maxLen]; omega) (by omega) (Nat.le_trans hB gb.size) (by decide)
  have hkp : Kp (fun y => v.ownBlock = some y) (wr.alloc (.cells #[.int .i64 x] 2)) w' := Kp.of_grown hgb fun r hr => hr
  refine ⟨v', w', hr, ?_, Below.trans (hg.trans gb) (hkp.below (fun b hb => Nat.le_trans hw0 (ownsRow_type h hb).2) (hg.trans gb).size), hgb, hob⟩
  show World.ownsRow _ _ _ _ _ _ _
  rw [List.length_append, List.map_append]; exact ho'
end Go.Proofs.Ytbapmokbkjmdcaa
