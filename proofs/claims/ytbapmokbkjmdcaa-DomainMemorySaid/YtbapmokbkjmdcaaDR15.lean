/-
  domain.Check.
  An argument of type api.Problem that can be read.
-/
import Derived.Test.YtbapmokbkjmdcaaDR14
import Derived.ProofKit
import Derived.OpenShut
import Derived.ShutString
import Derived.ChangeOld
import Derived.Lib.SmallJoins
import Derived.Deep.Slices
namespace Go.Proofs.Ytbapmokbkjmdcaa
open Go.RowKit Go.Maps Go.Lib

/-- A problem with its addresses. -/
structure Pb where
  dp : Option Addr
  dc : Nat
  D : List (List Int)
  cp : Option Addr
  cc : Nat
  C : List Cn
def Pb.val (x : Pb) : Value := .agg #[.slice x.dp x.D.length x.dc, .slice x.cp x.C.length x.cc]
structure Pb.In (x : Pb) (w : World) : Prop where
  rows : RowsAt w x.dp x.D
  lenD : x.D.length ≤ x.dc ∧ x.dc ≤ 9223372036854775807
  cns : CnsAt w x.cp x.C
  lenC : x.C.length ≤ x.cc ∧ x.cc ≤ 9223372036854775807
  ins : ∀ y ∈ x.C, y.In w
theorem Pb.In.mono {x : Pb} {w w' : World} (h : x.In w) (hg : Gr w w') : x.In w' := ⟨h.rows.mono hg, h.lenD, h.cns.mono hg, h.lenC, fun y hy => (h.ins y hy).mono hg⟩
def Pb.cons (x : Pb) : List Con := x.C.map Cn.con

/-- May the number stand there? -/
def okAt (d : List Int) (i : Nat) : Bool := decide (-1000000 ≤ d.getD i 0) && decide (d.getD i 0 ≤ 1000000) && (decide (i = 0) || decide (d.getD (i - 1) 0 < d.getD i 0))
def okDom (d : List Int) : Bool := (List.range d.length).all (okAt d)
def largeP (D : List (List Int)) (C : List Con) : Bool := decide (50 < D.length) || (decide (100 < C.length) || D.any fun d => decide (100 < d.length))
/-- What Check says. -/
def checkP (D : List (List Int)) (C : List Con) : Int := if D.all okDom && C.all (fun c => c.ok D.length) then (if largeP D C then 9 else 0) else 1

theorem okDom_rise {d : List Int} (h : okDom d = true) : d.Pairwise (· < ·) ∧ ∀ y ∈ d, Near y := by
  have hi : ∀ i, i < d.length → okAt d i = true := fun i hi => List.all_eq_true.1 h i (List.mem_range.2 hi)
  constructor
  · have hst : ∀ i j, i < j → j < d.length → d.getD i 0 < d.getD j 0 := by
      intro i j hij
      induction j with
      | zero => omega
      | succ j ih =>
        intro hj
        have h1 := hi (j + 1) hj
        simp only [okAt, Bool.and_eq_true, Bool.or_eq_true, decide_eq_true_eq, Nat.add_sub_cancel] at h1
        have h2 := h1.2.resolve_left (by omega)
        by_cases he : i = j
        · rw [he]; exact h2
        · exact Int.lt_trans (ih (by omega) (by omega)) h2
    rw [List.pairwise_iff_getElem]
    intro i j hil hjl hij
    have := hst i j hij hjl
    rwa [getD_lt 0 hil, getD_lt 0 hjl] at this
  · intro y hy
    obtain ⟨i, hil, rfl⟩ := List.getElem_of_mem hy
    have h1 := hi i hil
    simp only [okAt, Bool.and_eq_true, decide_eq_true_eq] at h1
    rw [getD_lt 0 hil] at h1
    exact h1.1

set_option maxHeartbeats 8000000 in
set_option maxRecDepth 100000 in
theorem check_calls (x : Pb) (w : World) (hx : x.In w) : Calls Try.prog 9 #[x.val] w (Ret (.int .i64 (checkP x.D x.cons)) w) := by
  have hR1 : Hid (∀ w', (x.D.all okDom && x.cons.all (fun c => c.ok x.D.length)) = false → Gr w w' → Ret (.int .i64 (checkP x.D x.cons)) w (.returned (.int .i64 1)) w') := fun w' h hg => ⟨by rw [checkP, if_neg (by rw [h]; decide)], hg⟩
  have hR2 : Hid (∀ w', (x.D.all okDom && x.cons.all (fun c => c.ok x.D.length)) = true → largeP x.D x.cons = true → Gr w w' → Ret (.int .i64 (checkP x.D x.cons)) w (.returned (.int .i64 9)) w') := fun w' h h2 hg => ⟨by rw [checkP, if_pos h, if_pos h2], hg⟩
  have hR3 : Hid (∀ w', (x.D.all okDom && x.cons.all (fun c => c.ok x.D.length)) = true → largeP x.D x.cons = false → Gr w w' → Ret (.int .i64 (checkP x.D x.cons)) w (.returned (.int .i64 0)) w') := fun w' h h2 hg => ⟨by rw [checkP, if_pos h, if_neg (by rw [h2]; decide)], hg⟩
  generalize Ret (.int .i64 (checkP x.D x.cons)) w = Q at hR1 hR2 hR3 ⊢
  have HX := Lib.hid hx
  have hlc := hx.lenD.1
  have hcc := hx.lenD.2
  have hlc2 := hx.lenC.1
  have hcc2 := hx.lenC.2
  clear hx
  rw [show x.val = .agg #[.slice x.dp x.D.length x.dc, .slice x.cp x.C.length x.cc] from rfl]
  have HCL := Lib.hid (show x.cons.length = x.C.length from List.length_map _)
  go_enter Try.func9, Try.ntmps9
  try simp only [List.append_eq, List.cons_append, List.nil_append]
  go_upto_region 1 with fail
  have hB := BlkT.new w 25 #[.slice x.dp x.D.length x.dc, .slice x.cp x.C.length x.cc]
  have gA : Gr w (w.alloc (.cells #[.slice x.dp x.D.length x.dc, .slice x.cp x.C.length x.cc] 25)) := by go_grown
  generalize hwA : w.alloc (.cells #[.slice x.dp x.D.length x.dc, .slice x.cp x.C.length x.cc] 25) = wA at *
  clear hwA
  have HB0 := Lib.hid (hB.cell 0 (v := .slice x.dp x.D.length x.dc) rfl)
  have HB1 := Lib.hid (hB.cell 1 (v := .slice x.cp x.C.length x.cc) rfl)
  have HG := Lib.hid gA
  clear hB gA
  have b0 := HB0.out
  have HXR := Lib.hid (HX.out.rows.mono HG.out)
  generalize hdp : x.dp = dp at *
  go_upto_region 2 with fail
  clear b0
  go_loopg [12] x.D.length (fun k i wr => ∃ j : Nat, j ≤ x.D.length ∧ k = x.D.length - j ∧ i = .int .i64 ((j : Nat) : Int) ∧ wA = wr ∧ Hid (∀ i d, i < j → x.D[i]? = some d → okDom d = true))
  case atStart => exact ⟨0, Nat.zero_le _, rfl, rfl, rfl, fun i _ hi => by omega⟩
  case round =>
    obtain ⟨j, hj, rfl, rfl, rfl, hok⟩ := hrel
    by_cases hlt : j < x.D.length
    · obtain ⟨b, o, rfl, _, hr⟩ := HXR.out.resolve_left (fun e0 => by rw [e0] at hlt; simp at hlt)
      obtain ⟨d, hd⟩ : ∃ d, x.D[j]? = some d := ⟨_, List.getElem?_eq_getElem hlt⟩
      obtain ⟨q, cq, c0, hsl⟩ := hr j d hd
      have hdl := hsl.1
      have hdc := hsl.2.1
      have HSL := Lib.hid hsl
      have HD := Lib.hid hd
      clear hr hd hsl
      go_upto_region 5 with fail
      clear c0
      go_loopg [18] d.length (fun k i wr => ∃ m : Nat, m ≤ d.length ∧ k = d.length - m ∧ i = .int .i64 ((m : Nat) : Int) ∧ wA = wr ∧ Hid (∀ i, i < m → okAt d i = true))
      case atStart => exact ⟨0, Nat.zero_le _, rfl, rfl, rfl, fun i hi => by omega⟩
      case round =>
        obtain ⟨m, hm, rfl, rfl, rfl, hat⟩ := hrel
        by_cases hlt2 : m < d.length
        · obtain ⟨b', o', rfl, _, hr'⟩ := HSL.out.ptr (by omega)
          obtain ⟨y, hy⟩ : ∃ y, d[m]? = some y := ⟨_, List.getElem?_eq_getElem hlt2⟩
          have d0 := hr' m y hy
          have hyd : d.getD m 0 = y := by rw [List.getD_eq_getElem?_getD, hy]; rfl
          have HBad : Hid (okAt d m = false → (x.D.all okDom && x.cons.all (fun c => c.ok x.D.length)) = false) := fun h => by
            have h1 : okDom d = false := by
              rw [okDom, List.all_eq_false]
              exact ⟨m, List.mem_range.2 hlt2, by rw [h]; decide⟩
            have h2 : x.D.all okDom = false := by
              rw [List.all_eq_false]
              exact ⟨d, List.mem_of_getElem? HD.out, by rw [h1]; decide⟩
            rw [h2]; rfl
          have HNext : Hid (okAt d m = true → Hid (∀ i, i < m + 1 → okAt d i = true)) := fun h i hi => by
            by_cases hij : i = m
            · rw [hij]; exact h
            · exact hat.out i (by omega)
          by_cases h1 : y < -1000000
          case pos =>
            have hb := Lib.hid (HBad.out (by rw [okAt, hyd, decide_eq_false (by omega)]; rfl))
            clear hr' hy hyd
            go_wp2_with fail
            exact hR1.out _ hb.out HG.out
          by_cases h2 : 1000000 < y
          case pos =>
            have hb := Lib.hid (HBad.out (by rw [okAt, hyd, decide_eq_false (show ¬ y ≤ 1000000 by omega), Bool.and_false]; rfl))
            clear hr' hy hyd
            go_wp2_with fail
            exact hR1.out _ hb.out HG.out
          have hnr : (decide (-1000000 ≤ y) && decide (y ≤ 1000000)) = true := by rw [decide_eq_true (by omega), decide_eq_true (by omega)]; rfl
          cases m with
          | zero =>
            have hn := Lib.hid (HNext.out (by rw [okAt, hyd, hnr]; rfl))
            clear hr' hy hyd hnr
            rw [Nat.add_zero] at d0
            have n0 : 0 < d.length := hlt2
            go_wp2_with fail
            go_roundg (d.length - 1)
            case measure => omega
            case rel => exact ⟨1, by omega, rfl, by go_num, rfl, hn⟩
          | succ m =>
            obtain ⟨z, hz⟩ : ∃ z, d[m]? = some z := ⟨_, List.getElem?_eq_getElem (by omega)⟩
            have d1 := hr' m z hz
            have hzd : d.getD m 0 = z := by rw [List.getD_eq_getElem?_getD, hz]; rfl
            have hml : (m : Int) < (d.length : Int) := by omega
            by_cases h3 : y ≤ z
            · have hb := Lib.hid (HBad.out (by rw [okAt, hyd, Nat.add_sub_cancel, hzd, hnr, decide_eq_false (show ¬ m + 1 = 0 by omega), decide_eq_false (show ¬ z < y by omega)]; rfl))
              clear hr' hy hyd hnr hz hzd
              go_wp2_with fail
              exact hR1.out _ hb.out HG.out
            · have hn := Lib.hid (HNext.out (by rw [okAt, hyd, Nat.add_sub_cancel, hzd, hnr, decide_eq_true (show z < y by omega), Bool.or_true]; rfl))
              clear hr' hy hyd hnr hz hzd
              go_wp2_with fail
              go_roundg (d.length - (m + 1 + 1))
              case measure => omega
              case rel => exact ⟨m + 1 + 1, by omega, rfl, by go_num, rfl, hn⟩
        · obtain rfl : m = d.length := by omega
          have hn : Hid (∀ i e, i < j + 1 → x.D[i]? = some e → okDom e = true) := fun i e hi he => by
            by_cases hij : i = j
            · subst hij
              rw [HD.out] at he
              cases he
              exact List.all_eq_true.2 fun i hi => hat.out i (List.mem_range.1 hi)
            · exact hok.out i e (by omega) he
          go_wp2_with fail
          go_roundg (x.D.length - (j + 1))
          case measure => omega
          case rel => exact ⟨j + 1, by omega, rfl, by go_num, rfl, hn⟩
    · obtain rfl : j = x.D.length := by omega
      have HAllD : Hid (x.D.all okDom = true) := List.all_eq_true.2 fun d hd => by
        obtain ⟨i, hi⟩ := List.getElem?_of_mem hd
        exact hok.out i d (List.getElem?_eq_some_iff.1 hi).1 hi
      clear hok
      have b1 := HB1.out
      have HXC := Lib.hid (HX.out.cns.mono HG.out)
      generalize hcp : x.cp = cp at *
      go_upto_region 12 with fail
      clear b1
      go_loopg [47] x.C.length (fun k i wr => ∃ j : Nat, j ≤ x.C.length ∧ k = x.C.length - j ∧ i = .int .i64 ((j : Nat) : Int) ∧ Hid (Gr wA wr) ∧ Hid (∀ i y, i < j → x.C[i]? = some y → y.con.ok x.D.length = true))
      case atStart => exact ⟨0, Nat.zero_le _, rfl, rfl, Gr.rfl' _, fun i _ hi => by omega⟩
      case round =>
        obtain ⟨j, hj2, rfl, rfl, gr, hok⟩ := hrel
        by_cases hlt : j < x.C.length
        · obtain ⟨y, hy⟩ : ∃ y, x.C[j]? = some y := ⟨_, List.getElem?_eq_getElem hlt⟩
          have hyin : y ∈ x.C := List.mem_of_getElem? hy
          obtain ⟨cb, co, rfl, _, hcells⟩ := (HXC.out.mono gr.out).resolve_left (fun e0 => by rw [e0] at hyin; exact (List.not_mem_nil hyin))
          have x0 := hcells _ y hy 0 (.int .i64 y.k) rfl
          have x1 := hcells _ y hy 1 (.slice y.vp y.vs.length y.vc) rfl
          have x2 := hcells _ y hy 2 (.slice y.cp y.cs.length y.cc) rfl
          have x3 := hcells _ y hy 3 (.int .i64 y.op) rfl
          have x4 := hcells _ y hy 4 (.int .i64 y.c) rfl
          simp only [← Nat.add_assoc, Nat.add_zero] at x0 x1 x2 x3 x4
          have HY := Lib.hid hy
          have HYI := Lib.hid (HX.out.ins y hyin)
          obtain ⟨oky, hoky⟩ : ∃ oky, y.con.ok x.D.length = oky := ⟨_, rfl⟩
          have HOKY := Lib.hid hoky
          clear hcells hy hyin hoky
          go_upto_region 14 with fail
          have hBY := CnBlk.new wr y
          have gY : Gr wr (wr.alloc (.cells #[.int .i64 y.k, .slice y.vp y.vs.length y.vc, .slice y.cp y.cs.length y.cc, .int .i64 y.op, .int .i64 y.c] 42)) := by go_grown
          generalize hwY : wr.alloc (.cells #[.int .i64 y.k, .slice y.vp y.vs.length y.vc, .slice y.cp y.cs.length y.cc, .int .i64 y.op, .int .i64 y.c] 42) = wY at *
          clear hwY
          have HGY := Lib.hid (gr.out.trans gY)
          obtain ⟨y0, y1, y2, y3, y4⟩ := hBY.cells
          have b0 := HGY.out.at HB0.out
          have Hc := Lib.hid (formed_calls y x.D.length wY (HYI.out.mono (HG.out.trans HGY.out)) (by omega))
          rw [HOKY.out, show y.val = .agg #[.int .i64 y.k, .slice y.vp y.vs.length y.vc, .slice y.cp y.cs.length y.cc, .int .i64 y.op, .int .i64 y.c] from rfl] at Hc
          clear hBY gY x0 x1 x2 x3 x4
          cases oky with
          | true =>
            have hn : Hid (∀ i z, i < j + 1 → x.C[i]? = some z → z.con.ok x.D.length = true) := fun i z hi hz => by
              by_cases hij : i = j
              · subst hij
                rw [HY.out] at hz
                cases hz
                exact HOKY.out
              · exact hok.out i z (by omega) hz
            go_wp2_with (first
              | (go_at_call 27; refine Hc.out.mono ?_; rintro e1 w1 ⟨rfl, hb⟩; have HG1 := Lib.hid (HGY.out.trans (show Gr wY w1 from hb)); clear hb y0 y1 y2 y3 y4 b0)
              | fail)
            go_roundg (x.C.length - (j + 1))
            case measure => omega
            case rel => exact ⟨j + 1, by omega, rfl, by go_num, HG1, hn⟩
          | false =>
            have HBad : Hid ((x.D.all okDom && x.cons.all (fun c => c.ok x.D.length)) = false) := by
              show _ = _
              have : x.cons.all (fun c => c.ok x.D.length) = false := by
                rw [List.all_eq_false]
                exact ⟨y.con, List.mem_map.2 ⟨y, List.mem_of_getElem? HY.out, rfl⟩, by rw [HOKY.out]; decide⟩
              rw [this, Bool.and_false]
            go_wp2_with (first
              | (go_at_call 27; refine Hc.out.mono ?_; rintro e1 w1 ⟨rfl, hb⟩; have HG1 := Lib.hid (HGY.out.trans (show Gr wY w1 from hb)); clear hb y0 y1 y2 y3 y4 b0)
              | fail)
            exact hR1.out _ HBad.out (HG.out.trans HG1.out)
        · obtain rfl : j = x.C.length := by omega
          have HAll : Hid ((x.D.all okDom && x.cons.all (fun c => c.ok x.D.length)) = true) := by
            show _ = _
            rw [HAllD.out, Bool.true_and, List.all_eq_true]
            intro c hc
            obtain ⟨y, hy, rfl⟩ := List.mem_map.1 hc
            obtain ⟨i, hi⟩ := List.getElem?_of_mem hy
            exact hok.out i y (List.getElem?_eq_some_iff.1 hi).1 hi
          have b0 := gr.out.at HB0.out
          have b1 := gr.out.at HB1.out
          have hx := hR2
          have HL := Lib.hid (show largeP x.D x.cons = (decide (50 < x.D.length) || (decide (100 < x.C.length) || x.D.any fun d => decide (100 < d.length))) by rw [largeP, HCL.out])
          have Hct := Lib.hid (containsRows 29 #[] (fun n => decide (100 < n)) check1_pred dp x.dc x.D wr (HXR.out.mono gr.out) hlc hcc)
          obtain ⟨la, hla⟩ : ∃ la, (x.D.any fun d => decide (100 < d.length)) = la := ⟨_, rfl⟩
          rw [hla] at Hct HL
          clear hla hx hok
          by_cases h1 : 50 < x.D.length
          case pos =>
            have HF : Hid (largeP x.D x.cons = true) := HL.out.trans (by simp [h1])
            have e1 : (50 : Int) < (x.D.length : Int) := by omega
            go_wp2_with fail
            exact hR2.out _ HAll.out HF.out (HG.out.trans gr.out)
          by_cases h2 : 100 < x.C.length
          case pos =>
            have HF : Hid (largeP x.D x.cons = true) := HL.out.trans (by simp [h2])
            have e1 : ¬ (50 : Int) < (x.D.length : Int) := by omega
            have e2 : (100 : Int) < (x.C.length : Int) := by omega
            go_wp2_with fail
            exact hR2.out _ HAll.out HF.out (HG.out.trans gr.out)
          have HF := Lib.hid (HL.out.trans (by rw [decide_eq_false h1, decide_eq_false h2, Bool.false_or, Bool.false_or]))
          have e1 : ¬ (50 : Int) < (x.D.length : Int) := by omega
          have e2 : ¬ (100 : Int) < (x.C.length : Int) := by omega
          cases la with
          | true =>
            go_wp2_with (first
              | (go_at_call 28; refine Hct.out.mono ?_; rintro e1 w1 ⟨rfl, hb⟩; have HG1 := Lib.hid (gr.out.trans (show Gr wr w1 from hb)); clear hb)
              | fail)
            exact hR2.out _ HAll.out HF.out (HG.out.trans HG1.out)
          | false =>
            go_wp2_with (first
              | (go_at_call 28; refine Hct.out.mono ?_; rintro e1 w1 ⟨rfl, hb⟩; have HG1 := Lib.hid (gr.out.trans (show Gr wr w1 from hb)); clear hb)
              | fail)
            exact hR3.out _ HAll.out HF.out (HG.out.trans HG1.out)
end Go.Proofs.Ytbapmokbkjmdcaa

namespace Go.Proofs.Ytbapmokbkjmdcaa
open Go.ChangeShapes Go.WideShapes Go.ChangeAt Go.RowKit Go.Deep

theorem own_ : ownKnob Try.prog.godebug = none := by kernel_rfl
theorem laidOut_ : laidOutB Try.prog = true := by kernel_rfl
theorem cellsI : Try.prog.cellsOf 3 = 1 := by kernel_rfl
theorem cellsI64 : Try.prog.cellsOf 2 = 1 := by kernel_rfl
theorem bounds64 {n : Int} (h : (Lit.int .i64 n).wf = true) : -9223372036854775808 ≤ n ∧ n ≤ 9223372036854775807 := by
  have := bounds_i64 h
  omega
theorem reach_eq : reachBytes = 140737488351232 := by decide
theorem weightsAll_mem {H : Type} {P : Program} {e : TypeId} {d : DataW H} : ∀ {ds : List (DataW H)}, d ∈ ds → ∀ {n : Nat}, n ∈ d.weights P e → n ∈ DataW.weightsAll P e ds
  | x :: xs, h, n, hn => by
    rw [DataW.weightsAll, List.mem_append]
    rcases List.mem_cons.1 h with rfl | h
    · exact .inl hn
    · exact .inr (weightsAll_mem h hn)
theorem list_of_any {X : Type} {n : Nat} {p : Nat → X → Prop} (h : ∀ i, i < n → ∃ x, p i x) : ∃ l : List X, l.length = n ∧ ∀ i x, l[i]? = some x → p i x := by
  induction n with
  | zero => exact ⟨[], rfl, fun i x hx => by simp at hx⟩
  | succ n ih =>
    obtain ⟨l, hl, hp⟩ := ih fun i hi => h i (by omega)
    obtain ⟨y, hy⟩ := h n (by omega)
    refine ⟨l ++ [y], by simp [hl], fun i x hx => ?_⟩
    by_cases hi : i < l.length
    · rw [List.getElem?_append_left hi] at hx
      exact hp i x hx
    · rw [List.getElem?_append_right (by omega)] at hx
      have h0 : i = l.length := by
        have := (List.getElem?_eq_some_iff.1 hx).1
        simp at this
        omega
      subst h0
      simp only [Nat.sub_self, List.getElem?_cons_zero, Option.some.injEq] at hx
      subst hx
      rw [hl]
      exact hy
theorem list5 {α : Type} {l : List α} (h : l.length = 5) : ∃ a b c d e, l = [a, b, c, d, e] := by
  match l, h with
  | [a, b, c, d, e], _ => exact ⟨a, b, c, d, e, rfl⟩
theorem list2 {α : Type} {l : List α} (h : l.length = 2) : ∃ a b, l = [a, b] := by
  match l, h with
  | [a, b], _ => exact ⟨a, b, rfl⟩

/-- A row of structs. -/
def RowOf {X : Type} (cellsX : X → List Value) (sz : Nat) (w : World) (b o : Nat) (l : List X) : Prop :=
  ∀ (i : Nat) (x : X), l[i]? = some x → ∀ (j : Nat) (v : Value), (cellsX x)[j]? = some v → w.cell? ⟨b, o + i * sz + j, none⟩ = some v

/-- A slice of structs, of each of which something is known. -/
def SlOf {X : Type} (cellsX : X → List Value) (InX : X → Prop) (sz bytes : Nat) (w : World) (p : Option Addr) (c : Nat) (l : List X) : Prop :=
  l.length ≤ c ∧ (l.length * bytes ≤ 140737488351232 ∧ c ≤ 9223372036854775807) ∧ (l = [] ∨ ∃ b o, p = some ⟨b, o, none⟩ ∧ b < w.heap.size ∧ RowOf cellsX sz w b o l) ∧ ∀ y ∈ l, InX y
section
variable {X : Type} {cellsX : X → List Value} {InX : X → Prop} {sz bytes : Nat} {w w' : World} {p : Option Addr} {c : Nat} {l : List X}
theorem SlOf.nil : SlOf cellsX InX sz bytes w none 0 [] := ⟨Nat.le_refl _, ⟨by simp, by omega⟩, .inl rfl, fun y hy => by simp at hy⟩
end
section
variable {H : Type} {enc : TypeId × Value → H} {W : World}
/-- A slice whose elements can be opened. -/
theorem open_slice_el {X : Type} {E T : TypeId} {sz bytes : Nat} (cellsX : X → List Value) (InX : X → Prop) (ht : Try.prog.underlying T = some (.slice E)) (hc : Try.prog.cellsOf E = sz) (hb : Try.prog.bytesOf E = bytes)
    (hel : ∀ (fuel : Nat) (cs : List Value) (x : DataW H × List MemPlace), DataW.trod enc Try.prog W 0 (fun _ => true) true fuel E cs = some x → (∀ n ∈ x.1.weights Try.prog E, n ≤ reachBytes) → ∃ y : X, cs = cellsX y ∧ InX y)
    {fuel : Nat} {cs : List Value} {x : DataW H × List MemPlace} (h : DataW.trod enc Try.prog W 0 (fun _ => true) true fuel T cs = some x) (hw : ∀ n ∈ x.1.weights Try.prog T, n ≤ reachBytes) :
    cs = [.slice none 0 0] ∨ ∃ (a : Addr) (cap : Nat) (l : List X), cs = [.slice (some a) l.length cap] ∧ l.length ≤ cap ∧ cap ≤ 9223372036854775807 ∧ cap * bytes ≤ 140737488351232 ∧
      ∀ i y, l[i]? = some y → W.cells? 0 (a.add (i * sz)) sz = some (cellsX y) ∧ InX y := by
  rcases DataW.trod_slice ht h with ⟨hcs, _⟩ | ⟨a, len, cap, elems, rest, n', hm, hcs, hx, _, hlc, hcm, hle, hel', hre, _⟩
  · exact .inl hcs
  · right
    subst hx
    subst hm
    have hrl := (hre rfl).1
    simp only [DataW.weights, ht, List.length_map, List.mem_cons, List.mem_append, hb] at hw
    have hcap : cap * bytes ≤ 140737488351232 := by
      have h9 := hw ((elems.length + rest.length) * bytes) (.inl rfl)
      rw [reach_eq, hle, hrl] at h9
      have : len + (cap - len) = cap := by omega
      rwa [this] at h9
    have hall : ∀ i, i < len → ∃ y : X, W.cells? 0 (a.add (i * sz)) sz = some (cellsX y) ∧ InX y := by
      intro i hi
      have h9 := hel' i hi
      have hi' : i < elems.length := by omega
      rw [hc, List.getElem?_eq_getElem hi', Option.bind_eq_some_iff] at h9
      obtain ⟨cs', h10, h11⟩ := h9
      obtain ⟨y, hy, hin⟩ := hel n' cs' _ h11 fun q hq => hw q (.inr (.inl (weightsAll_mem (List.mem_map.2 ⟨_, List.getElem_mem hi', rfl⟩) hq)))
      exact ⟨y, by rw [h10, hy], hin⟩
    obtain ⟨l, hll, hlp⟩ := list_of_any hall
    simp only [maxLen] at hcm
    exact ⟨a, cap, l, by rw [hcs, hll], by omega, by omega, hcap, hlp⟩
/-- A slice that came in. -/
theorem open_sl {X : Type} {E T : TypeId} {sz bytes : Nat} (cellsX : X → List Value) (InX : X → Prop) (ht : Try.prog.underlying T = some (.slice E)) (hc : Try.prog.cellsOf E = sz) (hb : Try.prog.bytesOf E = bytes) (hpos : 0 < sz)
    (hel : ∀ (fuel : Nat) (cs : List Value) (x : DataW H × List MemPlace), DataW.trod enc Try.prog W 0 (fun _ => true) true fuel E cs = some x → (∀ n ∈ x.1.weights Try.prog E, n ≤ reachBytes) → ∃ y : X, cs = cellsX y ∧ InX y)
    {fuel : Nat} {cs : List Value} {x : DataW H × List MemPlace} (h : DataW.trod enc Try.prog W 0 (fun _ => true) true fuel T cs = some x) (hw : ∀ n ∈ x.1.weights Try.prog T, n ≤ reachBytes) :
    ∃ p c l, cs = [.slice p l.length c] ∧ SlOf cellsX InX sz bytes W p c l := by
  rcases open_slice_el cellsX InX ht hc hb hel h hw with hcs | ⟨a, cap, l, hcs, h1, h2, h3, h4⟩
  · exact ⟨none, 0, [], hcs, SlOf.nil⟩
  · have hll : l.length * bytes ≤ 140737488351232 := Nat.le_trans (Nat.mul_le_mul_right _ h1) h3
    refine ⟨some a, cap, l, hcs, h1, ⟨hll, h2⟩, ?_, fun y hy => ?_⟩
    · by_cases hl0 : l = []
      · exact .inl hl0
      · right
        have h0 : 0 < l.length := List.length_pos_iff.2 hl0
        obtain ⟨h10, _⟩ := h4 0 l[0] (List.getElem?_eq_getElem h0)
        obtain ⟨_, hn2, hn3⟩ := World.cells?_some h10
        obtain ⟨b, o, spot⟩ := a
        have hne : W.cell? ⟨b, o, spot⟩ = some ((cellsX l[0])[0]'(by omega)) := by
          have h9 := hn3 0 (by omega)
          rw [List.getElem?_eq_getElem (by omega)] at h9
          rw [← h9]
          simp [Addr.add]
        have hspot : spot = none := World.cell?_spot hne
        subst hspot
        refine ⟨b, o, rfl, World.block_lt_of_cell? _ _ hne, fun i x hx j v hv => ?_⟩
        obtain ⟨h10, _⟩ := h4 i x hx
        obtain ⟨_, hm2, hm3⟩ := World.cells?_some h10
        have hj : j < sz := by rw [← hm2]; exact (List.getElem?_eq_some_iff.1 hv).1
        have h9 := hm3 j hj
        rw [Go.WideShapes.add_plain, Go.WideShapes.add_plain, hv] at h9
        exact h9
    · obtain ⟨i, hi, rfl⟩ := List.getElem_of_mem hy
      exact (h4 i l[i] (List.getElem?_eq_getElem hi)).2

theorem bytesI : Try.prog.bytesOf 3 = 8 := by kernel_rfl
theorem bytesI64 : Try.prog.bytesOf 2 = 8 := by kernel_rfl
theorem cellsIS : Try.prog.cellsOf 40 = 1 := by kernel_rfl
theorem cellsI64S : Try.prog.cellsOf 38 = 1 := by kernel_rfl
theorem bytesI64S : Try.prog.bytesOf 38 = 24 := by kernel_rfl
theorem cellsRowsS : Try.prog.cellsOf 22 = 1 := by kernel_rfl
theorem cellsConS : Try.prog.cellsOf 23 = 1 := by kernel_rfl
theorem cellsCon : Try.prog.cellsOf 42 = 5 := by kernel_rfl
theorem bytesCon : Try.prog.bytesOf 42 = 72 := by kernel_rfl
theorem cellsProb : Try.prog.cellsOf 25 = 2 := by kernel_rfl
theorem open_i1 (fuel : Nat) (cs : List Value) (x : DataW H × List MemPlace) (h : DataW.trod enc Try.prog W 0 (fun _ => true) true fuel 3 cs = some x)
    (_ : ∀ n ∈ x.1.weights Try.prog 3, n ≤ reachBytes) : ∃ y : Int, cs = [.int .i64 y] ∧ In64 y := by
  obtain ⟨k, hk, _, wk⟩ := DataW.trod_int Try.underlying3 h
  exact ⟨k, hk, bounds64 wk⟩
theorem open_i64 (fuel : Nat) (cs : List Value) (x : DataW H × List MemPlace) (h : DataW.trod enc Try.prog W 0 (fun _ => true) true fuel 2 cs = some x)
    (_ : ∀ n ∈ x.1.weights Try.prog 2, n ≤ reachBytes) : ∃ y : Int, cs = [.int .i64 y] ∧ In64 y := by
  obtain ⟨k, hk, _, wk⟩ := DataW.trod_int Try.underlying2 h
  exact ⟨k, hk, bounds64 wk⟩
theorem sl_ints {bytes : Nat} {p : Option Addr} {c : Nat} {l : List Int} (h : SlOf (fun y : Int => [Value.int .i64 y]) In64 1 bytes W p c l) : IntSl W p c l := by
  obtain ⟨h1, ⟨_, h2⟩, h3, h4⟩ := h
  refine ⟨h1, h2, h4, h3.imp id ?_⟩
  rintro ⟨b, o, hp, hb, hr⟩
  exact ⟨b, o, hp, hb, fun i n hn => by have := hr i n hn 0 _ rfl; rwa [Nat.mul_one, Nat.add_zero] at this⟩
/-- A row of numbers with its address. -/
structure IRow where
  p : Option Addr
  c : Nat
  l : List Int
theorem open_irow (fuel : Nat) (cs : List Value) (x : DataW H × List MemPlace) (h : DataW.trod enc Try.prog W 0 (fun _ => true) true fuel 38 cs = some x)
    (hw : ∀ n ∈ x.1.weights Try.prog 38, n ≤ reachBytes) : ∃ y : IRow, cs = [.slice y.p y.l.length y.c] ∧ IntSl W y.p y.c y.l := by
  obtain ⟨p, c, l, h1, h2⟩ := open_sl (fun y : Int => [Value.int .i64 y]) In64 Try.underlying38 cellsI64 bytesI64 (by decide) open_i64 h hw
  exact ⟨⟨p, c, l⟩, h1, sl_ints h2⟩
theorem sl_rows {bytes : Nat} {p : Option Addr} {c : Nat} {l : List IRow} (h : SlOf (fun y : IRow => [Value.slice y.p y.l.length y.c]) (fun y => IntSl W y.p y.c y.l) 1 bytes W p c l) : RowsAt W p (l.map IRow.l) ∧ l.length ≤ c ∧ c ≤ 9223372036854775807 := by
  obtain ⟨h1, ⟨_, h2⟩, h3, h4⟩ := h
  refine ⟨?_, h1, h2⟩
  rcases h3 with h3 | ⟨b, o, hp, hb, hr⟩
  · exact .inl (by rw [h3]; rfl)
  · refine .inr ⟨b, o, hp, hb, fun i d hd => ?_⟩
    rw [List.getElem?_map] at hd
    cases hy : l[i]? with
    | none => rw [hy] at hd; cases hd
    | some y =>
      rw [hy] at hd; cases hd
      exact ⟨y.p, y.c, by have := hr i y hy 0 _ rfl; rwa [Nat.mul_one, Nat.add_zero] at this, h4 y (List.mem_of_getElem? hy)⟩

set_option maxRecDepth 100000 in
theorem open_con (fuel : Nat) (cs : List Value) (x : DataW H × List MemPlace) (h : DataW.trod enc Try.prog W 0 (fun _ => true) true fuel 42 cs = some x)
    (hw : ∀ n ∈ x.1.weights Try.prog 42, n ≤ reachBytes) : ∃ y : Cn, cs = y.arr.toList ∧ y.In W := by
  obtain ⟨xs, m, rfl, rfl, hl, hlen, hf⟩ := DataW.trod_struct Try.underlying42 h
  rw [cellsCon] at hl
  obtain ⟨y0, y1, y2, y3, y4, rfl⟩ := list5 hlen
  obtain ⟨v0, v1, v2, v3, v4, rfl⟩ := list5 hl
  have g0 := hf 0 _ rfl
  have g1 := hf 1 _ rfl
  have g2 := hf 2 _ rfl
  have g3 := hf 3 _ rfl
  have g4 := hf 4 _ rfl
  simp [cellsI, cellsI64, cellsIS, cellsI64S] at g0 g1 g2 g3 g4
  obtain ⟨k, hk, rfl, wk⟩ := DataW.trod_int Try.underlying3 g0
  obtain ⟨o, ho, rfl, wo⟩ := DataW.trod_int Try.underlying3 g3
  obtain ⟨c, hc, rfl, wc⟩ := DataW.trod_int Try.underlying2 g4
  simp only [List.cons.injEq, and_true] at hk ho hc
  subst hk ho hc
  simp only [List.map_cons, List.map_nil, DataW.weights, Try.underlying42, DataW.weightsEach, List.append_nil, List.nil_append, List.mem_append] at hw
  obtain ⟨p1, c1, l1, e1, s1⟩ := open_sl (fun y : Int => [Value.int .i64 y]) In64 Try.underlying40 cellsI bytesI (by decide) open_i1 g1 fun n hn => hw n (.inl hn)
  obtain ⟨p2, c2, l2, e2, s2⟩ := open_sl (fun y : Int => [Value.int .i64 y]) In64 Try.underlying38 cellsI64 bytesI64 (by decide) open_i64 g2 fun n hn => hw n (.inr hn)
  simp only [List.cons.injEq, and_true] at e1 e2
  subst e1 e2
  exact ⟨⟨k, p1, c1, l1, p2, c2, l2, o, c⟩, rfl, sl_ints s1, sl_ints s2, bounds64 wk, bounds64 wo, bounds64 wc⟩
theorem sl_cons {bytes : Nat} {p : Option Addr} {c : Nat} {l : List Cn} (h : SlOf (fun y : Cn => y.arr.toList) (fun y => y.In W) 5 bytes W p c l) : CnsAt W p l ∧ (l.length ≤ c ∧ c ≤ 9223372036854775807) ∧ ∀ y ∈ l, y.In W := by
  obtain ⟨h1, ⟨_, h2⟩, h3, h4⟩ := h
  refine ⟨h3.imp id ?_, ⟨h1, h2⟩, h4⟩
  rintro ⟨b, o, hp, hb, hr⟩
  refine ⟨b, o, hp, hb, fun i x hx j v hv => ?_⟩
  have := hr i x hx j v (by rw [Array.getElem?_toList]; exact hv)
  rwa [Nat.add_assoc] at this

set_option maxRecDepth 100000 in
/-- An argument of type api.Problem. -/
theorem open_problem_arg {r : Reach} {b0 : Nat} {v : Value} {d : DataW H} {p : List MemPlace} (hv : Value.okWide Try.prog W r b0 25 v)
    (h : DataW.Trod enc Try.prog W 0 (fun _ => true) true 25 v d p) (hw : ∀ n ∈ d.weights Try.prog 25, n ≤ reachBytes) : ∃ x : Pb, v = x.val ∧ x.In W := by
  obtain ⟨cs, rfl, hsz⟩ := okWide_struct Try.underlying25 hv
  obtain ⟨fuel, hf0⟩ := h
  obtain ⟨xs, m, rfl, hds, hl, hlen, hf⟩ := DataW.trod_struct Try.underlying25 hf0
  rw [cellsProb] at hl
  obtain ⟨y0, y1, rfl⟩ := list2 hlen
  change cs.toList.length = 2 at hl
  obtain ⟨v0, v1, hcs⟩ := list2 hl
  have g0 := hf 0 _ rfl
  have g1 := hf 1 _ rfl
  change _ = some _ at g0 g1
  simp only [Value.cells, hcs] at g0 g1
  simp [cellsRowsS, cellsConS] at g0 g1
  simp only [Prod.mk.injEq] at hds
  obtain ⟨rfl, rfl⟩ := hds
  simp only [List.map_cons, List.map_nil, DataW.weights, Try.underlying25, DataW.weightsEach, List.append_nil, List.mem_append] at hw
  obtain ⟨p0, c0, l0, e0, s0⟩ := open_sl (fun y : IRow => [Value.slice y.p y.l.length y.c]) (fun y => IntSl W y.p y.c y.l) Try.underlying22 cellsI64S bytesI64S (by decide) open_irow g0 fun n hn => hw n (.inl hn)
  obtain ⟨p1, c1, l1, e1, s1⟩ := open_sl (fun y : Cn => y.arr.toList) (fun y => y.In W) Try.underlying23 cellsCon bytesCon (by decide) open_con g1 fun n hn => hw n (.inr hn)
  simp only [List.cons.injEq, and_true] at e0 e1
  subst e0 e1
  obtain ⟨r1, r2, r3⟩ := sl_rows s0
  obtain ⟨k1, k2, k3⟩ := sl_cons s1
  refine ⟨⟨p0, c0, l0.map IRow.l, p1, c1, l1⟩, ?_, r1, ⟨by rw [List.length_map]; exact r2, r3⟩, k1, k2, k3⟩
  unfold Pb.val
  rw [List.length_map]
  congr 1
  rw [← Array.toArray_toList (xs := cs), hcs]
end
end Go.Proofs.Ytbapmokbkjmdcaa
