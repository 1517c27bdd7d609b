/-
  domain.formed: may a constraint be?
-/
import Derived.Test.YtbapmokbkjmdcaaDR13
namespace Go.Proofs.Ytbapmokbkjmdcaa
open Go.RowKit Go.Maps Go.Lib

set_option maxHeartbeats 1000000 in
set_option maxRecDepth 100000 in
theorem formed1_pred (w0 : World) (B : Nat) (n : Nat) (_ : (n : Int) ≤ 9223372036854775807) (hB : w0.cell? ⟨B, 0, none⟩ = some (.int .i64 n)) : IntPred 43 #[.pointer (some ⟨B, 0, none⟩)] (fun v => !(decide (0 ≤ v) && decide (v < n))) In64 w0 := by
  refine ⟨fun v W => by kernel_rfl, fun v W hv hW => ?_⟩
  show Calls Try.prog 43 #[.int .i64 v, .pointer (some ⟨B, 0, none⟩)] W _
  have hR : Hid (∀ b, (!(decide (0 ≤ v) && decide (v < (n : Int)))) = b → ∀ w', Gr W w' → Ret (.bool (!(decide (0 ≤ v) && decide (v < n)))) W (.returned (.bool b)) w') := fun b hb w' hg => ⟨by rw [hb], hg⟩
  generalize Ret (.bool (!(decide (0 ≤ v) && decide (v < n)))) W = Q at hR ⊢
  have c0 := hW.at hB
  clear hB hW
  by_cases h1 : v < 0
  · have HF : Hid ((!(decide (0 ≤ v) && decide (v < (n : Int)))) = true) := by show _ = _; rw [decide_eq_false (by omega)]; rfl
    go_enter Try.func43, Try.ntmps43
    try simp only [List.append_eq, List.cons_append, List.nil_append]
    go_wp2_with fail
    exact hR.out _ HF.out _ (Gr.rfl' _)
  · by_cases h2 : (n : Int) ≤ v
    · have HF : Hid ((!(decide (0 ≤ v) && decide (v < (n : Int)))) = true) := by show _ = _; rw [decide_eq_true (show 0 ≤ v by omega), decide_eq_false (by omega)]; rfl
      go_enter Try.func43, Try.ntmps43
      try simp only [List.append_eq, List.cons_append, List.nil_append]
      go_wp2_with fail
      exact hR.out _ HF.out _ (Gr.rfl' _)
    · have HF : Hid ((!(decide (0 ≤ v) && decide (v < (n : Int)))) = false) := by show _ = _; rw [decide_eq_true (show 0 ≤ v by omega), decide_eq_true (by omega)]; rfl
      go_enter Try.func43, Try.ntmps43
      try simp only [List.append_eq, List.cons_append, List.nil_append]
      go_wp2_with fail
      exact hR.out _ HF.out _ (Gr.rfl' _)

set_option maxHeartbeats 1000000 in
set_option maxRecDepth 100000 in
theorem formed21_pred (w0 : World) (B : Nat) (m : Int) (hm : 0 ≤ m ∧ m ≤ 1000000) (hB : w0.cell? ⟨B, 0, none⟩ = some (.int .i64 m)) : IntPred 46 #[.pointer (some ⟨B, 0, none⟩)] (fun n => !(decide (-m ≤ n) && decide (n ≤ m))) In64 w0 := by
  refine ⟨fun v W => by kernel_rfl, fun n W hv hW => ?_⟩
  show Calls Try.prog 46 #[.int .i64 n, .pointer (some ⟨B, 0, none⟩)] W _
  have hR : Hid (∀ b, (!(decide (-m ≤ n) && decide (n ≤ m))) = b → ∀ w', Gr W w' → Ret (.bool (!(decide (-m ≤ n) && decide (n ≤ m)))) W (.returned (.bool b)) w') := fun b hb w' hg => ⟨by rw [hb], hg⟩
  generalize Ret (.bool (!(decide (-m ≤ n) && decide (n ≤ m)))) W = Q at hR ⊢
  have c0 := hW.at hB
  have hw : IntKind.i64.wrap (-m) = -m := wrap_in (by omega)
  have hw2 : wrap64 (-m) = -m := (Go.IntWalk.i64_left (-m)).symm.trans hw
  clear hB hW
  by_cases h1 : n < -m
  · have HF : Hid ((!(decide (-m ≤ n) && decide (n ≤ m))) = true) := by show _ = _; rw [decide_eq_false (by omega)]; rfl
    go_enter Try.func46, Try.ntmps46
    try simp only [List.append_eq, List.cons_append, List.nil_append]
    go_wp2_with fail
    exact hR.out _ HF.out _ (Gr.rfl' _)
  · by_cases h2 : m < n
    · have HF : Hid ((!(decide (-m ≤ n) && decide (n ≤ m))) = true) := by show _ = _; rw [decide_eq_true (show -m ≤ n by omega), decide_eq_false (by omega)]; rfl
      go_enter Try.func46, Try.ntmps46
      try simp only [List.append_eq, List.cons_append, List.nil_append]
      go_wp2_with fail
      exact hR.out _ HF.out _ (Gr.rfl' _)
    · have HF : Hid ((!(decide (-m ≤ n) && decide (n ≤ m))) = false) := by show _ = _; rw [decide_eq_true (show -m ≤ n by omega), decide_eq_true (by omega)]; rfl
      go_enter Try.func46, Try.ntmps46
      try simp only [List.append_eq, List.cons_append, List.nil_append]
      go_wp2_with fail
      exact hR.out _ HF.out _ (Gr.rfl' _)

theorem within_any (m : Int) (l : List Int) : (!(l.any fun n => !(decide (-m ≤ n) && decide (n ≤ m)))) = within m l := by
  rw [within, List.all_eq_not_any_not]
theorem vars_any' (n : Nat) (l : List Int) : (!(l.any fun v => !(decide (0 ≤ v) && decide (v < (n : Int))))) = l.all fun v => decide (0 ≤ v) && decide (v < (n : Int)) := by
  rw [List.all_eq_not_any_not]

set_option maxHeartbeats 1000000 in
set_option maxRecDepth 100000 in
theorem within_calls (x : Cn) (B : Nat) (m : Int) (hm : 0 ≤ m ∧ m ≤ 1000000) (w : World) (hx : IntSl w x.cp x.cc x.cs) (hB : CnBlk w B x) : Calls Try.prog 44 #[.int .i64 m, .pointer (some ⟨B, 0, none⟩)] w (Ret (.bool (within m x.cs)) w) := by
  have hR : Hid (∀ b, (!(x.cs.any fun n => !(decide (-m ≤ n) && decide (n ≤ m)))) = !b → ∀ w', Gr w w' → Ret (.bool (within m x.cs)) w (.returned (.bool (!b))) w') := fun b hb w' hg => ⟨by rw [← hb, within_any], hg⟩
  generalize Ret (.bool (within m x.cs)) w = Q at hR ⊢
  have HX := Lib.hid hx
  obtain ⟨-, -, b2, -, -⟩ := hB.cells
  clear hx hB
  go_enter Try.func44, Try.ntmps44
  try simp only [List.append_eq, List.cons_append, List.nil_append]
  go_upto_region 1 with fail
  have hM := BlkT.new w 2 #[.int .i64 m]
  have gA : Gr w (w.alloc (.cells #[.int .i64 m] 2)) := by go_grown
  generalize hwA : w.alloc (.cells #[.int .i64 m] 2) = wA at *
  clear hwA
  replace b2 := gA.at b2
  have HG := Lib.hid gA
  have Hc := Lib.hid (containsFunc_i64 46 #[.pointer (some ⟨w.heap.size, 0, none⟩)] _ In64 wA (formed21_pred wA w.heap.size m hm (hM.cell 0 rfl)) x.cp x.cc x.cs wA (HX.out.mono gA) (Gr.rfl' _) HX.out.2.2.1)
  have hmf : ∀ (fn : Fn) (first cap : Array Value) (w : World), (Instr.makeFunc fn first cap).run Try.prog w = .ok (.func fn first cap) w := fun _ _ _ _ => rfl
  generalize (x.cs.any fun n => !(decide (-m ≤ n) && decide (n ≤ m))) = r at *
  clear hM gA
  go_wp2_with (first
    | (go_at_call 45; refine Hc.out.mono ?_; rintro e1 w1 ⟨rfl, hb⟩; have HB1 := Lib.hid (show Gr wA w1 from hb); clear hb)
    | fail)
  exact hR.out r rfl _ (HG.out.trans HB1.out)

set_option maxHeartbeats 8000000 in
set_option maxRecDepth 100000 in
theorem formed_calls (x : Cn) (n : Nat) (w : World) (hx : x.In w) (hn : (n : Int) ≤ 9223372036854775807) : Calls Try.prog 27 #[x.val, .int .i64 n] w (Ret (.bool (x.con.ok n)) w) := by
  have hR : Hid (∀ b, x.con.ok n = b → ∀ w', Gr w w' → Ret (.bool (x.con.ok n)) w (.returned (.bool b)) w') := fun b hb w' hg => ⟨by rw [hb], hg⟩
  have HOK := Lib.hid (show x.con.ok n = ((!(x.vs.any fun v => !(decide (0 ≤ v) && decide (v < (n : Int))))) && (if x.k = 1 then decide (1 ≤ x.vs.length) && decide (x.vs.length ≤ 4) && decide (x.cs.length = x.vs.length) && within 1000 x.cs && decide (1 ≤ x.op) && decide (x.op ≤ 3) && decide (-1000000000000 ≤ x.c) && decide (x.c ≤ 1000000000000)
    else decide (x.op = 0) && decide (x.c = 0) && (if x.k = 2 then decide (x.vs.length ≤ 8) && decide x.vs.Nodup && decide (x.cs.length = 0) else if x.k = 3 then decide (x.vs.length = 3) && decide (x.cs.length = 0) else if x.k = 4 then decide (x.vs.length = 2) && decide (x.cs.length ≤ 100) && within 1000000 x.cs else false))) by rw [vars_any']; rfl)
  generalize Ret (.bool (x.con.ok n)) w = Q at hR ⊢
  generalize x.con.ok n = r at *
  have HX := Lib.hid hx
  clear hx
  have hlc := HX.out.vars.1
  have hcc := HX.out.vars.2.1
  have hlc2 := HX.out.coefs.1
  have hcc2 := HX.out.coefs.2.1
  have HVal := Lib.hid (show x.val = .agg #[.int .i64 x.k, .slice x.vp x.vs.length x.vc, .slice x.cp x.cs.length x.cc, .int .i64 x.op, .int .i64 x.c] from rfl)
  rw [HVal.out]
  go_enter Try.func27, Try.ntmps27
  try simp only [List.append_eq, List.cons_append, List.nil_append]
  go_upto_region 1 with fail
  have hB := (CnBlk.new w x).gr (w' := (w.alloc (.cells #[.int .i64 x.k, .slice x.vp x.vs.length x.vc, .slice x.cp x.cs.length x.cc, .int .i64 x.op, .int .i64 x.c] 42)).alloc (.cells #[.int .i64 (n : Int)] 3)) (by go_grown)
  have hC : ((w.alloc (.cells #[.int .i64 x.k, .slice x.vp x.vs.length x.vc, .slice x.cp x.cs.length x.cc, .int .i64 x.op, .int .i64 x.c] 42)).alloc (.cells #[.int .i64 (n : Int)] 3)).cell? ⟨w.heap.size + 1, 0, none⟩ = some (.int .i64 n) := by
    have := BlkT.new (w.alloc (.cells #[.int .i64 x.k, .slice x.vp x.vs.length x.vc, .slice x.cp x.cs.length x.cc, .int .i64 x.op, .int .i64 x.c] 42)) 3 #[.int .i64 (n : Int)]
    rw [World.size_alloc] at this
    exact this.cell 0 rfl
  have gA : Gr w ((w.alloc (.cells #[.int .i64 x.k, .slice x.vp x.vs.length x.vc, .slice x.cp x.cs.length x.cc, .int .i64 x.op, .int .i64 x.c] 42)).alloc (.cells #[.int .i64 (n : Int)] 3)) := by go_grown
  generalize ((w.alloc (.cells #[.int .i64 x.k, .slice x.vp x.vs.length x.vc, .slice x.cp x.cs.length x.cc, .int .i64 x.op, .int .i64 x.c] 42)).alloc (.cells #[.int .i64 (n : Int)] 3)) = wA at *
  obtain ⟨b0, b1, b2, b3, b4⟩ := hB.cells
  have HB := Lib.hid hB
  have HG := Lib.hid gA
  have Hc := Lib.hid (containsFunc_int 43 #[.pointer (some ⟨w.heap.size + 1, 0, none⟩)] _ In64 wA (formed1_pred wA (w.heap.size + 1) n hn hC) x.vp x.vc x.vs wA (HX.out.vars.mono gA) (Gr.rfl' _) HX.out.vars.2.2.1)
  have hmf : ∀ (fn : Fn) (first cap : Array Value) (w : World), (Instr.makeFunc fn first cap).run Try.prog w = .ok (.func fn first cap) w := fun _ _ _ _ => rfl
  obtain ⟨av, hav⟩ : ∃ av, (x.vs.any fun v => !(decide (0 ≤ v) && decide (v < (n : Int)))) = av := ⟨_, rfl⟩
  rw [hav] at Hc HOK
  clear hB hC gA hav
  cases av with
  | true =>
    go_wp2_with (first
      | (go_at_call 42; refine Hc.out.mono ?_; rintro e1 w1 ⟨rfl, hb⟩; have HB1 := Lib.hid (show Gr wA w1 from hb); clear hb)
      | fail)
    exact hR.out false (HOK.out.trans (Bool.false_and _)) _ (HG.out.trans HB1.out)
  | false =>
    replace HOK := Lib.hid (HOK.out.trans (Bool.true_and _))
    go_upto_region 5 with (first
      | (go_at_call 42; refine Hc.out.mono ?_; rintro e1 w1 ⟨rfl, hb⟩; have hb : Gr wA w1 := hb; replace b0 := Gr.at hb b0; replace b1 := Gr.at hb b1; replace b2 := Gr.at hb b2; replace b3 := Gr.at hb b3; replace b4 := Gr.at hb b4; replace HB := Lib.hid (HB.out.gr hb); replace HG := Lib.hid (HG.out.trans hb); clear hb)
      | fail)
    clear Hc
    have Hw : Hid (∀ W, Gr w1 W → Calls Try.prog 44 #[.int .i64 1000, .pointer (some ⟨w.heap.size, 0, none⟩)] W (Ret (.bool (within 1000 x.cs)) W)) := fun W hW => within_calls x w.heap.size 1000 (by omega) W (HX.out.coefs.mono (HG.out.trans hW)) (HB.out.gr hW)
    have Hw2 : Hid (∀ W, Gr w1 W → Calls Try.prog 44 #[.int .i64 1000000, .pointer (some ⟨w.heap.size, 0, none⟩)] W (Ret (.bool (within 1000000 x.cs)) W)) := fun W hW => within_calls x w.heap.size 1000000 (by omega) W (HX.out.coefs.mono (HG.out.trans hW)) (HB.out.gr hW)
    have hq1 : ∀ W : World, (callFunc 44 #[.int .i64 1000, .pointer (some ⟨w.heap.size, 0, none⟩)]).run Try.prog W = .ok (.enter 44 #[.int .i64 1000, .pointer (some ⟨w.heap.size, 0, none⟩)]) W := fun W => by kernel_rfl
    have hq2 : ∀ W : World, (callFunc 44 #[.int .i64 1000000, .pointer (some ⟨w.heap.size, 0, none⟩)]).run Try.prog W = .ok (.enter 44 #[.int .i64 1000000, .pointer (some ⟨w.heap.size, 0, none⟩)]) W := fun W => by kernel_rfl
    by_cases hk1 : x.k = 1
    · have hkb : (x.k == 1) = true := beq_iff_eq.2 hk1
      have hkb2 : (x.k != 1) = false := by rw [bne, hkb]; rfl
      rw [if_pos hk1] at HOK
      clear hk1
      obtain ⟨wb, hwb⟩ : ∃ wb, within 1000 x.cs = wb := ⟨_, rfl⟩
      rw [hwb] at Hw HOK
      clear hwb
      go_upto_region 9 with fail
      by_cases c1 : 1 ≤ x.vs.length
      case neg =>
        have HF : Hid (r = false) := by show _ = _; rw [HOK.out]; simp [c1]
        have e1 : ¬ (1 : Int) ≤ (x.vs.length : Int) := by omega
        go_wp2_with (first
          | (refine (Hw.out _ (Gr.rfl' _)).mono ?_; rintro e2 w2 ⟨rfl, hb⟩; have hb : Gr w1 w2 := hb; replace b0 := Gr.at hb b0; replace b1 := Gr.at hb b1; replace b2 := Gr.at hb b2; replace b3 := Gr.at hb b3; replace b4 := Gr.at hb b4; replace HG := Lib.hid (HG.out.trans hb); clear hb)
          | fail)
        exact hR.out _ HF.out _ HG.out
      have e1 : (1 : Int) ≤ (x.vs.length : Int) := by omega
      by_cases c2 : x.vs.length ≤ 4
      case neg =>
        have HF : Hid (r = false) := by show _ = _; rw [HOK.out]; simp [c1, c2]
        have e2 : ¬ (x.vs.length : Int) ≤ 4 := by omega
        go_wp2_with (first
          | (refine (Hw.out _ (Gr.rfl' _)).mono ?_; rintro e2 w2 ⟨rfl, hb⟩; have hb : Gr w1 w2 := hb; replace b0 := Gr.at hb b0; replace b1 := Gr.at hb b1; replace b2 := Gr.at hb b2; replace b3 := Gr.at hb b3; replace b4 := Gr.at hb b4; replace HG := Lib.hid (HG.out.trans hb); clear hb)
          | fail)
        exact hR.out _ HF.out _ HG.out
      have e2 : (x.vs.length : Int) ≤ 4 := by omega
      by_cases c3 : x.cs.length = x.vs.length
      case neg =>
        have HF : Hid (r = false) := by show _ = _; rw [HOK.out]; simp [c1, c2, c3]
        have q3 : ((x.cs.length : Int) == (x.vs.length : Int)) = false := beq_eq_false_iff_ne.2 (by omega)
        go_wp2_with (first
          | (refine (Hw.out _ (Gr.rfl' _)).mono ?_; rintro e2 w2 ⟨rfl, hb⟩; have hb : Gr w1 w2 := hb; replace b0 := Gr.at hb b0; replace b1 := Gr.at hb b1; replace b2 := Gr.at hb b2; replace b3 := Gr.at hb b3; replace b4 := Gr.at hb b4; replace HG := Lib.hid (HG.out.trans hb); clear hb)
          | fail)
        exact hR.out _ HF.out _ HG.out
      have q3 : ((x.cs.length : Int) == (x.vs.length : Int)) = true := beq_iff_eq.2 (by omega)
      have HC3 := Lib.hid c3
      by_cases c4 : wb = true
      case neg =>
        have HF : Hid (r = false) := by show _ = _; rw [HOK.out]; simp [c1, c2, c3, c4]
        have c4 : wb = false := by simpa using c4
        subst c4
        go_wp2_with (first
          | (refine (Hw.out _ (Gr.rfl' _)).mono ?_; rintro e2 w2 ⟨rfl, hb⟩; have hb : Gr w1 w2 := hb; replace b0 := Gr.at hb b0; replace b1 := Gr.at hb b1; replace b2 := Gr.at hb b2; replace b3 := Gr.at hb b3; replace b4 := Gr.at hb b4; replace HG := Lib.hid (HG.out.trans hb); clear hb)
          | fail)
        exact hR.out _ HF.out _ HG.out
      subst c4
      have c4 : True := trivial
      by_cases c5 : 1 ≤ x.op
      case neg =>
        have HF : Hid (r = false) := by show _ = _; rw [HOK.out]; simp [c1, c2, c3, c5]
        go_wp2_with (first
          | (refine (Hw.out _ (Gr.rfl' _)).mono ?_; rintro e2 w2 ⟨rfl, hb⟩; have hb : Gr w1 w2 := hb; replace b0 := Gr.at hb b0; replace b1 := Gr.at hb b1; replace b2 := Gr.at hb b2; replace b3 := Gr.at hb b3; replace b4 := Gr.at hb b4; replace HG := Lib.hid (HG.out.trans hb); clear hb)
          | fail)
        exact hR.out _ HF.out _ HG.out
      by_cases c6 : x.op ≤ 3
      case neg =>
        have HF : Hid (r = false) := by show _ = _; rw [HOK.out]; simp [c1, c2, c3, c5, c6]
        go_wp2_with (first
          | (refine (Hw.out _ (Gr.rfl' _)).mono ?_; rintro e2 w2 ⟨rfl, hb⟩; have hb : Gr w1 w2 := hb; replace b0 := Gr.at hb b0; replace b1 := Gr.at hb b1; replace b2 := Gr.at hb b2; replace b3 := Gr.at hb b3; replace b4 := Gr.at hb b4; replace HG := Lib.hid (HG.out.trans hb); clear hb)
          | fail)
        exact hR.out _ HF.out _ HG.out
      by_cases c7 : -1000000000000 ≤ x.c
      case neg =>
        have HF : Hid (r = false) := by show _ = _; rw [HOK.out]; simp [c1, c2, c3, c5, c6, c7]
        go_wp2_with (first
          | (refine (Hw.out _ (Gr.rfl' _)).mono ?_; rintro e2 w2 ⟨rfl, hb⟩; have hb : Gr w1 w2 := hb; replace b0 := Gr.at hb b0; replace b1 := Gr.at hb b1; replace b2 := Gr.at hb b2; replace b3 := Gr.at hb b3; replace b4 := Gr.at hb b4; replace HG := Lib.hid (HG.out.trans hb); clear hb)
          | fail)
        exact hR.out _ HF.out _ HG.out
      by_cases c8 : x.c ≤ 1000000000000
      case neg =>
        have HF : Hid (r = false) := by show _ = _; rw [HOK.out]; simp [c1, c2, c3, c5, c6, c7, c8]
        have e8 : decide (x.c ≤ 1000000000000) = false := decide_eq_false c8
        go_wp2_with (first
          | (refine (Hw.out _ (Gr.rfl' _)).mono ?_; rintro e2 w2 ⟨rfl, hb⟩; have hb : Gr w1 w2 := hb; replace b0 := Gr.at hb b0; replace b1 := Gr.at hb b1; replace b2 := Gr.at hb b2; replace b3 := Gr.at hb b3; replace b4 := Gr.at hb b4; replace HG := Lib.hid (HG.out.trans hb); clear hb)
          | fail)
        exact hR.out _ HF.out _ HG.out
      have e8 : decide (x.c ≤ 1000000000000) = true := decide_eq_true c8
      have HF : Hid (r = true) := by show _ = _; rw [HOK.out]; simp [c1, c2, c3, c5, c6, c7, c8]
      go_wp2_with (first
        | (refine (Hw.out _ (Gr.rfl' _)).mono ?_; rintro e2 w2 ⟨rfl, hb⟩; have hb : Gr w1 w2 := hb; replace b0 := Gr.at hb b0; replace b1 := Gr.at hb b1; replace b2 := Gr.at hb b2; replace b3 := Gr.at hb b3; replace b4 := Gr.at hb b4; replace HG := Lib.hid (HG.out.trans hb); clear hb)
        | fail)
      exact hR.out _ HF.out _ HG.out
    · have hkb : (x.k == 1) = false := beq_eq_false_iff_ne.2 hk1
      have hkb2 : (x.k != 1) = true := by rw [bne, hkb]; rfl
      rw [if_neg hk1] at HOK
      clear hk1
      by_cases ho : x.op = 0
      case neg =>
        have HF : Hid (r = false) := by show _ = _; rw [HOK.out]; simp [ho]
        have q1 : (x.op == 0) = false := beq_eq_false_iff_ne.2 ho
        have q2 : (x.op != 0) = true := by rw [bne, q1]; rfl
        go_wp2_with fail
        exact hR.out _ HF.out _ HG.out
      have q1 : (x.op == 0) = true := beq_iff_eq.2 ho
      have q2 : (x.op != 0) = false := by rw [bne, q1]; rfl
      by_cases hcz : x.c = 0
      case neg =>
        have HF : Hid (r = false) := by show _ = _; rw [HOK.out]; simp [hcz]
        have q3 : (x.c == 0) = false := beq_eq_false_iff_ne.2 hcz
        have q4 : (x.c != 0) = true := by rw [bne, q3]; rfl
        clear ho
        go_wp2_with fail
        exact hR.out _ HF.out _ HG.out
      have q3 : (x.c == 0) = true := beq_iff_eq.2 hcz
      have q4 : (x.c != 0) = false := by rw [bne, q3]; rfl
      rw [ho, hcz] at HOK
      replace HOK := Lib.hid (HOK.out.trans (Bool.true_and _))
      clear ho hcz
      go_upto_region 7 with fail
      clear q1 q2 q3 q4 hkb2
      by_cases hk2 : x.k = 2
      · have hkb2 : (x.k == 2) = true := beq_iff_eq.2 hk2
        rw [if_pos hk2] at HOK
        clear hk2
        have hmm := @run_makeMap Try.prog
        have HB1 := Lib.hid b1
        have HB2 := Lib.hid b2
        have HV := Lib.hid HX.out.vars
        go_upto_region 12 with fail
        have hS0 := Lib.hid (Seen.made 3 w1)
        have gM : Gr w1 (w1.alloc (.map #[] 0)) := by go_grown
        have HM0 := Lib.hid gM
        generalize hwM : (w1.alloc (.map #[] 0)) = wM at *
        clear hwM b0 b1 b2 b3 b4 hmm
        have b1 := Gr.at gM HB1.out
        clear gM
        have HL8 := Lib.hid hlc2
        have HL9 := Lib.hid hcc2
        clear hlc2 hcc2
        generalize hvs : x.vs = vs at *
        generalize x.vp = vp at *
        generalize x.vc = vc at *
        have HVS := Lib.hid hvs
        clear hvs
        go_wp2_with fail
        clear b1
        go_loopg [78] vs.length (fun k i wr => ∃ j : Nat, j ≤ vs.length ∧ k = vs.length - j ∧ i = .int .i64 ((j : Nat) : Int) ∧ Hid (Gr w1 wr) ∧ ∃ L, Hid (Seen 3 wr w1.heap.size L) ∧ Hid (∀ z, z ∈ L ↔ z ∈ vs.take j))
        case atStart => exact ⟨0, Nat.zero_le _, rfl, rfl, HM0, [], hS0, fun z => by simp⟩
        case round =>
          obtain ⟨j, hj, rfl, rfl, gr, L, hs, hL⟩ := hrel
          by_cases hlt : j < vs.length
          · obtain ⟨y, hy⟩ : ∃ y, vs[j]? = some y := ⟨_, List.getElem?_eq_getElem hlt⟩
            obtain ⟨b, o, rfl, _, hr⟩ := (HV.out.mono (HG.out.trans gr.out)).ptr (by omega)
            have c0 := hr j _ hy
            have hm := List.mem_of_getElem? hy
            have hain : In64 y := HV.out.2.2.1 y hm
            obtain ⟨z, hz⟩ := hs.out.run (t := 73) Try.underlying3 Try.underlying73 hain
            obtain ⟨w3, hup, hs1, hgb⟩ := hs.out.put (t := 73) Try.underlying3 Try.underlying73 hain (wrap64 (z + 1))
            have HS1 := Lib.hid hs1
            have HG1 := Lib.hid (show Gr w1 w3 from Below.trans gr.out (grownBy_below hgb gr.out.size fun k hk => by cases hk; exact Nat.le_refl _))
            have HL1 : Hid (∀ z, z ∈ y :: L ↔ z ∈ vs.take (j + 1)) := fun z => by
              rw [List.take_add_one, hy, List.mem_append, List.mem_cons, hL.out z]
              show _ ↔ _ ∨ z ∈ [y]
              rw [List.mem_singleton]
              exact ⟨fun h => h.symm, fun h => h.symm⟩
            clear hr hy hm hs1 hgb
            go_wp2_with fail
            go_roundg (vs.length - (j + 1))
            case measure => omega
            case rel => exact ⟨j + 1, by omega, rfl, by go_num, HG1, y :: L, HS1, HL1⟩
          · obtain rfl : j = vs.length := by omega
            have b2 := Gr.at gr.out HB2.out
            have hlen := hs.out.len_run (t := 73) (by kernel_rfl)
            have hone : (once L).length = (once vs).length := same_len (once_nodup _) (once_nodup _) fun z => by
              rw [mem_once, mem_once, hL.out z, List.take_of_length_le (Nat.le_refl _)]
            have hel : (once vs).length ≤ vs.length := once_le vs
            have hnd : decide vs.Nodup = decide ((once L).length = vs.length) := by
              rw [decide_eq_decide, hone]
              exact once_len.symm
            rw [hnd] at HOK
            generalize (once L).length = en at hlen hone HOK
            replace HG := Lib.hid (HG.out.trans gr.out)
            clear hone hel hL hs gr hnd hS0 HM0
            go_upto_region 17 with fail
            by_cases c1 : vs.length ≤ 8
            case neg =>
              have HF : Hid (r = false) := by show _ = _; rw [HOK.out]; simp [c1]
              have e1 : ¬ (vs.length : Int) ≤ 8 := by omega
              go_wp2_with (first
                | fail
                | fail)
              exact hR.out _ HF.out _ HG.out
            have e1 : (vs.length : Int) ≤ 8 := by omega
            by_cases c2 : en = vs.length
            case neg =>
              have HF : Hid (r = false) := by show _ = _; rw [HOK.out]; simp [c1, c2]
              have q2 : ((en : Int) == (vs.length : Int)) = false := beq_eq_false_iff_ne.2 (by omega)
              go_wp2_with (first
                | fail
                | fail)
              exact hR.out _ HF.out _ HG.out
            have q2 : ((en : Int) == (vs.length : Int)) = true := beq_iff_eq.2 (by omega)
            have HC2 := Lib.hid c2
            by_cases c3 : x.cs.length = 0
            case neg =>
              have HF : Hid (r = false) := by show _ = _; rw [HOK.out]; simp [c1, c2, c3]
              have q3 : ((x.cs.length : Int) == 0) = false := beq_eq_false_iff_ne.2 (by omega)
              go_wp2_with (first
                | fail
                | fail)
              exact hR.out _ HF.out _ HG.out
            have q3 : ((x.cs.length : Int) == 0) = true := beq_iff_eq.2 (by omega)
            have HF : Hid (r = true) := by show _ = _; rw [HOK.out]; simp [c1, c2, c3]
            go_wp2_with (first
              | fail
              | fail)
            exact hR.out _ HF.out _ HG.out
      · have hkb2 : (x.k == 2) = false := beq_eq_false_iff_ne.2 hk2
        rw [if_neg hk2] at HOK
        clear hk2
        by_cases hk3 : x.k = 3
        · have hkb3 : (x.k == 3) = true := beq_iff_eq.2 hk3
          rw [if_pos hk3] at HOK
          clear hk3
          go_upto_region 19 with fail
          by_cases c1 : x.vs.length = 3
          case neg =>
            have HF : Hid (r = false) := by show _ = _; rw [HOK.out]; simp [c1]
            have q1 : ((x.vs.length : Int) == 3) = false := beq_eq_false_iff_ne.2 (by omega)
            go_wp2_with (first
              | fail
              | fail)
            exact hR.out _ HF.out _ HG.out
          have HC1 := Lib.hid c1
          have q1 : ((x.vs.length : Int) == 3) = true := beq_iff_eq.2 (by omega)
          by_cases c2 : x.cs.length = 0
          case neg =>
            have HF : Hid (r = false) := by show _ = _; rw [HOK.out]; simp [c1, c2]
            have q2 : ((x.cs.length : Int) == 0) = false := beq_eq_false_iff_ne.2 (by omega)
            go_wp2_with (first
              | fail
              | fail)
            exact hR.out _ HF.out _ HG.out
          have q2 : ((x.cs.length : Int) == 0) = true := beq_iff_eq.2 (by omega)
          have HF : Hid (r = true) := by show _ = _; rw [HOK.out]; simp [c1, c2]
          go_wp2_with (first
            | fail
            | fail)
          exact hR.out _ HF.out _ HG.out
        · have hkb3 : (x.k == 3) = false := beq_eq_false_iff_ne.2 hk3
          rw [if_neg hk3] at HOK
          clear hk3
          by_cases hk4 : x.k = 4
          · have hkb4 : (x.k == 4) = true := beq_iff_eq.2 hk4
            rw [if_pos hk4] at HOK
            clear hk4
            obtain ⟨wb, hwb⟩ : ∃ wb, within 1000000 x.cs = wb := ⟨_, rfl⟩
            rw [hwb] at Hw2 HOK
            clear hwb
            go_upto_region 21 with fail
            by_cases c1 : x.vs.length = 2
            case neg =>
              have HF : Hid (r = false) := by show _ = _; rw [HOK.out]; simp [c1]
              have q1 : ((x.vs.length : Int) == 2) = false := beq_eq_false_iff_ne.2 (by omega)
              go_wp2_with (first
                | (refine (Hw2.out _ (Gr.rfl' _)).mono ?_; rintro e2 w2 ⟨rfl, hb⟩; have hb : Gr w1 w2 := hb; replace b0 := Gr.at hb b0; replace b1 := Gr.at hb b1; replace b2 := Gr.at hb b2; replace b3 := Gr.at hb b3; replace b4 := Gr.at hb b4; replace HG := Lib.hid (HG.out.trans hb); clear hb)
                | fail)
              exact hR.out _ HF.out _ HG.out
            have HC1 := Lib.hid c1
            have q1 : ((x.vs.length : Int) == 2) = true := beq_iff_eq.2 (by omega)
            by_cases c2 : x.cs.length ≤ 100
            case neg =>
              have HF : Hid (r = false) := by show _ = _; rw [HOK.out]; simp [c1, c2]
              have e2 : ¬ (x.cs.length : Int) ≤ 100 := by omega
              go_wp2_with (first
                | (refine (Hw2.out _ (Gr.rfl' _)).mono ?_; rintro e2 w2 ⟨rfl, hb⟩; have hb : Gr w1 w2 := hb; replace b0 := Gr.at hb b0; replace b1 := Gr.at hb b1; replace b2 := Gr.at hb b2; replace b3 := Gr.at hb b3; replace b4 := Gr.at hb b4; replace HG := Lib.hid (HG.out.trans hb); clear hb)
                | fail)
              exact hR.out _ HF.out _ HG.out
            have e2 : (x.cs.length : Int) ≤ 100 := by omega
            by_cases c3 : wb = true
            case neg =>
              have HF : Hid (r = false) := by show _ = _; rw [HOK.out]; simp [c1, c2, c3]
              have c3 : wb = false := by simpa using c3
              subst c3
              go_wp2_with (first
                | (refine (Hw2.out _ (Gr.rfl' _)).mono ?_; rintro e2 w2 ⟨rfl, hb⟩; have hb : Gr w1 w2 := hb; replace b0 := Gr.at hb b0; replace b1 := Gr.at hb b1; replace b2 := Gr.at hb b2; replace b3 := Gr.at hb b3; replace b4 := Gr.at hb b4; replace HG := Lib.hid (HG.out.trans hb); clear hb)
                | fail)
              exact hR.out _ HF.out _ HG.out
            subst c3
            have c3 : True := trivial
            have HF : Hid (r = true) := by show _ = _; rw [HOK.out]; simp [c1, c2]
            go_wp2_with (first
              | (refine (Hw2.out _ (Gr.rfl' _)).mono ?_; rintro e2 w2 ⟨rfl, hb⟩; have hb : Gr w1 w2 := hb; replace b0 := Gr.at hb b0; replace b1 := Gr.at hb b1; replace b2 := Gr.at hb b2; replace b3 := Gr.at hb b3; replace b4 := Gr.at hb b4; replace HG := Lib.hid (HG.out.trans hb); clear hb)
              | fail)
            exact hR.out _ HF.out _ HG.out
          · have hkb4 : (x.k == 4) = false := beq_eq_false_iff_ne.2 hk4
            rw [if_neg hk4] at HOK
            clear hk4
            go_wp2_with fail
            exact hR.out _ HOK.out _ HG.out
end Go.Proofs.Ytbapmokbkjmdcaa
