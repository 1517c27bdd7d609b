/-
  hornref.Constraint1: may a constraint be?
-/
import Derived.Test.YtbapmokbkjmdcaaDR18
namespace Go.Proofs.Ytbapmokbkjmdcaa
open Go.RowKit Go.Maps Go.Lib

theorem con_bad_var {c : Con} {n : Nat} {v : Int} (hv : v ∈ c.vars) (h : v < 0 ∨ (n : Int) ≤ v) : c.ok n = false := by
  cases hk : c.ok n with
  | false => rfl
  | true => have := Con.ok_var hk hv; omega
theorem within_mem {m : Int} {l : List Int} (h : within m l = true) {k : Int} (hk : k ∈ l) : -m ≤ k ∧ k ≤ m := by
  have := List.all_eq_true.1 h k hk
  simpa using this
theorem con_bad_coef {c : Con} {n : Nat} {m k : Int} (hk : k ∈ c.coefs) (hm : c.kind = 4 ∧ m = 1000000 ∨ c.kind ≠ 4 ∧ m = 1000) (h : m < k ∨ k < -m) : c.ok n = false := by
  cases hok : c.ok n with
  | false => rfl
  | true =>
    have hne : c.coefs.length ≠ 0 := fun e => by rw [List.eq_nil_of_length_eq_zero e] at hk; exact List.not_mem_nil hk
    exfalso
    unfold Con.ok at hok
    rw [Bool.and_eq_true] at hok
    replace hok := hok.2
    by_cases h1 : c.kind = 1
    · rw [if_pos h1] at hok
      simp only [Bool.and_eq_true] at hok
      have := within_mem hok.1.1.1.1.2 hk
      omega
    · rw [if_neg h1] at hok
      by_cases h2 : c.kind = 2
      · rw [if_pos h2] at hok
        simp only [Bool.and_eq_true, decide_eq_true_eq] at hok
        exact hne hok.2.2
      · rw [if_neg h2] at hok
        by_cases h3 : c.kind = 3
        · rw [if_pos h3] at hok
          simp only [Bool.and_eq_true, decide_eq_true_eq] at hok
          exact hne hok.2.2
        · rw [if_neg h3] at hok
          by_cases h4 : c.kind = 4
          · rw [if_pos h4] at hok
            simp only [Bool.and_eq_true] at hok
            have := within_mem hok.2.2 hk
            omega
          · rw [if_neg h4] at hok; simp at hok
/-- Not of the second kind, or two the same: not formed (where it is none of the others). -/
theorem con_bad_dup {c : Con} {n : Nat} {i j : Nat} (h1 : c.kind ≠ 1) (h3 : c.kind ≠ 3) (h4 : c.kind ≠ 4) (hj : j < i) (hi : i < c.vars.length) (he : c.vars.getD i 0 = c.vars.getD j 0) : c.ok n = false := by
  cases hok : c.ok n with
  | false => rfl
  | true =>
    exfalso
    unfold Con.ok at hok
    rw [Bool.and_eq_true, if_neg h1, if_neg h3, if_neg h4] at hok
    replace hok := hok.2
    by_cases h2 : c.kind = 2
    · rw [if_pos h2] at hok
      simp only [Bool.and_eq_true, decide_eq_true_eq] at hok
      have hnd := hok.2.1.2
      rw [getD_lt 0 hi, getD_lt 0 (by omega)] at he
      have := (List.getElem_inj hnd).1 he
      omega
    · rw [if_neg h2] at hok; simp at hok
theorem nodup_of_getD {l : List Int} (h : ∀ i j : Nat, j < i → i < l.length → l.getD i 0 ≠ l.getD j 0) : l.Nodup := by
  rw [List.Nodup, List.pairwise_iff_getElem]
  intro i j hi hj hij he
  refine h j i hij hj ?_
  rw [getD_lt 0 hi, getD_lt 0 hj]
  exact he.symm

set_option maxHeartbeats 8000000 in
set_option maxRecDepth 100000 in
theorem con1_calls (x : Cn) (n : Nat) (w : World) (hx : x.In w) (_ : (n : Int) ≤ 9223372036854775807) : Calls Try.prog 33 #[x.val, .int .i64 n] w (Ret (.bool (x.con.ok n)) w) := by
  have hR : Hid (∀ b, x.con.ok n = b → ∀ w', Gr w w' → Ret (.bool (x.con.ok n)) w (.returned (.bool b)) w') := fun b hb w' hg => ⟨by rw [hb], hg⟩
  have HBV : Hid (∀ v, v ∈ x.vs → (v < 0 ∨ (n : Int) ≤ v) → x.con.ok n = false) := fun v h1 h2 => con_bad_var (c := x.con) h1 h2
  have HBC : Hid (∀ m k, k ∈ x.cs → (x.k = 4 ∧ m = 1000000 ∨ x.k ≠ 4 ∧ m = 1000) → (m < k ∨ k < -m) → x.con.ok n = false) := fun m k h1 h2 h3 => con_bad_coef (c := x.con) h1 h2 h3
  have HBD : Hid (∀ i j : Nat, x.k ≠ 1 → x.k ≠ 3 → x.k ≠ 4 → j < i → i < x.vs.length → x.vs.getD i 0 = x.vs.getD j 0 → x.con.ok n = false) := fun i j h1 h3 h4 h5 h6 h7 => con_bad_dup (c := x.con) h1 h3 h4 h5 h6 h7
  have HOK := Lib.hid (show x.con.ok n = ((x.vs.all fun v => decide (0 ≤ v) && decide (v < (n : Int))) && (if x.k = 1 then decide (1 ≤ x.vs.length) && decide (x.vs.length ≤ 4) && decide (x.cs.length = x.vs.length) && within 1000 x.cs && decide (1 ≤ x.op) && decide (x.op ≤ 3) && decide (-1000000000000 ≤ x.c) && decide (x.c ≤ 1000000000000)
    else decide (x.op = 0) && decide (x.c = 0) && (if x.k = 2 then decide (x.vs.length ≤ 8) && decide x.vs.Nodup && decide (x.cs.length = 0) else if x.k = 3 then decide (x.vs.length = 3) && decide (x.cs.length = 0) else if x.k = 4 then decide (x.vs.length = 2) && decide (x.cs.length ≤ 100) && within 1000000 x.cs else false))) from rfl)
  generalize Ret (.bool (x.con.ok n)) w = Q at hR ⊢
  generalize x.con.ok n = r at *
  have HX := Lib.hid hx
  clear hx
  have hlc := HX.out.vars.1
  have hcc := HX.out.vars.2.1
  have hlc2 := HX.out.coefs.1
  have hcc2 := HX.out.coefs.2.1
  have HVal := Lib.hid (show x.val = .agg #[.int .i64 x.k, .slice x.vp x.vs.length x.vc, .slice x.cp x.cs.length x.cc, .int .i64 x.op, .int .i64 x.c] from rfl)
  rw [HVal.out]
  go_enter Try.func33, Try.ntmps33
  try simp only [List.append_eq, List.cons_append, List.nil_append]
  go_upto_region 1 with fail
  have hB := CnBlk.new w x
  have gA : Gr w (w.alloc (.cells #[.int .i64 x.k, .slice x.vp x.vs.length x.vc, .slice x.cp x.cs.length x.cc, .int .i64 x.op, .int .i64 x.c] 42)) := by go_grown
  generalize hwA : w.alloc (.cells #[.int .i64 x.k, .slice x.vp x.vs.length x.vc, .slice x.cp x.cs.length x.cc, .int .i64 x.op, .int .i64 x.c] 42) = wA at *
  clear hwA
  obtain ⟨b0, b1, b2, b3, b4⟩ := hB.cells
  have HG := Lib.hid gA
  have HV := Lib.hid (HX.out.vars.mono gA)
  have HK := Lib.hid (HX.out.coefs.mono gA)
  clear hB gA
  generalize hvs : x.vs = vs at *
  generalize x.vp = vp at *
  generalize hcs : x.cs = cs at *
  generalize x.cp = cp at *
  clear hvs hcs HVal HX
  go_wp2_with fail
  go_loopg [6] vs.length (fun k i wr => ∃ j : Nat, j ≤ vs.length ∧ k = vs.length - j ∧ i = .int .i64 ((j : Nat) : Int) ∧ wA = wr ∧ Hid (∀ v ∈ vs.take j, 0 ≤ v ∧ v < (n : Int)))
  case atStart => exact ⟨0, Nat.zero_le _, rfl, rfl, rfl, fun v hv => by rw [List.take_zero] at hv; exact (List.not_mem_nil hv).elim⟩
  case round =>
    obtain ⟨j, hj, rfl, rfl, rfl, hgood⟩ := hrel
    by_cases hlt : j < vs.length
    · obtain ⟨y, hy⟩ : ∃ y, vs[j]? = some y := ⟨_, List.getElem?_eq_getElem hlt⟩
      obtain ⟨bb, bo, rfl, _, hr⟩ := HV.out.ptr (by omega)
      have c0 := hr j _ hy
      have HY := Lib.hid (List.mem_of_getElem? hy)
      have HN : Hid (0 ≤ y → y < (n : Int) → ∀ v ∈ vs.take (j + 1), 0 ≤ v ∧ v < (n : Int)) := fun h0 h1 v hv => by
        rw [List.take_add_one, hy, List.mem_append] at hv
        rcases hv with hv | hv
        · exact hgood.out v hv
        · obtain rfl : v = y := List.mem_singleton.1 hv
          exact ⟨h0, h1⟩
      clear hr hy
      by_cases h1 : y < 0
      case pos =>
        have HF := Lib.hid (HBV.out y HY.out (.inl h1))
        go_wp2_with fail
        exact hR.out _ HF.out _ HG.out
      by_cases h2 : (n : Int) ≤ y
      case pos =>
        have HF := Lib.hid (HBV.out y HY.out (.inr h2))
        go_wp2_with fail
        exact hR.out _ HF.out _ HG.out
      have HN2 := Lib.hid (HN.out (by omega) (by omega))
      go_wp2_with fail
      go_roundg (vs.length - (j + 1))
      case measure => omega
      case rel => exact ⟨j + 1, by omega, rfl, by go_num, rfl, HN2⟩
    · obtain rfl : j = vs.length := by omega
      have HVA := Lib.hid (show (vs.all fun v => decide (0 ≤ v) && decide (v < (n : Int))) = true by
        rw [List.all_eq_true]
        intro v hv
        have := hgood.out v (by rw [List.take_length]; exact hv)
        rw [decide_eq_true this.1, decide_eq_true this.2]; rfl)
      rw [HVA.out] at HOK
      replace HOK := Lib.hid (HOK.out.trans (Bool.true_and _))
      clear hgood HVA HBV
      by_cases hk4 : x.k = 4
      · have hkb4 : (x.k == 4) = true := beq_iff_eq.2 hk4
        have hkb1 : (x.k == 1) = false := beq_eq_false_iff_ne.2 (by omega)
        rw [if_neg (by omega), if_neg (by omega), if_neg (by omega), if_pos hk4] at HOK
        have HK4 := Lib.hid hk4
        clear hk4
        go_wp2_with fail
        go_loopg [8] cs.length (fun k i wr => ∃ j : Nat, j ≤ cs.length ∧ k = cs.length - j ∧ i = .int .i64 ((j : Nat) : Int) ∧ wA = wr ∧ Hid (∀ v ∈ cs.take j, -1000000 ≤ v ∧ v ≤ 1000000))
        case atStart => exact ⟨0, Nat.zero_le _, rfl, rfl, rfl, fun v hv => by rw [List.take_zero] at hv; exact (List.not_mem_nil hv).elim⟩
        case round =>
          obtain ⟨j, hj2, rfl, rfl, rfl, hgood⟩ := hrel
          by_cases hlt : j < cs.length
          · obtain ⟨y, hy⟩ : ∃ y, cs[j]? = some y := ⟨_, List.getElem?_eq_getElem hlt⟩
            obtain ⟨bb, bo, rfl, _, hr⟩ := HK.out.ptr (by omega)
            have c0 := hr j _ hy
            have HY := Lib.hid (List.mem_of_getElem? hy)
            have HN : Hid (-1000000 ≤ y → y ≤ 1000000 → ∀ v ∈ cs.take (j + 1), -1000000 ≤ v ∧ v ≤ 1000000) := fun h0 h1 v hv => by
              rw [List.take_add_one, hy, List.mem_append] at hv
              rcases hv with hv | hv
              · exact hgood.out v hv
              · obtain rfl : v = y := List.mem_singleton.1 hv
                exact ⟨h0, h1⟩
            clear hr hy
            by_cases h1 : 1000000 < y
            case pos =>
              have HF := Lib.hid (HBC.out 1000000 y HY.out (.inl ⟨HK4.out, rfl⟩) (.inl h1))
              go_wp2_with fail
              exact hR.out _ HF.out _ HG.out
            by_cases h2 : y < -1000000
            case pos =>
              have HF := Lib.hid (HBC.out 1000000 y HY.out (.inl ⟨HK4.out, rfl⟩) (.inr h2))
              go_wp2_with fail
              exact hR.out _ HF.out _ HG.out
            have HN2 := Lib.hid (HN.out (by omega) (by omega))
            go_wp2_with fail
            go_roundg (cs.length - (j + 1))
            case measure => omega
            case rel => exact ⟨j + 1, by omega, rfl, by go_num, rfl, HN2⟩
          · obtain rfl : j = cs.length := by omega
            have HWI := Lib.hid (show within 1000000 cs = true by
              rw [within, List.all_eq_true]
              intro v hv
              have := hgood.out v (by rw [List.take_length]; exact hv)
              rw [decide_eq_true this.1, decide_eq_true this.2]; rfl)
            clear hgood HBC
            rw [HWI.out] at HOK
            by_cases ho : x.op = 0
            case neg =>
              have HF : Hid (r = false) := by show _ = _; rw [HOK.out]; simp [ho]
              have q1 : (x.op == 0) = false := beq_eq_false_iff_ne.2 ho
              have q2 : (x.op != 0) = true := by rw [bne, q1]; rfl
              go_wp2_with fail
              exact hR.out _ HF.out _ HG.out
            have q1 : (x.op == 0) = true := beq_iff_eq.2 ho
            have q2 : (x.op != 0) = false := by rw [bne, q1]; rfl
            by_cases hcz : x.c = 0
            case neg =>
              have HF : Hid (r = false) := by show _ = _; rw [HOK.out]; simp [hcz]
              have q3 : (x.c == 0) = false := beq_eq_false_iff_ne.2 hcz
              have q4 : (x.c != 0) = true := by rw [bne, q3]; rfl
              clear ho
              go_wp2_with fail
              exact hR.out _ HF.out _ HG.out
            have q3 : (x.c == 0) = true := beq_iff_eq.2 hcz
            have q4 : (x.c != 0) = false := by rw [bne, q3]; rfl
            rw [ho, hcz] at HOK
            replace HOK := Lib.hid (HOK.out.trans (Bool.true_and _))
            clear ho hcz
            go_upto_region 19 with fail
            clear q1 q2 q3 q4
            by_cases c1 : vs.length = 2
            case neg =>
              have HF : Hid (r = false) := by show _ = _; rw [HOK.out]; simp [c1]
              have q1 : ((vs.length : Int) == 2) = false := beq_eq_false_iff_ne.2 (by omega)
              go_wp2_with fail
              exact hR.out _ HF.out _ HG.out
            have HC1 := Lib.hid c1
            have q1 : ((vs.length : Int) == 2) = true := beq_iff_eq.2 (by omega)
            by_cases c2 : cs.length ≤ 100
            case neg =>
              have HF : Hid (r = false) := by show _ = _; rw [HOK.out]; simp [c1, c2]
              have e2 : ¬ (cs.length : Int) ≤ 100 := by omega
              go_wp2_with fail
              exact hR.out _ HF.out _ HG.out
            have e2 : (cs.length : Int) ≤ 100 := by omega
            have HF : Hid (r = true) := by show _ = _; rw [HOK.out]; simp [c1, c2]
            go_wp2_with fail
            exact hR.out _ HF.out _ HG.out
      · have hkb4 : (x.k == 4) = false := beq_eq_false_iff_ne.2 hk4
        have HK4 := Lib.hid hk4
        clear hk4
        go_wp2_with fail
        go_loopg [8] cs.length (fun k i wr => ∃ j : Nat, j ≤ cs.length ∧ k = cs.length - j ∧ i = .int .i64 ((j : Nat) : Int) ∧ wA = wr ∧ Hid (∀ v ∈ cs.take j, -1000 ≤ v ∧ v ≤ 1000))
        case atStart => exact ⟨0, Nat.zero_le _, rfl, rfl, rfl, fun v hv => by rw [List.take_zero] at hv; exact (List.not_mem_nil hv).elim⟩
        case round =>
          obtain ⟨j, hj2, rfl, rfl, rfl, hgood⟩ := hrel
          by_cases hlt : j < cs.length
          · obtain ⟨y, hy⟩ : ∃ y, cs[j]? = some y := ⟨_, List.getElem?_eq_getElem hlt⟩
            obtain ⟨bb, bo, rfl, _, hr⟩ := HK.out.ptr (by omega)
            have c0 := hr j _ hy
            have HY := Lib.hid (List.mem_of_getElem? hy)
            have HN : Hid (-1000 ≤ y → y ≤ 1000 → ∀ v ∈ cs.take (j + 1), -1000 ≤ v ∧ v ≤ 1000) := fun h0 h1 v hv => by
              rw [List.take_add_one, hy, List.mem_append] at hv
              rcases hv with hv | hv
              · exact hgood.out v hv
              · obtain rfl : v = y := List.mem_singleton.1 hv
                exact ⟨h0, h1⟩
            clear hr hy
            by_cases h1 : 1000 < y
            case pos =>
              have HF := Lib.hid (HBC.out 1000 y HY.out (.inr ⟨HK4.out, rfl⟩) (.inl h1))
              go_wp2_with fail
              exact hR.out _ HF.out _ HG.out
            by_cases h2 : y < -1000
            case pos =>
              have HF := Lib.hid (HBC.out 1000 y HY.out (.inr ⟨HK4.out, rfl⟩) (.inr h2))
              go_wp2_with fail
              exact hR.out _ HF.out _ HG.out
            have HN2 := Lib.hid (HN.out (by omega) (by omega))
            go_wp2_with fail
            go_roundg (cs.length - (j + 1))
            case measure => omega
            case rel => exact ⟨j + 1, by omega, rfl, by go_num, rfl, HN2⟩
          · obtain rfl : j = cs.length := by omega
            have HWI := Lib.hid (show within 1000 cs = true by
              rw [within, List.all_eq_true]
              intro v hv
              have := hgood.out v (by rw [List.take_length]; exact hv)
              rw [decide_eq_true this.1, decide_eq_true this.2]; rfl)
            clear hgood HBC
            rw [HWI.out] at HOK
            by_cases hk1 : x.k = 1
            · have hkb : (x.k == 1) = true := beq_iff_eq.2 hk1
              rw [if_pos hk1] at HOK
              clear hk1
              go_upto_region 16 with fail
              by_cases c1 : 1 ≤ vs.length
              case neg =>
                have HF : Hid (r = false) := by show _ = _; rw [HOK.out]; simp [c1]
                have e1 : ¬ (0 : Int) < (vs.length : Int) := by omega
                go_wp2_with fail
                exact hR.out _ HF.out _ HG.out
              have e1 : (0 : Int) < (vs.length : Int) := by omega
              by_cases c2 : vs.length ≤ 4
              case neg =>
                have HF : Hid (r = false) := by show _ = _; rw [HOK.out]; simp [c1, c2]
                have e2 : ¬ (vs.length : Int) < 5 := by omega
                go_wp2_with fail
                exact hR.out _ HF.out _ HG.out
              have e2 : (vs.length : Int) < 5 := by omega
              by_cases c3 : cs.length = vs.length
              case neg =>
                have HF : Hid (r = false) := by show _ = _; rw [HOK.out]; simp [c1, c2, c3]
                have q3 : ((cs.length : Int) == (vs.length : Int)) = false := beq_eq_false_iff_ne.2 (by omega)
                go_wp2_with fail
                exact hR.out _ HF.out _ HG.out
              have q3 : ((cs.length : Int) == (vs.length : Int)) = true := beq_iff_eq.2 (by omega)
              have HC3 := Lib.hid c3
              by_cases c5 : 1 ≤ x.op
              case neg =>
                have HF : Hid (r = false) := by show _ = _; rw [HOK.out]; simp [c1, c2, c3, c5]
                have e5 : ¬ 0 < x.op := by omega
                go_wp2_with fail
                exact hR.out _ HF.out _ HG.out
              have e5 : 0 < x.op := by omega
              by_cases c6 : x.op ≤ 3
              case neg =>
                have HF : Hid (r = false) := by show _ = _; rw [HOK.out]; simp [c1, c2, c3, c5, c6]
                have e6 : ¬ x.op < 4 := by omega
                go_wp2_with fail
                exact hR.out _ HF.out _ HG.out
              have e6 : x.op < 4 := by omega
              by_cases c8 : x.c ≤ 1000000000000
              case neg =>
                have HF : Hid (r = false) := by show _ = _; rw [HOK.out]; simp [c1, c2, c3, c5, c6, c8]
                go_wp2_with fail
                exact hR.out _ HF.out _ HG.out
              by_cases c7 : -1000000000000 ≤ x.c
              case neg =>
                have HF : Hid (r = false) := by show _ = _; rw [HOK.out]; simp [c1, c2, c3, c5, c6, c8, c7]
                have e7 : decide (-1000000000000 ≤ x.c) = false := decide_eq_false c7
                go_wp2_with fail
                exact hR.out _ HF.out _ HG.out
              have e7 : decide (-1000000000000 ≤ x.c) = true := decide_eq_true c7
              have HF : Hid (r = true) := by show _ = _; rw [HOK.out]; simp [c1, c2, c3, c5, c6, c8, c7]
              go_wp2_with fail
              exact hR.out _ HF.out _ HG.out
            · have hkb : (x.k == 1) = false := beq_eq_false_iff_ne.2 hk1
              have HK1 := Lib.hid hk1
              rw [if_neg hk1] at HOK
              clear hk1
              by_cases ho : x.op = 0
              case neg =>
                have HF : Hid (r = false) := by show _ = _; rw [HOK.out]; simp [ho]
                have q1 : (x.op == 0) = false := beq_eq_false_iff_ne.2 ho
                have q2 : (x.op != 0) = true := by rw [bne, q1]; rfl
                go_wp2_with fail
                exact hR.out _ HF.out _ HG.out
              have q1 : (x.op == 0) = true := beq_iff_eq.2 ho
              have q2 : (x.op != 0) = false := by rw [bne, q1]; rfl
              by_cases hcz : x.c = 0
              case neg =>
                have HF : Hid (r = false) := by show _ = _; rw [HOK.out]; simp [hcz]
                have q3 : (x.c == 0) = false := beq_eq_false_iff_ne.2 hcz
                have q4 : (x.c != 0) = true := by rw [bne, q3]; rfl
                clear ho
                go_wp2_with fail
                exact hR.out _ HF.out _ HG.out
              have q3 : (x.c == 0) = true := beq_iff_eq.2 hcz
              have q4 : (x.c != 0) = false := by rw [bne, q3]; rfl
              rw [ho, hcz] at HOK
              replace HOK := Lib.hid (HOK.out.trans (Bool.true_and _))
              clear ho hcz
              go_upto_region 19 with fail
              clear q1 q2 q3 q4
              by_cases hk3 : x.k = 3
              · have hkb3 : (x.k == 3) = true := beq_iff_eq.2 hk3
                rw [if_neg (by omega), if_pos hk3] at HOK
                clear hk3
                go_upto_region 22 with fail
                by_cases c1 : vs.length = 3
                case neg =>
                  have HF : Hid (r = false) := by show _ = _; rw [HOK.out]; simp [c1]
                  have q1 : ((vs.length : Int) == 3) = false := beq_eq_false_iff_ne.2 (by omega)
                  go_wp2_with fail
                  exact hR.out _ HF.out _ HG.out
                have HC1 := Lib.hid c1
                have q1 : ((vs.length : Int) == 3) = true := beq_iff_eq.2 (by omega)
                by_cases c2 : cs.length = 0
                case neg =>
                  have HF : Hid (r = false) := by show _ = _; rw [HOK.out]; simp [c1, c2]
                  have q2 : ((cs.length : Int) == 0) = false := beq_eq_false_iff_ne.2 (by omega)
                  go_wp2_with fail
                  exact hR.out _ HF.out _ HG.out
                have HC2 := Lib.hid c2
                have q2 : ((cs.length : Int) == 0) = true := beq_iff_eq.2 (by omega)
                have HF : Hid (r = true) := by show _ = _; rw [HOK.out]; simp [c1, c2]
                go_wp2_with fail
                exact hR.out _ HF.out _ HG.out
              · have hkb3 : (x.k == 3) = false := beq_eq_false_iff_ne.2 hk3
                rw [if_neg hk3, if_neg HK4.out] at HOK
                have HK3 := Lib.hid hk3
                clear hk3
                go_wp2_with fail
                have HB1 := Lib.hid b1
                have HB0 := Lib.hid b0
                have HB2 := Lib.hid b2
                clear b0 b1 b2 b3 b4
                go_loopg [9, 10] vs.length (fun k i ii wr => ∃ j : Nat, j ≤ vs.length ∧ k = vs.length - j ∧ i = .int .i64 ((j : Nat) : Int) ∧ Hid (Gr wA wr) ∧ Hid (∀ p q : Nat, q < p → p < j → vs.getD p 0 ≠ vs.getD q 0))
                case atStart => exact ⟨0, Nat.zero_le _, rfl, rfl, Gr.rfl' _, fun p q h1 h2 => by omega⟩
                case round =>
                  obtain ⟨j, hj3, rfl, rfl, gr, hgood⟩ := hrel
                  by_cases hlt : j < vs.length
                  · obtain ⟨y, hy⟩ : ∃ y, vs[j]? = some y := ⟨_, List.getElem?_eq_getElem hlt⟩
                    have HY := Lib.hid (show vs.getD j 0 = y by rw [List.getD_eq_getElem?_getD, hy]; rfl)
                    obtain ⟨bb, bo, hvp, _, hr⟩ := HV.out.ptr (by omega)
                    subst hvp
                    have HRR := Lib.hid hr
                    clear hr hy
                    go_wp2_with fail
                    have HC0 := Lib.hid (HRR.out j)
                    have GR := gr
                    go_loopg [10] j (fun k i wr => ∃ m : Nat, m ≤ j ∧ k = j - m ∧ i = .int .i64 ((m : Nat) : Int) ∧ Hid (Gr wA wr) ∧ Hid (∀ q : Nat, q < m → y ≠ vs.getD q 0))
                    case atStart => exact ⟨0, Nat.zero_le _, rfl, rfl, GR, fun q h1 => by omega⟩
                    case round =>
                      obtain ⟨m, hm, rfl, rfl, gr2, hne⟩ := hrel
                      by_cases hlt2 : m < j
                      · obtain ⟨z, hz⟩ : ∃ z, vs[m]? = some z := ⟨_, List.getElem?_eq_getElem (by omega)⟩
                        have HZ := Lib.hid (show vs.getD m 0 = z by rw [List.getD_eq_getElem?_getD, hz]; rfl)
                        have c1 := gr2.out.at (HRR.out m _ hz)
                        have b1 := gr2.out.at HB1.out
                        have c0 := gr2.out.at (HC0.out y (by rw [← HY.out, List.getD_eq_getElem?_getD, List.getElem?_eq_getElem hlt]; rfl))
                        have hml : m < vs.length := by omega
                        clear hz
                        by_cases he : y = z
                        · have HF := Lib.hid (HBD.out j m HK1.out HK3.out HK4.out hlt2 hlt (by rw [HY.out, HZ.out]; exact he))
                          subst he
                          have hbq : (y == y) = true := beq_self_eq_true y
                          go_upto_region 29 with fail
                          go_quiet (fail)
                          go_wp2_with fail
                          exact hR.out _ HF.out _ ((HG.out.trans gr2.out).drewN nq)
                        · have hbq : (y == z) = false := beq_eq_false_iff_ne.2 he
                          have HN : Hid (∀ q : Nat, q < m + 1 → y ≠ vs.getD q 0) := fun q hq => by
                            by_cases hqm : q = m
                            · rw [hqm, HZ.out]; exact he
                            · exact hne.out q (by omega)
                          clear he
                          go_upto_region 29 with fail
                          go_quiet (fail)
                          go_wp2_with fail
                          go_roundg (j - (m + 1))
                          case measure => omega
                          case rel => exact ⟨m + 1, by omega, rfl, by go_num, (gr2.out.drewN nq), HN⟩
                      · obtain rfl : m = j := by omega
                        have HN : Hid (∀ p q : Nat, q < p → p < m + 1 → vs.getD p 0 ≠ vs.getD q 0) := fun p q h1 h2 => by
                          by_cases hp : p = m
                          · subst hp; rw [HY.out]; exact hne.out q h1
                          · exact hgood.out p q h1 (by omega)
                        go_wp2_with fail
                        go_roundg (vs.length - (m + 1))
                        case measure => omega
                        case rel => exact ⟨m + 1, by omega, rfl, by go_num, gr2, HN⟩
                  · obtain rfl : j = vs.length := by omega
                    have HND := Lib.hid (nodup_of_getD (l := vs) fun i j h1 h2 => hgood.out i j h1 h2)
                    clear hgood
                    have b0 := gr.out.at HB0.out
                    have b2 := gr.out.at HB2.out
                    replace HG := Lib.hid (HG.out.trans gr.out)
                    rw [decide_eq_true HND.out] at HOK
                    go_upto_region 31 with fail
                    by_cases hk2 : x.k = 2
                    · have hkb2 : (x.k == 2) = true := beq_iff_eq.2 hk2
                      rw [if_pos hk2] at HOK
                      clear hk2
                      by_cases c1 : vs.length ≤ 8
                      case neg =>
                        have HF : Hid (r = false) := by show _ = _; rw [HOK.out]; simp [c1]
                        have e1 : ¬ (vs.length : Int) ≤ 8 := by omega
                        go_wp2_with fail
                        exact hR.out _ HF.out _ HG.out
                      have e1 : (vs.length : Int) ≤ 8 := by omega
                      by_cases c2 : cs.length = 0
                      case neg =>
                        have HF : Hid (r = false) := by show _ = _; rw [HOK.out]; simp [c1, c2]
                        have q2 : ((cs.length : Int) == 0) = false := beq_eq_false_iff_ne.2 (by omega)
                        go_wp2_with fail
                        exact hR.out _ HF.out _ HG.out
                      have HC2 := Lib.hid c2
                      have q2 : ((cs.length : Int) == 0) = true := beq_iff_eq.2 (by omega)
                      have HF : Hid (r = true) := by show _ = _; rw [HOK.out]; simp [c1, c2]
                      go_wp2_with fail
                      exact hR.out _ HF.out _ HG.out
                    · have hkb2 : (x.k == 2) = false := beq_eq_false_iff_ne.2 hk2
                      rw [if_neg hk2] at HOK
                      clear hk2
                      go_wp2_with fail
                      exact hR.out _ HOK.out _ HG.out
end Go.Proofs.Ytbapmokbkjmdcaa
