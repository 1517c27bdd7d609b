/-
  domain.holds: all kinds.
  (*engine).support: is there a choice for the other variables?
-/
import Derived.Test.YtbapmokbkjmdcaaDR07
namespace Go.Proofs.Ytbapmokbkjmdcaa
open Go.RowKit Go.Maps Go.Lib
theorem mul_bound2 {k x : Int} (hk : -1000000 ≤ k ∧ k ≤ 1000000) (hx : -1000000 ≤ x ∧ x ≤ 1000000) : -1000000000000 ≤ k * x ∧ k * x ≤ 1000000000000 := by
  have h1 : (k * x).natAbs ≤ 1000000 * 1000000 := by rw [Int.natAbs_mul]; exact Nat.mul_le_mul (by omega) (by omega)
  omega
theorem ok_times {c : Con} {n : Nat} (h : c.ok n = true) (hk : c.kind = 3) : c.vars.length = 3 := by
  simp only [Con.ok, Bool.and_eq_true] at h
  rw [if_neg (by omega), Bool.and_eq_true, Bool.and_eq_true, if_neg (by omega), if_pos hk, Bool.and_eq_true] at h
  exact of_decide_eq_true h.2.2.1
theorem sat_times {c : Con} (a : Int → Int) (hk : c.kind = 3) : c.sat a = decide (a (c.vars.getD 0 0) * a (c.vars.getD 1 0) = a (c.vars.getD 2 0)) := by
  unfold Con.sat; rw [if_neg (by omega), if_neg (by omega), if_pos hk]

set_option maxHeartbeats 4000000 in
set_option maxRecDepth 100000 in
theorem holds_differ (x : Cn) (n : Nat) (g : FuncId) (cap : Array Value) (a : Int → Int) (w0 w : World) (hx : x.In w) (_ : x.con.ok n = true) (hk : x.k = 2) (hw : Gr w0 w) (hf : AtFn g cap x.vs a w0) (ha : ∀ v ∈ x.vs, -1000000 ≤ a v ∧ a v ≤ 1000000) :
    Calls Try.prog 61 #[x.val, .func (.func g) #[] cap] w (Ret (.bool (x.con.sat a)) w) := by
  have hR : Hid (∀ b, x.con.sat a = b → ∀ w', Gr w w' → Ret (.bool (x.con.sat a)) w (.returned (.bool b)) w') := fun b hb w' hg => ⟨by rw [hb], hg⟩
  have HS := Lib.hid (show x.con.sat a = decide (x.vs.map a).Nodup from Con.sat_differ hk a)
  have HA0 := Lib.hid ha
  generalize Ret (.bool (x.con.sat a)) w = Q at hR ⊢
  generalize x.con.sat a = r at *
  have HV := Lib.hid hx.vars
  have HK := Lib.hid hx.coefs
  have Hcall := Lib.hid hf.2
  have hq := hf.1
  have HW := Lib.hid hw
  have hlc := HV.out.1
  have hcc := HV.out.2.1
  have hlc2 := HK.out.1
  have hcc2 := HK.out.2.1
  have HKK := Lib.hid hk
  clear hf hw hx ha hk
  rw [show x.val = .agg #[.int .i64 x.k, .slice x.vp x.vs.length x.vc, .slice x.cp x.cs.length x.cc, .int .i64 x.op, .int .i64 x.c] from rfl]
  go_enter Try.func61, Try.ntmps61
  try simp only [List.append_eq, List.cons_append, List.nil_append]
  go_upto_region 1 with fail
  have hB := CnBlk.new w x
  have gA : Gr w (w.alloc (.cells #[.int .i64 x.k, .slice x.vp x.vs.length x.vc, .slice x.cp x.cs.length x.cc, .int .i64 x.op, .int .i64 x.c] 42)) := by go_grown
  generalize w.alloc (.cells #[.int .i64 x.k, .slice x.vp x.vs.length x.vc, .slice x.cp x.cs.length x.cc, .int .i64 x.op, .int .i64 x.c] 42) = wA at *
  obtain ⟨b0, b1, b2, b3, b4⟩ := hB.cells
  clear hB
  have HB1 := Lib.hid b1
  have HB2 := Lib.hid b2
  generalize x.vs = vs at *
  generalize x.vp = vp at *
  generalize x.vc = vc at *
  generalize x.cs = cs at *
  generalize x.cp = cp at *
  generalize x.cc = cc at *
  generalize x.op = xo at *
  generalize x.c = xc at *
  have hk := HKK.out
  rw [hk] at b0 ⊢
  clear hk HKK
  have HG := Lib.hid gA
  have hmm := @run_makeMap Try.prog
  go_upto_region 17 with fail
  have hS0 := Lib.hid (Seen.made 2 wA)
  have gM : Gr wA (wA.alloc (.map #[] 0)) := by go_grown
  have hsz : (wA.alloc (.map #[] 0)).heap.size = wA.heap.size + 1 := World.size_alloc _ _
  have HM0 := Lib.hid gM
  have HSZ := Lib.hid hsz
  clear b0 b1 b2 b3 b4 hmm
  generalize (wA.alloc (.map #[] 0)) = wM at *
  have b1 := Gr.at HM0.out HB1.out
  go_wp2_with fail
  clear b1 gM hsz
  go_loopg [60] vs.length (fun k i wr => ∃ j : Nat, j ≤ vs.length ∧ k = vs.length - j ∧ i = .int .i64 j ∧ Hid (Gr wA wr) ∧ ∃ L, Hid (Seen 2 wr wA.heap.size L) ∧ Hid (∀ z, z ∈ L ↔ z ∈ (vs.take j).map a))
  case atStart => exact ⟨0, Nat.zero_le _, rfl, rfl, HM0, [], hS0, fun z => by simp⟩
  case round =>
    obtain ⟨j, hj, rfl, rfl, gr, L, hs, hL⟩ := hrel
    by_cases hlt : j < vs.length
    · obtain ⟨y, hy⟩ : ∃ y, vs[j]? = some y := ⟨_, List.getElem?_eq_getElem hlt⟩
      obtain ⟨b, o, rfl, _, hr⟩ := (HV.out.mono (HG.out.trans gr.out)).ptr (by omega)
      have c0 := hr j _ hy
      have hm := List.mem_of_getElem? hy
      have hav := HA0.out y hm
      have hain : In64 (a y) := ⟨by omega, by omega⟩
      have HM := Lib.hid hm
      have hqy := hq y
      obtain ⟨z, hz⟩ := hs.out.run (t := 93) Try.underlying2 Try.underlying93 hain
      obtain ⟨w1, hup, hs1, hgb⟩ := hs.out.put (t := 93) Try.underlying2 Try.underlying93 hain (wrap64 (z + 1))
      have HS1 := Lib.hid hs1
      have HG1 := Lib.hid (show Gr wA w1 from Below.trans gr.out (grownBy_below hgb gr.out.size fun k hk => by cases hk; exact Nat.le_refl _))
      have HL1 : Hid (∀ z, z ∈ a y :: L ↔ z ∈ (vs.take (j + 1)).map a) := fun z => by
        rw [List.take_add_one, hy, List.map_append, List.mem_append, List.mem_cons, hL.out z]
        show _ ↔ _ ∨ z ∈ [a y]
        rw [List.mem_singleton]
        exact ⟨fun h => h.symm, fun h => h.symm⟩
      clear hr hy hm hs1 hgb
      go_wp2_with (first
        | (refine (Hcall.out y HM.out _ (HW.out.trans (HG.out.trans gr.out))).mono ?_; rintro e w2 ⟨rfl, rfl⟩)
        | fail)
      go_roundg (vs.length - (j + 1))
      case measure => omega
      case rel => exact ⟨j + 1, by omega, rfl, by go_num, HG1, a y :: L, HS1, HL1⟩
    · obtain rfl : j = vs.length := by omega
      have b1 := Gr.at gr.out HB1.out
      have hlen := hs.out.len_run (t := 93) (by kernel_rfl)
      have hone : (once L).length = (once (vs.map a)).length := same_len (once_nodup _) (once_nodup _) fun z => by
        rw [mem_once, mem_once, hL.out z, List.take_of_length_le (Nat.le_refl _)]
      have hel : (once (vs.map a)).length ≤ vs.length := by have := once_le (vs.map a); simpa using this
      generalize (once L).length = en at hlen hone
      have hle : en ≤ vs.length := by omega
      have hv : (decide ((en : Int) = (vs.length : Int))) = r := by
        rw [HS.out]
        by_cases e : en = vs.length
        · rw [decide_eq_true (by omega), decide_eq_true (once_len.1 (by rw [List.length_map]; omega))]
        · rw [decide_eq_false (by omega), decide_eq_false (fun h => e (by have := once_len.2 h; rw [List.length_map] at this; omega))]
      have HV2 := Lib.hid hv
      clear hv hone hel hL hs
      cases he : decide ((en : Int) = (vs.length : Int)) with
      | true =>
        have he' := of_decide_eq_true he
        have HF := Lib.hid (HV2.out.symm.trans he)
        have hb1 : ((en : Int) == (vs.length : Int)) = true := beq_iff_eq.2 he'
        clear he he'
        go_wp2_with fail
        exact hR.out _ HF.out _ (HG.out.trans gr.out)
      | false =>
        have he' := of_decide_eq_false he
        have HF := Lib.hid (HV2.out.symm.trans he)
        have hb1 : ((en : Int) == (vs.length : Int)) = false := beq_eq_false_iff_ne.2 he'
        clear he
        go_wp2_with fail
        exact hR.out _ HF.out _ (HG.out.trans gr.out)

set_option maxHeartbeats 4000000 in
set_option maxRecDepth 100000 in
theorem holds_times (x : Cn) (n : Nat) (g : FuncId) (cap : Array Value) (a : Int → Int) (w0 w : World) (hx : x.In w) (hok : x.con.ok n = true) (hk : x.k = 3) (hw : Gr w0 w) (hf : AtFn g cap x.vs a w0) (ha : ∀ v ∈ x.vs, -1000000 ≤ a v ∧ a v ≤ 1000000) :
    Calls Try.prog 61 #[x.val, .func (.func g) #[] cap] w (Ret (.bool (x.con.sat a)) w) := by
  have hR : Hid (∀ b, x.con.sat a = b → ∀ w', Gr w w' → Ret (.bool (x.con.sat a)) w (.returned (.bool b)) w') := fun b hb w' hg => ⟨by rw [hb], hg⟩
  have HS := Lib.hid (show x.con.sat a = decide (a (x.vs.getD 0 0) * a (x.vs.getD 1 0) = a (x.vs.getD 2 0)) from sat_times a hk)
  have L3 := Lib.hid (show x.vs.length = 3 from ok_times hok hk)
  have HA0 := Lib.hid ha
  generalize Ret (.bool (x.con.sat a)) w = Q at hR ⊢
  generalize x.con.sat a = r at *
  have HV := Lib.hid hx.vars
  have HK := Lib.hid hx.coefs
  have Hcall := Lib.hid hf.2
  have hq := hf.1
  have HW := Lib.hid hw
  have hlc := HV.out.1
  have hcc := HV.out.2.1
  have hlc2 := HK.out.1
  have hcc2 := HK.out.2.1
  have HKK := Lib.hid hk
  clear hf hw hx ha hok hk
  rw [show x.val = .agg #[.int .i64 x.k, .slice x.vp x.vs.length x.vc, .slice x.cp x.cs.length x.cc, .int .i64 x.op, .int .i64 x.c] from rfl]
  go_enter Try.func61, Try.ntmps61
  try simp only [List.append_eq, List.cons_append, List.nil_append]
  go_upto_region 1 with fail
  have hB := CnBlk.new w x
  have gA : Gr w (w.alloc (.cells #[.int .i64 x.k, .slice x.vp x.vs.length x.vc, .slice x.cp x.cs.length x.cc, .int .i64 x.op, .int .i64 x.c] 42)) := by go_grown
  generalize w.alloc (.cells #[.int .i64 x.k, .slice x.vp x.vs.length x.vc, .slice x.cp x.cs.length x.cc, .int .i64 x.op, .int .i64 x.c] 42) = wA at *
  obtain ⟨b0, b1, b2, b3, b4⟩ := hB.cells
  clear hB
  have HB1 := Lib.hid b1
  have HB2 := Lib.hid b2
  generalize x.vs = vs at *
  generalize x.vp = vp at *
  generalize x.vc = vc at *
  generalize x.cs = cs at *
  generalize x.cp = cp at *
  generalize x.cc = cc at *
  generalize x.op = xo at *
  generalize x.c = xc at *
  have hk := HKK.out
  rw [hk] at b0 ⊢
  clear hk HKK
  have HG := Lib.hid gA
  obtain ⟨y0, y1, y2, hvs⟩ : ∃ y0 y1 y2, vs = [y0, y1, y2] := by
    match vs, L3.out with
    | [a, b, c], _ => exact ⟨a, b, c, rfl⟩
  obtain ⟨b, o, rfl, _, hr⟩ := (HV.out.mono HG.out).ptr (by rw [hvs]; simp)
  have c0 := hr 0 y0 (by rw [hvs]; rfl)
  rw [Nat.add_zero] at c0
  have c1 := hr 1 y1 (by rw [hvs]; rfl)
  have c2 := hr 2 y2 (by rw [hvs]; rfl)
  have M0 : Hid (y0 ∈ vs) := by show _ ∈ _; rw [hvs]; simp
  have M1 : Hid (y1 ∈ vs) := by show _ ∈ _; rw [hvs]; simp
  have M2 : Hid (y2 ∈ vs) := by show _ ∈ _; rw [hvs]; simp
  have hS := HS.out
  rw [hvs] at hS
  simp only [List.getD_cons_zero, List.getD_cons_succ] at hS
  have q0 := hq y0
  have q1 := hq y1
  have q2 := hq y2
  have a0 := HA0.out y0 M0.out
  have a1 := HA0.out y1 M1.out
  have hp := mul_bound2 a0 a1
  have hl3 : vs.length = 3 := by rw [hvs]; rfl
  obtain ⟨bb, hbb⟩ : ∃ bb, (a y0 * a y1 == a y2) = bb := ⟨_, rfl⟩
  have HBB := Lib.hid hbb
  have HF : Hid (r = bb) := by
    show _ = _
    rw [hS, ← hbb]
    by_cases e : a y0 * a y1 = a y2
    · rw [decide_eq_true e, beq_iff_eq.2 e]
    · rw [decide_eq_false e, beq_eq_false_iff_ne.2 e]
  have i0 : (0 : Int) < (vs.length : Int) := by omega
  have n0 : 0 < vs.length := by omega
  have i1 : (1 : Int) < (vs.length : Int) := by omega
  have i2 : (2 : Int) < (vs.length : Int) := by omega
  clear hr hS hvs hbb HS hl3
  go_upto_region 24 with fail
  refine wp_region_rely_tail 20 [fx (.func (.func g) #[] cap), fx (.pointer (some ⟨w.heap.size, 1, none⟩)), fx (.slice (some ⟨b, o, none⟩) vs.length vc), fx (.pointer (some ⟨b, o, none⟩)), fx (.int .i64 y0), fx (.int .i64 (a y0)), fx (.func (.func g) #[] cap), fx (.pointer (some ⟨w.heap.size, 1, none⟩)), fx (.slice (some ⟨b, o, none⟩) vs.length vc), fx (.pointer (some ⟨b, o + 1, none⟩)), fx (.int .i64 y1), fx (.int .i64 (a y1)), fx (.int .i64 (a y0 * a y1)), fx (.func (.func g) #[] cap), fx (.pointer (some ⟨w.heap.size, 1, none⟩)), fx (.slice (some ⟨b, o, none⟩) vs.length vc), fx (.pointer (some ⟨b, o + 2, none⟩)), fx (.int .i64 y2), fx (.int .i64 (a y2)), fx (.bool bb)]
    (by kernel_rfl) (by kernel_rfl) (by decide) (by repeat (first | exact Stable.nil | refine Stable.fix ?_)) ?_ ?_
  · refine ⟨?_, ?_, ?_, ?_, ?_, ?a5, ?_, ?_, ?_, ?_, ?_, ?a11, ?_, ?_, ?_, ?_, ?_, ?_, ?a18, ?_, trivial⟩
    all_goals
      intro fr wz hg hold
      have h2 : fr.tmps[2]?.getD undef = .pointer (some ⟨w.heap.size, 0, none⟩) := hold 2 rfl
      have h1 : fr.tmps[1]?.getD undef = .func (.func g) #[] cap := hold 1 rfl
      clear hold
      have C1 := Gr.at hg b1
      have D0 := Gr.at hg c0
      have D1 := Gr.at hg c1
      have D2 := Gr.at hg c2
      clear b1 c0 c1 c2
      simp [predsImp, Region.binds, dstAt, fx]
      intros
      first
        | (rw [if_pos (by simp [*])]
           intro K hK)
        | (rename_i K hK)
      go_simp
    case a5 =>
      refine (Hcall.out y0 M0.out _ (HW.out.trans (HG.out.trans hg))).mono ?_
      rintro e w9 ⟨rfl, rfl⟩
      exact hK _ _ rfl (Gr.rfl' _)
    case a11 =>
      refine (Hcall.out y1 M1.out _ (HW.out.trans (HG.out.trans hg))).mono ?_
      rintro e w9 ⟨rfl, rfl⟩
      exact hK _ _ rfl (Gr.rfl' _)
    case a18 =>
      refine (Hcall.out y2 M2.out _ (HW.out.trans (HG.out.trans hg))).mono ?_
      rintro e w9 ⟨rfl, rfl⟩
      exact hK _ _ rfl (Gr.rfl' _)
    all_goals first | exact hK _ _ rfl (Gr.rfl' _) | exact hK _ _ (congrArg (Value.int .i64) (wrap_in (by omega))) (Gr.rfl' _) | exact hK _ _ (congrArg Value.bool HBB.out) (Gr.rfl' _)
  · intro wz hg
    rintro _ rfl _ rfl _ rfl _ rfl _ rfl _ rfl _ rfl _ rfl _ rfl _ rfl _ rfl _ rfl _ rfl _ rfl _ rfl _ rfl _ rfl _ rfl _ rfl _ rfl
    simp only [finAll, Act.put, List.setIfInBounds_toArray, List.set_cons_succ, List.set_cons_zero, List.drop_succ_cons, List.drop_zero, List.take_zero]
    clear b1 c0 c1 c2
    go_wp2_with fail
    exact hR.out _ HF.out _ (HG.out.trans hg)
theorem ok_pick {c : Con} {n : Nat} (h : c.ok n = true) (hk : c.kind = 4) : c.vars.length = 2 := by
  simp only [Con.ok, Bool.and_eq_true] at h
  rw [if_neg (by omega), Bool.and_eq_true, Bool.and_eq_true, if_neg (by omega), if_neg (by omega), if_pos hk, Bool.and_eq_true, Bool.and_eq_true] at h
  exact of_decide_eq_true h.2.2.1.1
theorem sat_pick {c : Con} (a : Int → Int) (hk : c.kind = 4) : c.sat a = (decide (0 ≤ a (c.vars.getD 0 0)) && decide (a (c.vars.getD 0 0) < c.coefs.length) && decide (c.coefs.getD (a (c.vars.getD 0 0)).toNat 0 = a (c.vars.getD 1 0))) := by
  unfold Con.sat; rw [if_neg (by omega), if_neg (by omega), if_neg (by omega)]

set_option maxHeartbeats 4000000 in
set_option maxRecDepth 100000 in
theorem holds_pick (x : Cn) (n : Nat) (g : FuncId) (cap : Array Value) (a : Int → Int) (w0 w : World) (hx : x.In w) (hok : x.con.ok n = true) (hk : x.k = 4) (hw : Gr w0 w) (hf : AtFn g cap x.vs a w0) (ha : ∀ v ∈ x.vs, -1000000 ≤ a v ∧ a v ≤ 1000000) :
    Calls Try.prog 61 #[x.val, .func (.func g) #[] cap] w (Ret (.bool (x.con.sat a)) w) := by
  have hR : Hid (∀ b, x.con.sat a = b → ∀ w', Gr w w' → Ret (.bool (x.con.sat a)) w (.returned (.bool b)) w') := fun b hb w' hg => ⟨by rw [hb], hg⟩
  have HS := Lib.hid (show x.con.sat a = (decide (0 ≤ a (x.vs.getD 0 0)) && decide (a (x.vs.getD 0 0) < x.cs.length) && decide (x.cs.getD (a (x.vs.getD 0 0)).toNat 0 = a (x.vs.getD 1 0))) from sat_pick a hk)
  have L2 := Lib.hid (show x.vs.length = 2 from ok_pick hok hk)
  have HA0 := Lib.hid ha
  generalize Ret (.bool (x.con.sat a)) w = Q at hR ⊢
  generalize x.con.sat a = r at *
  have HV := Lib.hid hx.vars
  have HK := Lib.hid hx.coefs
  have Hcall := Lib.hid hf.2
  have hq := hf.1
  have HW := Lib.hid hw
  have hlc := HV.out.1
  have hcc := HV.out.2.1
  have hlc2 := HK.out.1
  have hcc2 := HK.out.2.1
  have HKK := Lib.hid hk
  clear hf hw hx ha hok hk
  rw [show x.val = .agg #[.int .i64 x.k, .slice x.vp x.vs.length x.vc, .slice x.cp x.cs.length x.cc, .int .i64 x.op, .int .i64 x.c] from rfl]
  go_enter Try.func61, Try.ntmps61
  try simp only [List.append_eq, List.cons_append, List.nil_append]
  go_upto_region 1 with fail
  have hB := CnBlk.new w x
  have gA : Gr w (w.alloc (.cells #[.int .i64 x.k, .slice x.vp x.vs.length x.vc, .slice x.cp x.cs.length x.cc, .int .i64 x.op, .int .i64 x.c] 42)) := by go_grown
  generalize w.alloc (.cells #[.int .i64 x.k, .slice x.vp x.vs.length x.vc, .slice x.cp x.cs.length x.cc, .int .i64 x.op, .int .i64 x.c] 42) = wA at *
  obtain ⟨b0, b1, b2, b3, b4⟩ := hB.cells
  clear hB
  have HB1 := Lib.hid b1
  have HB2 := Lib.hid b2
  generalize x.vs = vs at *
  generalize x.vp = vp at *
  generalize x.vc = vc at *
  generalize x.cs = cs at *
  generalize x.cp = cp at *
  generalize x.cc = cc at *
  generalize x.op = xo at *
  generalize x.c = xc at *
  have hk := HKK.out
  rw [hk] at b0 ⊢
  clear hk HKK
  have HG := Lib.hid gA
  obtain ⟨y0, y1, hvs⟩ : ∃ y0 y1, vs = [y0, y1] := by
    match vs, L2.out with
    | [a, b], _ => exact ⟨a, b, rfl⟩
  obtain ⟨b, o, rfl, _, hr⟩ := (HV.out.mono HG.out).ptr (by rw [hvs]; simp)
  have c0 := hr 0 y0 (by rw [hvs]; rfl)
  rw [Nat.add_zero] at c0
  have c1 := hr 1 y1 (by rw [hvs]; rfl)
  have M0 : Hid (y0 ∈ vs) := by show _ ∈ _; rw [hvs]; simp
  have M1 : Hid (y1 ∈ vs) := by show _ ∈ _; rw [hvs]; simp
  have hS := HS.out
  rw [hvs] at hS
  simp only [List.getD_cons_zero, List.getD_cons_succ] at hS
  have q0 := hq y0
  have q1 := hq y1
  have hl3 : vs.length = 2 := by rw [hvs]; rfl
  have i0 : (0 : Int) < (vs.length : Int) := by omega
  have n0 : 0 < vs.length := by omega
  have i1 : (1 : Int) < (vs.length : Int) := by omega
  have HSS := Lib.hid hS
  clear hr hS hvs HS hl3
  go_upto_region 26 with (first
    | (refine (Hcall.out y0 M0.out _ (HW.out.trans HG.out)).mono ?_; rintro e w2 ⟨rfl, rfl⟩)
    | fail)
  by_cases hneg : a y0 < 0
  · have HF : Hid (r = false) := by
      show _ = _
      rw [HSS.out, decide_eq_false (by omega)]; rfl
    have hd0 : decide (0 ≤ a y0) = false := decide_eq_false (by omega)
    refine wp_region_rely_tail 23 [fx (.int .i64 (a y0)), fx (.bool false), fx (.bool false), fx undef, fx undef, fx undef, fx undef, fx undef, fx (.bool false), fx (.bool false), fx undef, fx undef, fx undef, fx undef, fx undef, fx undef, fx undef, fx undef, fx undef, fx undef, fx undef, fx undef, fx (.bool false)]
      (by kernel_rfl) (by kernel_rfl) (by decide) (by repeat (first | exact Stable.nil | refine Stable.fix ?_)) ?_ ?_
    · refine ⟨?_, ?_, ?_, ?a3, ?a4, ?a5, ?a6, ?a7, ?_, ?_, ?a10, ?a11, ?a12, ?a13, ?a14, ?a15, ?a16, ?a17, ?a18, ?a19, ?a20, ?a21, ?_, trivial⟩
      case a3 => exact stepOK_skip 2 true 107 rfl rfl rfl ⟨⟨2, Ground.guard⟩, by simp, rfl, rfl⟩
      case a4 => exact stepOK_skip 2 true 107 rfl rfl rfl ⟨⟨2, Ground.guard⟩, by simp, rfl, rfl⟩
      case a5 => exact stepOK_skip 2 true 107 rfl rfl rfl ⟨⟨2, Ground.guard⟩, by simp, rfl, rfl⟩
      case a6 => exact stepOK_skip 2 true 107 rfl rfl rfl ⟨⟨2, Ground.guard⟩, by simp, rfl, rfl⟩
      case a7 => exact stepOK_skip 2 true 107 rfl rfl rfl ⟨⟨2, Ground.guard⟩, by simp, rfl, rfl⟩
      case a10 => exact stepOK_skip 9 true 114 rfl rfl rfl ⟨⟨9, Ground.guard⟩, by simp, rfl, rfl⟩
      case a11 => exact stepOK_skip 9 true 114 rfl rfl rfl ⟨⟨9, Ground.guard⟩, by simp, rfl, rfl⟩
      case a12 => exact stepOK_skip 9 true 114 rfl rfl rfl ⟨⟨9, Ground.guard⟩, by simp, rfl, rfl⟩
      case a13 => exact stepOK_skip 9 true 114 rfl rfl rfl ⟨⟨9, Ground.guard⟩, by simp, rfl, rfl⟩
      case a14 => exact stepOK_skip 9 true 114 rfl rfl rfl ⟨⟨9, Ground.guard⟩, by simp, rfl, rfl⟩
      case a15 => exact stepOK_skip 9 true 114 rfl rfl rfl ⟨⟨9, Ground.guard⟩, by simp, rfl, rfl⟩
      case a16 => exact stepOK_skip 9 true 114 rfl rfl rfl ⟨⟨9, Ground.guard⟩, by simp, rfl, rfl⟩
      case a17 => exact stepOK_skip 9 true 114 rfl rfl rfl ⟨⟨9, Ground.guard⟩, by simp, rfl, rfl⟩
      case a18 => exact stepOK_skip 9 true 114 rfl rfl rfl ⟨⟨9, Ground.guard⟩, by simp, rfl, rfl⟩
      case a19 => exact stepOK_skip 9 true 114 rfl rfl rfl ⟨⟨9, Ground.guard⟩, by simp, rfl, rfl⟩
      case a20 => exact stepOK_skip 9 true 114 rfl rfl rfl ⟨⟨9, Ground.guard⟩, by simp, rfl, rfl⟩
      case a21 => exact stepOK_skip 9 true 114 rfl rfl rfl ⟨⟨9, Ground.guard⟩, by simp, rfl, rfl⟩
      all_goals
        intro fr wz hg hold
        have h2 : fr.tmps[2]?.getD undef = .pointer (some ⟨w.heap.size, 0, none⟩) := hold 2 rfl
        have h1 : fr.tmps[1]?.getD undef = .func (.func g) #[] cap := hold 1 rfl
        have h11 : fr.tmps[11]?.getD undef = .int .i64 (a y0) := hold 11 rfl
        clear hold
        have C1 := Gr.at hg b1
        have C2 := Gr.at hg b2
        simp [predsImp, Region.binds, dstAt, fx]
        intros
        first
          | (rw [if_pos (by simp [*])]
             intro K hK)
          | (rename_i K hK)
        go_simp
      all_goals exact hK _ _ rfl (Gr.rfl' _)
    · intro wz hg
      rintro _ rfl _ rfl _ rfl _ rfl _ rfl _ rfl _ rfl _ rfl _ rfl _ rfl _ rfl _ rfl _ rfl _ rfl _ rfl _ rfl _ rfl _ rfl _ rfl _ rfl _ rfl _ rfl _ rfl
      simp only [finAll, Act.put, List.setIfInBounds_toArray, List.set_cons_succ, List.set_cons_zero, List.drop_succ_cons, List.drop_zero, List.take_zero]
      go_wp2_with fail
      exact hR.out _ HF.out _ (HG.out.trans hg)
  by_cases hbig : (cs.length : Int) ≤ a y0
  · have HF : Hid (r = false) := by
      show _ = _
      rw [HSS.out, decide_eq_false (show ¬ a y0 < (cs.length : Int) by omega), Bool.and_false]; rfl
    have hlt2 : ¬ a y0 < (cs.length : Int) := by omega
    have hd0 : decide (0 ≤ a y0) = true := decide_eq_true (by omega)
    have hd1 : decide (a y0 < (cs.length : Int)) = false := decide_eq_false hlt2
    refine wp_region_rely_tail 23 [fx (.int .i64 (a y0)), fx (.bool true), fx (.bool true), fx (.int .i64 (a y0)), fx (.pointer (some ⟨w.heap.size, 2, none⟩)), fx (.slice cp cs.length cc), fx (.int .i64 cs.length), fx (.bool false), fx (.bool false), fx (.bool false), fx undef, fx undef, fx undef, fx undef, fx undef, fx undef, fx undef, fx undef, fx undef, fx undef, fx undef, fx undef, fx (.bool false)]
      (by kernel_rfl) (by kernel_rfl) (by decide) (by repeat (first | exact Stable.nil | refine Stable.fix ?_)) ?_ ?_
    · refine ⟨?_, ?_, ?_, ?_, ?_, ?_, ?_, ?_, ?_, ?_, ?a10, ?a11, ?a12, ?a13, ?a14, ?a15, ?a16, ?a17, ?a18, ?a19, ?a20, ?a21, ?_, trivial⟩
      case a10 => exact stepOK_skip 9 true 114 rfl rfl rfl ⟨⟨9, Ground.guard⟩, by simp, rfl, rfl⟩
      case a11 => exact stepOK_skip 9 true 114 rfl rfl rfl ⟨⟨9, Ground.guard⟩, by simp, rfl, rfl⟩
      case a12 => exact stepOK_skip 9 true 114 rfl rfl rfl ⟨⟨9, Ground.guard⟩, by simp, rfl, rfl⟩
      case a13 => exact stepOK_skip 9 true 114 rfl rfl rfl ⟨⟨9, Ground.guard⟩, by simp, rfl, rfl⟩
      case a14 => exact stepOK_skip 9 true 114 rfl rfl rfl ⟨⟨9, Ground.guard⟩, by simp, rfl, rfl⟩
      case a15 => exact stepOK_skip 9 true 114 rfl rfl rfl ⟨⟨9, Ground.guard⟩, by simp, rfl, rfl⟩
      case a16 => exact stepOK_skip 9 true 114 rfl rfl rfl ⟨⟨9, Ground.guard⟩, by simp, rfl, rfl⟩
      case a17 => exact stepOK_skip 9 true 114 rfl rfl rfl ⟨⟨9, Ground.guard⟩, by simp, rfl, rfl⟩
      case a18 => exact stepOK_skip 9 true 114 rfl rfl rfl ⟨⟨9, Ground.guard⟩, by simp, rfl, rfl⟩
      case a19 => exact stepOK_skip 9 true 114 rfl rfl rfl ⟨⟨9, Ground.guard⟩, by simp, rfl, rfl⟩
      case a20 => exact stepOK_skip 9 true 114 rfl rfl rfl ⟨⟨9, Ground.guard⟩, by simp, rfl, rfl⟩
      case a21 => exact stepOK_skip 9 true 114 rfl rfl rfl ⟨⟨9, Ground.guard⟩, by simp, rfl, rfl⟩
      all_goals
        intro fr wz hg hold
        have h2 : fr.tmps[2]?.getD undef = .pointer (some ⟨w.heap.size, 0, none⟩) := hold 2 rfl
        have h1 : fr.tmps[1]?.getD undef = .func (.func g) #[] cap := hold 1 rfl
        have h11 : fr.tmps[11]?.getD undef = .int .i64 (a y0) := hold 11 rfl
        clear hold
        have C1 := Gr.at hg b1
        have C2 := Gr.at hg b2
        simp [predsImp, Region.binds, dstAt, fx, wantedE, Act.eval]
        intros
        first
          | (rw [if_pos (by simp [*])]
             intro K hK)
          | (rename_i K hK)
        go_simp
      all_goals exact hK _ _ rfl (Gr.rfl' _)
    · intro wz hg
      rintro _ rfl _ rfl _ rfl _ rfl _ rfl _ rfl _ rfl _ rfl _ rfl _ rfl _ rfl _ rfl _ rfl _ rfl _ rfl _ rfl _ rfl _ rfl _ rfl _ rfl _ rfl _ rfl _ rfl
      simp only [finAll, Act.put, List.setIfInBounds_toArray, List.set_cons_succ, List.set_cons_zero, List.drop_succ_cons, List.drop_zero, List.take_zero]
      go_wp2_with fail
      exact hR.out _ HF.out _ (HG.out.trans hg)
  · obtain ⟨k, hk⟩ : ∃ k, cs[(a y0).toNat]? = some k := ⟨_, List.getElem?_eq_getElem (by omega)⟩
    obtain ⟨b2', o2, rfl, _, hr2⟩ := (HK.out.mono HG.out).ptr (by omega)
    have d0 := hr2 _ k hk
    obtain ⟨bb, hbb⟩ : ∃ bb, (k == a y1) = bb := ⟨_, rfl⟩
    have HBB := Lib.hid hbb
    have HF : Hid (r = bb) := by
      show _ = _
      rw [HSS.out, decide_eq_true (show 0 ≤ a y0 by omega), decide_eq_true (show a y0 < (cs.length : Int) by omega), ← hbb, List.getD_eq_getElem?_getD, hk]
      show (true && true && decide (k = a y1)) = _
      by_cases e : k = a y1
      · rw [decide_eq_true e, beq_iff_eq.2 e]; rfl
      · rw [decide_eq_false e, beq_eq_false_iff_ne.2 e]; rfl
    have hlt2 : a y0 < (cs.length : Int) := by omega
    have hge2 : 0 ≤ a y0 := by omega
    have hge3 : (0 : Int) ≤ a y0 := by omega
    clear hr2 hk hbb
    refine wp_region_rely_tail 23 [fx (.int .i64 (a y0)), fx (.bool true), fx (.bool true), fx (.int .i64 (a y0)), fx (.pointer (some ⟨w.heap.size, 2, none⟩)), fx (.slice (some ⟨b2', o2, none⟩) cs.length cc), fx (.int .i64 cs.length), fx (.bool true), fx (.bool true), fx (.bool true), fx (.pointer (some ⟨w.heap.size, 2, none⟩)), fx (.slice (some ⟨b2', o2, none⟩) cs.length cc), fx (.int .i64 (a y0)), fx (.pointer (some ⟨b2', o2 + (a y0).toNat, none⟩)), fx (.int .i64 k), fx (.func (.func g) #[] cap), fx (.pointer (some ⟨w.heap.size, 1, none⟩)), fx (.slice (some ⟨b, o, none⟩) vs.length vc), fx (.pointer (some ⟨b, o + 1, none⟩)), fx (.int .i64 y1), fx (.int .i64 (a y1)), fx (.bool bb), fx (.bool bb)]
      (by kernel_rfl) (by kernel_rfl) (by decide) (by repeat (first | exact Stable.nil | refine Stable.fix ?_)) ?_ ?_
    · refine ⟨?_, ?_, ?_, ?_, ?_, ?_, ?_, ?_, ?_, ?_, ?_, ?_, ?_, ?_, ?_, ?_, ?_, ?_, ?_, ?_, ?a20, ?_, ?_, trivial⟩
      all_goals
        intro fr wz hg hold
        have h2 : fr.tmps[2]?.getD undef = .pointer (some ⟨w.heap.size, 0, none⟩) := hold 2 rfl
        have h1 : fr.tmps[1]?.getD undef = .func (.func g) #[] cap := hold 1 rfl
        have h11 : fr.tmps[11]?.getD undef = .int .i64 (a y0) := hold 11 rfl
        clear hold
        have C1 := Gr.at hg b1
        have C2 := Gr.at hg b2
        have D1 := Gr.at hg c1
        have D2 := Gr.at hg d0
        simp [predsImp, Region.binds, dstAt, fx, wantedE, Act.eval]
        intros
        first
          | (rw [if_pos (by simp [*])]
             intro K hK)
          | (rename_i K hK)
        go_simp
      case a20 =>
        refine (Hcall.out y1 M1.out _ (HW.out.trans (HG.out.trans hg))).mono ?_
        rintro e w9 ⟨rfl, rfl⟩
        exact hK _ _ rfl (Gr.rfl' _)
      all_goals first | exact hK _ _ rfl (Gr.rfl' _) | exact hK _ _ (congrArg Value.bool HBB.out) (Gr.rfl' _)
    · intro wz hg
      rintro _ rfl _ rfl _ rfl _ rfl _ rfl _ rfl _ rfl _ rfl _ rfl _ rfl _ rfl _ rfl _ rfl _ rfl _ rfl _ rfl _ rfl _ rfl _ rfl _ rfl _ rfl _ rfl _ rfl
      simp only [finAll, Act.put, List.setIfInBounds_toArray, List.set_cons_succ, List.set_cons_zero, List.drop_succ_cons, List.drop_zero, List.take_zero]
      go_wp2_with fail
      exact hR.out _ HF.out _ (HG.out.trans hg)

theorem ok_kind {c : Con} {n : Nat} (h : c.ok n = true) : c.kind = 1 ∨ c.kind = 2 ∨ c.kind = 3 ∨ c.kind = 4 := by
  by_cases h1 : c.kind = 1
  · exact .inl h1
  by_cases h2 : c.kind = 2
  · exact .inr (.inl h2)
  by_cases h3 : c.kind = 3
  · exact .inr (.inr (.inl h3))
  by_cases h4 : c.kind = 4
  · exact .inr (.inr (.inr h4))
  · simp [Con.ok, h1, h2, h3, h4] at h
theorem holds_calls (x : Cn) (n : Nat) (g : FuncId) (cap : Array Value) (a : Int → Int) (w0 w : World) (hx : x.In w) (hok : x.con.ok n = true) (hw : Gr w0 w) (hf : AtFn g cap x.vs a w0) (ha : ∀ v ∈ x.vs, -1000000 ≤ a v ∧ a v ≤ 1000000) :
    Calls Try.prog 61 #[x.val, .func (.func g) #[] cap] w (Ret (.bool (x.con.sat a)) w) := by
  rcases ok_kind hok with h | h | h | h
  · exact holds_sum x n g cap a w0 w hx hok h hw hf ha
  · exact holds_differ x n g cap a w0 w hx hok h hw hf ha
  · exact holds_times x n g cap a w0 w hx hok h hw hf ha
  · exact holds_pick x n g cap a w0 w hx hok h hw hf ha
end Go.Proofs.Ytbapmokbkjmdcaa

namespace Go.Proofs.Ytbapmokbkjmdcaa
open Go.RowKit Go.Maps Go.Lib

theorem CnBlk.kp {C : Nat → Prop} {w w' : World} {b : Nat} {x : Cn} (h : CnBlk w b x) (hg : Kp C w w') (hb : ¬ C b) : CnBlk w' b x := BlkT.kp h hg hb
/-- A block that holds a map's address. -/
def MBlk (w : World) (b m : Nat) : Prop := BlkT w b 80 #[.map (some m)]
theorem MBlk.kp {C : Nat → Prop} {w w' : World} {b m : Nat} (h : MBlk w b m) (hg : Kp C w w') (hb : ¬ C b) : MBlk w' b m := BlkT.kp h hg hb
theorem MBlk.gr {w w' : World} {b m : Nat} (h : MBlk w b m) (hg : Gr w w') : MBlk w' b m := BlkT.gr h hg
theorem MBlk.at0 {w : World} {b m : Nat} (h : MBlk w b m) : w.cell? ⟨b, 0, none⟩ = some (.map (some m)) := BlkT.cell h 0 rfl
/-- Rows of numbers. -/
def RowsAt (w : World) (p : Option Addr) (D : List (List Int)) : Prop :=
  D = [] ∨ ∃ b o, p = some ⟨b, o, none⟩ ∧ b < w.heap.size ∧ ∀ i d, D[i]? = some d → ∃ q c, w.cell? ⟨b, o + i, none⟩ = some (.slice q d.length c) ∧ IntSl w q c d
theorem RowsAt.mono {w w' : World} {p : Option Addr} {D : List (List Int)} (h : RowsAt w p D) (hg : Gr w w') : RowsAt w' p D := by
  refine h.imp id ?_
  rintro ⟨b, o, hp, hb, hr⟩
  refine ⟨b, o, hp, Nat.lt_of_lt_of_le hb hg.size, fun i d hd => ?_⟩
  obtain ⟨q, c, h1, h2⟩ := hr i d hd
  exact ⟨q, c, hg.at h1, h2.mono hg⟩
/-- An engine's domains. -/
def EngD (w : World) (e : Nat) (D : List (List Int)) : Prop := ∃ p c, w.cell? ⟨e, 2, none⟩ = some (.slice p D.length c) ∧ D.length ≤ c ∧ c ≤ 9223372036854775807 ∧ RowsAt w p D
theorem EngD.mono {w w' : World} {e : Nat} {D : List (List Int)} (h : EngD w e D) (hg : Gr w w') : EngD w' e D := by
  obtain ⟨p, c, h1, h2, h3, h4⟩ := h
  exact ⟨p, c, hg.at h1, h2, h3, h4.mono hg⟩
/-- The numbers are none too far. -/
def Near (n : Int) : Prop := -1000000 ≤ n ∧ n ≤ 1000000
theorem IntSl.tail {w : World} {p : Option Addr} {c : Nat} {v : Int} {L : List Int} (h : IntSl w p c (v :: L)) : ∃ b o, p = some ⟨b, o, none⟩ ∧ b < w.heap.size ∧ w.cell? ⟨b, o, none⟩ = some (.int .i64 v) ∧ ∀ pq, pq = (if c = 1 then some ⟨b, o, none⟩ else some ⟨b, o + 1, none⟩) → IntSl w pq (c - 1) L := by
  obtain ⟨h1, h2, h3, h4⟩ := h
  obtain ⟨b, o, rfl, hb, hr⟩ := h4.resolve_left (by simp)
  refine ⟨b, o, rfl, hb, hr 0 v rfl, fun pq hpq => ⟨by simp at h1; omega, by omega, fun x hx => h3 x (List.mem_cons_of_mem _ hx), ?_⟩⟩
  by_cases hc : c = 1
  · exact .inl (List.eq_nil_of_length_eq_zero (by simp at h1; omega))
  · rw [if_neg hc] at hpq
    exact .inr ⟨b, o + 1, hpq, hb, fun i x hx => by
      have := hr (i + 1) x (by simpa using hx)
      rwa [show o + 1 + i = o + (i + 1) by omega]⟩

/-- What is known of the numbers that are given. -/
structure GivenG (x : Cn) (l : List Int) (g : Int → Option Int) : Prop where
  sub : ∀ v ∈ l, v ∈ x.vs
  all : ∀ v ∈ x.vs, (g v).isSome = true ∨ v ∈ l
  near : ∀ v y, g v = some y → v ∈ x.vs ∧ Near y
theorem GivenG.skip {x : Cn} {v : Int} {l : List Int} {g : Int → Option Int} (h : GivenG x (v :: l) g) (hv : (g v).isSome = true) : GivenG x l g :=
  ⟨fun u hu => h.sub u (List.mem_cons_of_mem _ hu), fun u hu => (h.all u hu).elim .inl fun k => (List.mem_cons.1 k).elim (fun e => .inl (e ▸ hv)) .inr, h.near⟩
theorem GivenG.give {x : Cn} {v : Int} {l : List Int} {g : Int → Option Int} (h : GivenG x (v :: l) g) {n : Int} (hn : Near n) : GivenG x l (updG g v n) := by
  refine ⟨fun u hu => h.sub u (List.mem_cons_of_mem _ hu), fun u hu => ?_, fun u y hy => ?_⟩
  · by_cases e : u = v
    · exact .inl (by rw [e, updG_same]; rfl)
    · rw [updG_other g n e]; exact (h.all u hu).imp id fun k => (List.mem_cons.1 k).resolve_left e
  · by_cases e : u = v
    · rw [e, updG_same] at hy; cases hy; exact ⟨e ▸ h.sub v (List.mem_cons_self ..), hn⟩
    · rw [updG_other g n e] at hy; exact h.near u y hy
theorem GivenG.valNear {x : Cn} {g : Int → Option Int} (h : GivenG x [] g) : ∀ v ∈ x.vs, -1000000 ≤ valG g v ∧ valG g v ≤ 1000000 := fun v hv => by
  rcases h.all v hv with h1 | h1
  · obtain ⟨y, hy⟩ := Option.isSome_iff_exists.1 h1
    have := (h.near v y hy).2
    rw [valG, hy]; exact this
  · exact (List.not_mem_nil h1).elim
/-- What the search for support leaves. -/
def RetSup (m : Nat) (g : Int → Option Int) (b : Bool) (w : World) (e : Ending) (w' : World) : Prop := e = .returned (.bool b) ∧ Kp (· = m) w w' ∧ IMap w' m g
def supOf (w1 : World) (e : Nat) (x : Cn) (D : List (List Int)) (l : List Int) : Prop := ∀ (g : Int → Option Int) (lp : Option Addr) (lc m : Nat) (w : World), IntSl w1 lp lc l → w1.heap.size ≤ m → Gr w1 w → IMap w m g → GivenG x l g →
  Calls Try.prog 54 #[.pointer (some ⟨e, 0, none⟩), x.val, .slice lp l.length lc, .map (some m)] w (RetSup m g (suppL D x.con l g) w)

set_option maxHeartbeats 4000000 in
set_option maxRecDepth 100000 in
theorem sup_nil (w1 : World) (e : Nat) (x : Cn) (D : List (List Int)) (N : Nat) (hx : x.In w1) (hok : x.con.ok N = true) : supOf w1 e x D [] := by
  intro g lp lc m w hl hm1 hw hm hg
  have hR : Hid (∀ w', Gr w w' → RetSup m g (suppL D x.con [] g) w (.returned (.bool (x.con.sat (valG g)))) w') := fun w' h => ⟨rfl, Kp.of_gr h, hm.gr h⟩
  generalize RetSup m g (suppL D x.con [] g) w = Q at hR ⊢
  have hlc := hl.1
  have hcc := hl.2.1
  have HX := Lib.hid (hx.mono hw)
  have HM := Lib.hid hm
  have HGG := Lib.hid hg
  have Hok := Lib.hid hok
  clear hx hl hm1 hw hm hg hok
  rw [show x.val = .agg #[.int .i64 x.k, .slice x.vp x.vs.length x.vc, .slice x.cp x.cs.length x.cc, .int .i64 x.op, .int .i64 x.c] from rfl]
  go_enter Try.func54, Try.ntmps54
  try simp only [List.append_eq, List.cons_append, List.nil_append]
  go_upto_region 1 with fail
  have hB := (CnBlk.new w x).gr (w' := (w.alloc (.cells #[.int .i64 x.k, .slice x.vp x.vs.length x.vc, .slice x.cp x.cs.length x.cc, .int .i64 x.op, .int .i64 x.c] 42)).alloc (.cells #[.map (some m)] 80)) (by go_grown)
  have hC : ((w.alloc (.cells #[.int .i64 x.k, .slice x.vp x.vs.length x.vc, .slice x.cp x.cs.length x.cc, .int .i64 x.op, .int .i64 x.c] 42)).alloc (.cells #[.map (some m)] 80)).cell? ⟨w.heap.size + 1, 0, none⟩ = some (.map (some m)) := by
    have := BlkT.new (w.alloc (.cells #[.int .i64 x.k, .slice x.vp x.vs.length x.vc, .slice x.cp x.cs.length x.cc, .int .i64 x.op, .int .i64 x.c] 42)) 80 #[.map (some m)]
    rw [World.size_alloc] at this
    exact this.cell 0 rfl
  have gA : Gr w ((w.alloc (.cells #[.int .i64 x.k, .slice x.vp x.vs.length x.vc, .slice x.cp x.cs.length x.cc, .int .i64 x.op, .int .i64 x.c] 42)).alloc (.cells #[.map (some m)] 80)) := by go_grown
  generalize ((w.alloc (.cells #[.int .i64 x.k, .slice x.vp x.vs.length x.vc, .slice x.cp x.cs.length x.cc, .int .i64 x.op, .int .i64 x.c] 42)).alloc (.cells #[.map (some m)] 80)) = wA at *
  obtain ⟨b0, b1, b2, b3, b4⟩ := hB.cells
  have HC := Lib.hid hC
  have HG := Lib.hid gA
  have hmf : ∀ (fn : Fn) (first cap : Array Value) (w : World), (Instr.makeFunc fn first cap).run Try.prog w = .ok (.func fn first cap) w := fun _ _ _ _ => rfl
  have Hh := Lib.hid (holds_calls x N 62 #[.pointer (some ⟨w.heap.size + 1, 0, none⟩)] (valG g) wA wA (HX.out.mono gA) Hok.out (Gr.rfl' _) ⟨fun v W => by kernel_rfl, fun v hv W hW => at1_calls _ m g v W (HM.out.gr (gA.trans hW)) (HX.out.vars.2.2.1 v hv) (hW.at HC.out)⟩ HGG.out.valNear)
  clear hB hC gA
  go_wp2_with (first
    | (go_at_call 61; refine Hh.out.mono ?_; rintro e w2 ⟨rfl, hb⟩; have HB2 := Lib.hid (show Gr wA w2 from hb); clear hb)
    | fail)
  exact hR.out _ (HG.out.trans HB2.out)
end Go.Proofs.Ytbapmokbkjmdcaa
