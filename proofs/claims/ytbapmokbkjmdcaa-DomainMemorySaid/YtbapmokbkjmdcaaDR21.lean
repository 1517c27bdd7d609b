/-
  hornref.Meets: does a constraint hold of numbers?
-/
import Derived.Test.YtbapmokbkjmdcaaDR20
namespace Go.Proofs.Ytbapmokbkjmdcaa
open Go.RowKit Go.Maps Go.Lib

theorem ok_c {c : Con} {n : Nat} (h : c.ok n = true) (hk : c.kind = 1) : -1000000000000 ≤ c.c ∧ c.c ≤ 1000000000000 := by
  simp only [Con.ok, hk, if_true, Bool.and_eq_true, decide_eq_true_eq] at h
  exact ⟨h.2.1.2, h.2.2⟩
theorem asg_at {s : List Int} {v : Int} (h0 : 0 ≤ v) (h : v < s.length) : ∃ m : Nat, v = m ∧ s[m]? = some (asg s v) := by
  refine ⟨v.toNat, (Int.toNat_of_nonneg h0).symm, ?_⟩
  rw [asg, getD_lt 0 (by omega)]
  exact List.getElem?_eq_getElem (by omega)
theorem map_getD {a : Int → Int} {l : List Int} {i : Nat} (h : i < l.length) : (l.map a).getD i 0 = a (l.getD i 0) := by
  rw [getD_lt 0 (by simpa using h), getD_lt 0 h, List.getElem_map]
theorem not_nodup_at {l : List Int} {i j : Nat} (hj : j < i) (hi : i < l.length) (he : l.getD i 0 = l.getD j 0) : ¬ l.Nodup := fun hnd => by
  rw [getD_lt 0 hi, getD_lt 0 (by omega)] at he
  have := (List.getElem_inj hnd).1 he
  omega

set_option maxHeartbeats 8000000 in
set_option maxRecDepth 100000 in
theorem meets_calls (x : Cn) (s : List Int) (sp : Option Addr) (sc : Nat) (w : World) (hx : x.In w) (hs : IntSl w sp sc s) (hok : x.con.ok s.length = true) (hn : ∀ v ∈ x.vs, Near (asg s v)) :
    Calls Try.prog 20 #[x.val, .slice sp s.length sc] w (Ret (.bool (x.con.sat (asg s))) w) := by
  have hR : Hid (∀ b, x.con.sat (asg s) = b → ∀ w', Gr w w' → Ret (.bool (x.con.sat (asg s))) w (.returned (.bool b)) w') := fun b hb w' hg => ⟨by rw [hb], hg⟩
  have HOK := Lib.hid hok
  have HS1 : Hid (x.k = 1 → x.con.sat (asg s) = if x.op = 1 then decide (sumC (asg s) x.vs x.cs = x.c) else if x.op = 2 then decide (sumC (asg s) x.vs x.cs ≤ x.c) else decide (sumC (asg s) x.vs x.cs ≠ x.c)) := fun hk => sat_sum (c := x.con) _ hk
  have HS2 : Hid (x.k = 2 → x.con.sat (asg s) = decide (x.vs.map (asg s)).Nodup) := fun hk => Con.sat_differ (c := x.con) hk _
  have HS3 : Hid (x.k = 3 → x.con.sat (asg s) = decide (asg s (x.vs.getD 0 0) * asg s (x.vs.getD 1 0) = asg s (x.vs.getD 2 0))) := fun hk => sat_times (c := x.con) _ hk
  have HS4 : Hid (x.k = 4 → x.con.sat (asg s) = (decide (0 ≤ asg s (x.vs.getD 0 0)) && decide (asg s (x.vs.getD 0 0) < x.cs.length) && decide (x.cs.getD (asg s (x.vs.getD 0 0)).toNat 0 = asg s (x.vs.getD 1 0)))) := fun hk => sat_pick (c := x.con) _ hk
  have HO1 : Hid (x.k = 1 → 1 ≤ x.vs.length ∧ x.vs.length ≤ 4 ∧ x.cs.length = x.vs.length ∧ (∀ k ∈ x.cs, -1000 ≤ k ∧ k ≤ 1000) ∧ 1 ≤ x.op ∧ x.op ≤ 3) := fun hk => ok_sum hok hk
  have HO1c : Hid (x.k = 1 → -1000000000000 ≤ x.c ∧ x.c ≤ 1000000000000) := fun hk => ok_c hok hk
  have HO3 : Hid (x.k = 3 → x.vs.length = 3) := fun hk => ok_times hok hk
  have HO4 : Hid (x.k = 4 → x.vs.length = 2) := fun hk => ok_pick hok hk
  have HKI : Hid (x.k = 1 ∨ x.k = 2 ∨ x.k = 3 ∨ x.k = 4) := ok_kind hok
  have HV8 : Hid (x.vs.length ≤ 8) := ok_vars hok
  have HAT : Hid (∀ v ∈ x.vs, ∃ m : Nat, v = m ∧ s[m]? = some (asg s v)) := fun v hv => asg_at (Con.ok_var hok hv).1 (Con.ok_var hok hv).2
  have HN := Lib.hid hn
  obtain ⟨a, ha⟩ : ∃ a, asg s = a := ⟨_, rfl⟩
  rw [ha] at hR HS1 HS2 HS3 HS4 HAT HN ⊢
  generalize Ret (.bool (x.con.sat a)) w = Q at hR ⊢
  generalize x.con.sat a = r at *
  have HV := Lib.hid hx.vars
  have HK := Lib.hid hx.coefs
  have HSL := Lib.hid hs
  have hlc := HV.out.1
  have hcc := HV.out.2.1
  have hlc2 := HK.out.1
  have hcc2 := HK.out.2.1
  have hlc3 := HSL.out.1
  have hcc3 := HSL.out.2.1
  clear hx hs hok hn ha HOK
  rw [show x.val = .agg #[.int .i64 x.k, .slice x.vp x.vs.length x.vc, .slice x.cp x.cs.length x.cc, .int .i64 x.op, .int .i64 x.c] from rfl]
  go_enter Try.func20, Try.ntmps20
  try simp only [List.append_eq, List.cons_append, List.nil_append]
  go_upto_region 1 with fail
  have hB := CnBlk.new w x
  have gA : Gr w (w.alloc (.cells #[.int .i64 x.k, .slice x.vp x.vs.length x.vc, .slice x.cp x.cs.length x.cc, .int .i64 x.op, .int .i64 x.c] 42)) := by go_grown
  generalize w.alloc (.cells #[.int .i64 x.k, .slice x.vp x.vs.length x.vc, .slice x.cp x.cs.length x.cc, .int .i64 x.op, .int .i64 x.c] 42) = wA at *
  obtain ⟨b0, b1, b2, b3, b4⟩ := hB.cells
  clear hB
  have HB0 := Lib.hid b0
  have HB1 := Lib.hid b1
  have HB2 := Lib.hid b2
  have HB3 := Lib.hid b3
  have HB4 := Lib.hid b4
  generalize x.vs = vs at *
  generalize x.vp = vp at *
  generalize x.vc = vc at *
  generalize x.cs = cs at *
  generalize x.cp = cp at *
  generalize x.cc = cc at *
  generalize x.op = xo at *
  generalize x.c = xc at *
  generalize x.k = xk at *
  have HG := Lib.hid gA
  obtain ⟨L, hL⟩ : ∃ L, vs.map a = L := ⟨_, rfl⟩
  have HL := Lib.hid hL
  have HLL := Lib.hid (show L.length = vs.length by rw [← hL, List.length_map])
  clear hL
  clear b0 b1 b2 b3 b4 gA
  go_wp2_with fail
  go_loopg [5, 6] vs.length (fun k lv i wr => ∃ (j : Nat) (v : Value), j ≤ vs.length ∧ k = vs.length - j ∧ i = .int .i64 ((j : Nat) : Int) ∧ v = lv ∧ Hid (IntsOwn wr wA.heap.size v (L.take j)) ∧ Hid (Gr wA wr))
  case atStart => exact ⟨0, _, Nat.zero_le _, rfl, rfl, rfl, IntsOwn.nil _ _, Gr.rfl' _⟩
  case round =>
    obtain ⟨j, v, hj, rfl, rfl, rfl, ho, gr⟩ := hrel
    have b1 := gr.out.at HB1.out
    by_cases hlt : j < vs.length
    · obtain ⟨y, hy⟩ : ∃ y, vs[j]? = some y := ⟨_, List.getElem?_eq_getElem hlt⟩
      obtain ⟨m, hym, hsm⟩ := HAT.out y (List.mem_of_getElem? hy)
      obtain ⟨b, o, rfl, _, hr⟩ := (HV.out.mono (HG.out.trans gr.out)).ptr (by omega)
      obtain ⟨b', o', rfl, _, hr'⟩ := (HSL.out.mono (HG.out.trans gr.out)).ptr (by have := (List.getElem?_eq_some_iff.1 hsm).1; omega)
      have c0 := hr j _ hy
      have c1 := hr' m _ hsm
      have hml : m < s.length := (List.getElem?_eq_some_iff.1 hsm).1
      have HTK := Lib.hid (show L.take (j + 1) = L.take j ++ [a y] by
        rw [List.take_add_one, ← HL.out, List.getElem?_map, hy]; rfl)
      have hjl : (L.take j).length ≤ 1000000000000 := by rw [List.length_take]; have := HV8.out; omega
      generalize a y = z at *
      subst hym
      obtain ⟨v', w', hrun, ho', hg', -, -⟩ := ints_push (w0 := wA) z ho.out gr.out.size gr.out (Nat.le_refl _) hjl
      have HR := Lib.hid hrun
      have HO := Lib.hid ho'
      have HGn := Lib.hid hg'
      rw [← HTK.out] at HO
      clear hr hr' hy hsm hjl hrun ho' hg'
      go_wp2_with (first
        | (at_builtin; refine wpList_append_run _ rfl _ _ _ _ rfl _ _ (by rfl) (by rfl) _ _ HR.out ?_)
        | fail)
      go_roundg (vs.length - (j + 1))
      case measure => omega
      case rel => exact ⟨j + 1, _, by omega, rfl, by go_num, rfl, HO, HGn⟩
    · obtain rfl : j = vs.length := by omega
      have ho := ho.out
      rw [List.take_of_length_le (by rw [HLL.out]; exact Nat.le_refl _)] at ho
      have HLN : Hid (∀ z ∈ L, Near z) := fun z hz => by
        rw [← HL.out] at hz
        obtain ⟨v, hv, rfl⟩ := List.mem_map.1 hz
        exact HN.out v hv
      obtain ⟨lp, lc, rfl⟩ := ho.form
      have hsl := (ho.sl fun z hz => by have := HLN.out z hz; exact ⟨by have := this.1; omega, by have := this.2; omega⟩).2
      have HLS := Lib.hid hsl
      have hlc4 := hsl.1
      have hcc4 := hsl.2.1
      have b0 := gr.out.at HB0.out
      have b2 := gr.out.at HB2.out
      have b3 := gr.out.at HB3.out
      have b4 := gr.out.at HB4.out
      clear ho hsl
      rw [HLL.out]
      rw [HLL.out] at hlc4
      have HGr := Lib.hid (HG.out.trans gr.out)
      have HLG : Hid (∀ i, i < vs.length → ∃ z, L[i]? = some z) := fun i hi => ⟨_, List.getElem?_eq_getElem (by rw [HLL.out]; exact hi)⟩
      have HLD : Hid (∀ i z, L[i]? = some z → a (vs.getD i 0) = z) := fun i z hz => by
        rw [← HL.out, List.getElem?_map] at hz
        cases hv : vs[i]? with
        | none => rw [hv] at hz; cases hz
        | some y => rw [hv] at hz; cases hz; rw [List.getD_eq_getElem?_getD, hv]; rfl
      rcases HKI.out with rfl | rfl | rfl | rfl
      · obtain ⟨l1, l4, lcc, hcf, o1, o3⟩ := HO1.out rfl
        obtain ⟨c1, c2⟩ := HO1c.out rfl
        have HS := Lib.hid (HS1.out rfl)
        have HC := Lib.hid hcf
        have LC := Lib.hid lcc
        have hw : IntKind.i64.wrap (-xc) = -xc := wrap_in (by omega)
        have hw2 : wrap64 (-xc) = -xc := (Go.IntWalk.i64_left (-xc)).symm.trans hw
        clear HS1 HS2 HS3 HS4 HO1 HO1c HO3 HO4 hcf lcc b3
        go_wp2_with fail
        clear b0 b1 b2 b4
        go_loopg [7, 8] vs.length (fun k sv i wx => ∃ (j : Nat) (S : Int), j ≤ vs.length ∧ k = vs.length - j ∧ sv = .int .i64 (-xc + S) ∧ i = .int .i64 ((j : Nat) : Int) ∧ Hid (S = sumC a (vs.take j) (cs.take j)) ∧ (-(j * 1000000000 : Int) ≤ S ∧ S ≤ j * 1000000000) ∧ Hid (Gr wr wx))
        case atStart => exact ⟨0, 0, Nat.zero_le _, rfl, by rw [Int.add_zero], rfl, rfl, by omega, Gr.rfl' _⟩
        case round =>
          obtain ⟨j, S, hj, rfl, rfl, rfl, hS, hS1, gx⟩ := hrel
          have b2 := gx.out.at (gr.out.at HB2.out)
          by_cases hlt : j < vs.length
          · obtain ⟨z, hz⟩ := HLG.out j hlt
            have hzy := HLD.out j z hz
            obtain ⟨k, hky⟩ : ∃ k, cs[j]? = some k := ⟨_, List.getElem?_eq_getElem (by rw [LC.out]; exact hlt)⟩
            obtain ⟨y, hy⟩ : ∃ y, vs[j]? = some y := ⟨_, List.getElem?_eq_getElem hlt⟩
            have hyz : a y = z := by rw [← hzy, List.getD_eq_getElem?_getD, hy]; rfl
            obtain ⟨b, o, hlp, _, hr⟩ := (HLS.out.mono gx.out).ptr (by rw [HLL.out]; omega)
            obtain ⟨b', o', hcp, _, hr'⟩ := (HK.out.mono (HGr.out.trans gx.out)).ptr (by have := LC.out; omega)
            subst hlp hcp
            have d0 := hr j _ hz
            have d1 := hr' j _ hky
            have hzn := HLN.out z (List.mem_of_getElem? hz)
            have hkv := HC.out k (List.mem_of_getElem? hky)
            have hjc : (j : Int) < (cs.length : Int) := by have := LC.out; omega
            have hprod := mul_bound hkv hzn
            rw [Int.mul_comm] at hprod
            have hw1 : IntKind.i64.wrap (z * k) = z * k := wrap_in (by omega)
            have hw3 : wrap64 (z * k) = z * k := (Go.IntWalk.i64_left _).symm.trans hw1
            have hw4 : IntKind.i64.wrap (-xc + S + z * k) = -xc + S + z * k := wrap_in (by omega)
            have hw5 : wrap64 (-xc + S + z * k) = -xc + S + z * k := (Go.IntWalk.i64_left _).symm.trans hw4
            have HNx := Lib.hid (show S + z * k = sumC a (vs.take (j + 1)) (cs.take (j + 1)) by rw [sumC_take hy hky, hS.out, hyz, Int.mul_comm])
            clear hr hr' hz hky hy hyz hzy
            go_upto_region 12 with fail
            go_quiet (fail)
            go_wp2_with fail
            go_roundg (vs.length - (j + 1))
            case measure => omega
            case rel => exact ⟨j + 1, S + z * k, by omega, rfl, by rw [← Int.add_assoc], by go_num, HNx, by omega, gx.out.drewN _⟩
          · obtain rfl : j = vs.length := by omega
            have hS' : S = sumC a vs cs := by
              have := hS.out
              rw [List.take_of_length_le (Nat.le_refl _), List.take_of_length_le (by have := LC.out; omega)] at this
              exact this
            rw [← hS'] at HS
            have b3 := gx.out.at (gr.out.at HB3.out)
            have HGx := Lib.hid (HGr.out.trans gx.out)
            clear hS hS' b2
            obtain ⟨N, hN⟩ : ∃ N, -xc + S = N := ⟨_, rfl⟩
            rw [hN]
            by_cases e1 : xo = 1
            · have hv : Hid (r = decide (S = xc)) := HS.out.trans (if_pos e1)
              subst e1
              by_cases hd : N = 0
              · have HF := Lib.hid (hv.out.trans (decide_eq_true (by omega)))
                subst hd
                go_wp2_with fail
                exact hR.out _ HF.out _ HGx.out
              · have HF := Lib.hid (hv.out.trans (decide_eq_false (by omega)))
                have hb1 : (N == 0) = false := beq_eq_false_iff_ne.2 hd
                clear hd hN
                go_wp2_with fail
                exact hR.out _ HF.out _ HGx.out
            · by_cases e2 : xo = 2
              · have hv : Hid (r = decide (S ≤ xc)) := HS.out.trans ((if_neg e1).trans (if_pos e2))
                subst e2
                clear e1
                by_cases hd : N ≤ 0
                · have HF := Lib.hid (hv.out.trans (decide_eq_true (by omega)))
                  clear hN
                  go_wp2_with fail
                  exact hR.out _ HF.out _ HGx.out
                · have HF := Lib.hid (hv.out.trans (decide_eq_false (by omega)))
                  clear hN
                  go_wp2_with fail
                  exact hR.out _ HF.out _ HGx.out
              · have hv : Hid (r = decide (S ≠ xc)) := HS.out.trans ((if_neg e1).trans (if_neg e2))
                obtain rfl : xo = 3 := by omega
                clear e1 e2
                by_cases hd : N = 0
                · have HF := Lib.hid (hv.out.trans (decide_eq_false (by omega)))
                  subst hd
                  go_wp2_with fail
                  exact hR.out _ HF.out _ HGx.out
                · have HF := Lib.hid (hv.out.trans (decide_eq_true (by omega)))
                  have hb1 : (N == 0) = false := beq_eq_false_iff_ne.2 hd
                  have hb2 : (N != 0) = true := by rw [bne, hb1]; rfl
                  clear hd hN
                  go_wp2_with fail
                  exact hR.out _ HF.out _ HGx.out
      · have HS := Lib.hid (HS2.out rfl)
        rw [HL.out] at HS
        clear HS1 HS2 HS3 HS4 HO1 HO1c HO3 HO4 b2 b3 b4
        go_wp2_with fail
        clear b0 b1
        go_loopg [9, 10] vs.length (fun k i ii wx => ∃ j : Nat, j ≤ vs.length ∧ k = vs.length - j ∧ i = .int .i64 ((j : Nat) : Int) ∧ Hid (Gr wr wx) ∧ Hid (∀ p q : Nat, q < p → p < j → L.getD p 0 ≠ L.getD q 0))
        case atStart => exact ⟨0, Nat.zero_le _, rfl, rfl, Gr.rfl' _, fun p q h1 h2 => by omega⟩
        case round =>
          obtain ⟨j, hj3, rfl, rfl, gx, hgood⟩ := hrel
          by_cases hlt : j < vs.length
          · obtain ⟨y, hy⟩ := HLG.out j hlt
            have HYY := Lib.hid hy
            have HY := Lib.hid (show L.getD j 0 = y by rw [List.getD_eq_getElem?_getD, hy]; rfl)
            obtain ⟨bb, bo, hlp, _, hr⟩ := (HLS.out.mono gx.out).ptr (by rw [HLL.out]; omega)
            subst hlp
            have HRR := Lib.hid hr
            clear hr hy
            go_wp2_with fail
            have GX := gx
            go_loopg [10] j (fun k i wy => ∃ m : Nat, m ≤ j ∧ k = j - m ∧ i = .int .i64 ((m : Nat) : Int) ∧ Hid (Gr wr wy) ∧ Hid (∀ q : Nat, q < m → y ≠ L.getD q 0))
            case atStart => exact ⟨0, Nat.zero_le _, rfl, rfl, Gr.rfl' _, fun q h1 => by omega⟩
            case round =>
              obtain ⟨m, hm, rfl, rfl, gy, hne⟩ := hrel
              by_cases hlt2 : m < j
              · obtain ⟨z, hz⟩ := HLG.out m (by omega)
                have HZ := Lib.hid (show L.getD m 0 = z by rw [List.getD_eq_getElem?_getD, hz]; rfl)
                have c1 := gy.out.at (HRR.out m _ hz)
                have c0 := gy.out.at (HRR.out j _ HYY.out)
                have hml : m < vs.length := by omega
                clear hz
                by_cases he : y = z
                · have HF := Lib.hid (HS.out.trans (decide_eq_false (not_nodup_at hlt2 (by rw [HLL.out]; exact hlt) (by rw [HY.out, HZ.out]; exact he))))
                  subst he
                  have hbq : (y == y) = true := beq_self_eq_true y
                  go_upto_region 21 with fail
                  go_quiet (fail)
                  go_wp2_with fail
                  exact hR.out _ HF.out _ ((HGr.out.trans (gx.out.trans gy.out)).drewN _)
                · have hbq : (y == z) = false := beq_eq_false_iff_ne.2 he
                  have HNn : Hid (∀ q : Nat, q < m + 1 → y ≠ L.getD q 0) := fun q hq => by
                    by_cases hqm : q = m
                    · rw [hqm, HZ.out]; exact he
                    · exact hne.out q (by omega)
                  clear he
                  go_upto_region 21 with fail
                  go_quiet (fail)
                  go_wp2_with fail
                  go_roundg (j - (m + 1))
                  case measure => omega
                  case rel => exact ⟨m + 1, by omega, rfl, by go_num, gy.out.drewN _, HNn⟩
              · obtain rfl : m = j := by omega
                have HNn : Hid (∀ p q : Nat, q < p → p < m + 1 → L.getD p 0 ≠ L.getD q 0) := fun p q h1 h2 => by
                  by_cases hp : p = m
                  · subst hp; rw [HY.out]; exact hne.out q h1
                  · exact hgood.out p q h1 (by omega)
                have HGX := Lib.hid (gx.out.trans gy.out)
                go_wp2_with fail
                go_roundg (vs.length - (m + 1))
                case measure => omega
                case rel => exact ⟨m + 1, by omega, rfl, by go_num, HGX, HNn⟩
          · obtain rfl : j = vs.length := by omega
            have HF := Lib.hid (HS.out.trans (decide_eq_true (nodup_of_getD (l := L) fun i j h1 h2 => hgood.out i j h1 (by rw [← HLL.out]; exact h2))))
            clear hgood
            go_wp2_with fail
            exact hR.out _ HF.out _ (HGr.out.trans gx.out)
      · have h3 := HO3.out rfl
        have HS := Lib.hid (HS3.out rfl)
        obtain ⟨z0, hz0⟩ := HLG.out 0 (by omega)
        obtain ⟨z1, hz1⟩ := HLG.out 1 (by omega)
        obtain ⟨z2, hz2⟩ := HLG.out 2 (by omega)
        rw [HLD.out 0 z0 hz0, HLD.out 1 z1 hz1, HLD.out 2 z2 hz2] at HS
        obtain ⟨b, o, hlp, _, hr⟩ := HLS.out.ptr (by rw [HLL.out]; omega)
        subst hlp
        have d0 := hr 0 _ hz0
        have d1 := hr 1 _ hz1
        have d2 := hr 2 _ hz2
        rw [Nat.add_zero] at d0
        have hn0 := HLN.out z0 (List.mem_of_getElem? hz0)
        have hn1 := HLN.out z1 (List.mem_of_getElem? hz1)
        have hpr : -1000000000000 ≤ z0 * z1 ∧ z0 * z1 ≤ 1000000000000 := by
          have h1 : (z0 * z1).natAbs ≤ 1000000 * 1000000 := by rw [Int.natAbs_mul]; exact Nat.mul_le_mul (by have := hn0.1; have := hn0.2; omega) (by have := hn1.1; have := hn1.2; omega)
          omega
        have hw1 : IntKind.i64.wrap (z0 * z1) = z0 * z1 := wrap_in (by omega)
        have hw3 : wrap64 (z0 * z1) = z0 * z1 := (Go.IntWalk.i64_left _).symm.trans hw1
        have i0 : (0 : Int) < vs.length := by omega
        have i1 : (1 : Int) < vs.length := by omega
        have i2 : (2 : Int) < vs.length := by omega
        obtain ⟨bb, hbb⟩ : ∃ bb, decide (z0 * z1 = z2) = bb := ⟨_, rfl⟩
        have hbq : (z0 * z1 == z2) = bb := by rw [← hbb]; rfl
        have HF := Lib.hid (HS.out.trans hbb)
        clear HS HS1 HS2 HS3 HS4 HO1 HO1c HO3 HO4 b2 b3 b4 hr hz0 hz1 hz2 hbb hpr
        rw [h3]
        rw [h3] at i0 i1 i2 hlc4 b1 hlc
        clear h3
        go_upto_region 25 with fail
        go_quiet (fail)
        go_wp2_with fail
        exact hR.out _ HF.out _ (HGr.out.drewN _)
      · have h2 := HO4.out rfl
        have HS := Lib.hid (HS4.out rfl)
        obtain ⟨z0, hz0⟩ := HLG.out 0 (by omega)
        obtain ⟨z1, hz1⟩ := HLG.out 1 (by omega)
        rw [HLD.out 0 z0 hz0, HLD.out 1 z1 hz1] at HS
        obtain ⟨b, o, hlp, _, hr⟩ := HLS.out.ptr (by rw [HLL.out]; omega)
        subst hlp
        have d0 := hr 0 _ hz0
        have d1 := hr 1 _ hz1
        rw [Nat.add_zero] at d0
        have HD0 := Lib.hid d0
        have HD1 := Lib.hid d1
        have i0 : (0 : Int) < vs.length := by omega
        have i1 : (1 : Int) < vs.length := by omega
        clear HS1 HS2 HS3 HS4 HO1 HO1c HO3 HO4 b3 b4 hr hz0 hz1 d0 d1 b2
        rw [h2]
        rw [h2] at i0 i1 hlc4 b1 hlc
        clear h2
        go_wp2_with fail
        clear b0 b1
        go_loopg [11] cs.length (fun k i wx => ∃ j : Nat, j ≤ cs.length ∧ k = cs.length - j ∧ i = .int .i64 ((j : Nat) : Int) ∧ wr = wx ∧ Hid (∀ i : Nat, i < j → z0 ≠ i))
        case atStart => exact ⟨0, Nat.zero_le _, rfl, rfl, rfl, fun p h1 => by omega⟩
        case round =>
          obtain ⟨j, hj3, rfl, rfl, rfl, hgood⟩ := hrel
          have b2 := gr.out.at HB2.out
          have d0 := HD0.out
          by_cases hlt : j < cs.length
          · by_cases he : z0 = (j : Int)
            · obtain ⟨k, hky⟩ : ∃ k, cs[j]? = some k := ⟨_, List.getElem?_eq_getElem hlt⟩
              obtain ⟨b', o', hcp, _, hr'⟩ := (HK.out.mono HGr.out).ptr (by omega)
              subst hcp
              have d1 := HD1.out
              have d2 := hr' j _ hky
              have hkd : cs.getD j 0 = k := by rw [List.getD_eq_getElem?_getD, hky]; rfl
              obtain ⟨bb, hbb⟩ : ∃ bb, decide (k = z1) = bb := ⟨_, rfl⟩
              have hbq : (z1 == k) = bb := by
                rw [← hbb]
                cases h : decide (k = z1) with
                | true => exact beq_iff_eq.2 (of_decide_eq_true h).symm
                | false => exact beq_eq_false_iff_ne.2 fun e => (of_decide_eq_false h) e.symm
              have HF := Lib.hid (HS.out.trans (show _ = bb by
                subst he
                rw [decide_eq_true (show (0 : Int) ≤ (j : Int) by omega), decide_eq_true (show (j : Int) < cs.length by omega), Int.toNat_natCast, hkd, hbb]; rfl))
              have hbj : (z0 == (j : Int)) = true := beq_iff_eq.2 he
              clear hr' hky hkd hbb HS he
              go_upto_region 30 with fail
              go_quiet (fail)
              go_wp2_with fail
              exact hR.out _ HF.out _ (HGr.out.drewN _)
            · have hbj : (z0 == (j : Int)) = false := beq_eq_false_iff_ne.2 he
              have HNn : Hid (∀ i : Nat, i < j + 1 → z0 ≠ i) := fun i hi => by
                by_cases hij : i = j
                · rw [hij]; exact he
                · exact hgood.out i (by omega)
              clear he
              go_wp2_with fail
              go_roundg (cs.length - (j + 1))
              case measure => omega
              case rel => exact ⟨j + 1, by omega, rfl, by go_num, rfl, HNn⟩
          · obtain rfl : j = cs.length := by omega
            have HF := Lib.hid (HS.out.trans (show _ = false by
              by_cases h0 : 0 ≤ z0
              · by_cases h1 : z0 < cs.length
                · exact absurd (Int.toNat_of_nonneg h0).symm (hgood.out z0.toNat (by omega))
                · rw [decide_eq_false h1, Bool.and_false, Bool.false_and]
              · rw [decide_eq_false h0]; rfl))
            clear hgood
            go_wp2_with fail
            exact hR.out _ HF.out _ HGr.out
end Go.Proofs.Ytbapmokbkjmdcaa
