/-
  hornref.Still: may a constraint still hold?
  hornref.Choose: the search through the variables; what is done with each choice is open.
-/
import Derived.Test.YtbapmokbkjmdcaaDR21
namespace Go.Proofs.Ytbapmokbkjmdcaa
open Go.RowKit Go.Maps Go.Lib

/-- A slice of Booleans. -/
def BoolSl (w : World) (p : Option Addr) (c : Nat) (L : List Bool) : Prop :=
  L.length ≤ c ∧ c ≤ 9223372036854775807 ∧ (L = [] ∨ ∃ b o, p = some ⟨b, o, none⟩ ∧ b < w.heap.size ∧ ∀ i n, L[i]? = some n → w.cell? ⟨b, o + i, none⟩ = some (.bool n))
theorem BoolSl.mono {w w' : World} {p : Option Addr} {c : Nat} {L : List Bool} (h : BoolSl w p c L) (hg : Gr w w') : BoolSl w' p c L := by
  obtain ⟨h1, h2, h4⟩ := h
  refine ⟨h1, h2, h4.imp id ?_⟩
  rintro ⟨b, o, hp, hb, hr⟩
  exact ⟨b, o, hp, Nat.lt_of_lt_of_le hb hg.size, fun i n hn => hg.at (hr i n hn)⟩
theorem BoolSl.ptr {w : World} {p : Option Addr} {c : Nat} {L : List Bool} (h : BoolSl w p c L) (hl : 0 < L.length) : ∃ b o, p = some ⟨b, o, none⟩ ∧ b < w.heap.size ∧ ∀ i n, L[i]? = some n → w.cell? ⟨b, o + i, none⟩ = some (.bool n) := by
  rcases h.2.2 with rfl | h4
  · simp at hl
  · exact h4
/-- The numbers that are given. -/
def gOf (now : List Int) (set : List Bool) : Int → Option Int := fun v => if 0 ≤ v ∧ set.getD v.toNat false = true then some (asg now v) else none
theorem gOf_some {now : List Int} {set : List Bool} {v : Int} (h : 0 ≤ v) : (gOf now set v).isSome = set.getD v.toNat false := by
  unfold gOf
  cases hb : set.getD v.toNat false with
  | true => rw [if_pos ⟨h, rfl⟩]; rfl
  | false => rw [if_neg (by simp)]; rfl
theorem gOf_val {now : List Int} {set : List Bool} {v : Int} (hs : (gOf now set v).isSome = true) : valG (gOf now set) v = asg now v := by
  unfold gOf at hs
  split at hs
  · rename_i h
    rw [valG, gOf, if_pos h]; rfl
  · cases hs
theorem getD_lt' {L : List Bool} {i : Nat} (h : i < L.length) : L[i]? = some (L.getD i false) := by
  rw [List.getD_eq_getElem?_getD, List.getElem?_eq_getElem h]; rfl
theorem stillG_split {c : Con} {g : Int → Option Int} (h : c.kind = 2 → ∀ p : Nat, p < c.vars.length → dupAt c.vars g p = false) : stillG c g = (!allG c.vars g || c.sat (valG g)) := by
  unfold stillG
  have : (decide (c.kind = 2) && dupG c.vars g) = false := by
    by_cases hk : c.kind = 2
    · rw [decide_eq_true hk, Bool.true_and, dupG, List.any_eq_false]
      intro p hp
      rw [h hk p (List.mem_range.1 hp)]; decide
    · rw [decide_eq_false hk]; rfl
  rw [this]; rfl
theorem stillG_dup {c : Con} {g : Int → Option Int} {p : Nat} (hk : c.kind = 2) (hp : p < c.vars.length) (h : dupAt c.vars g p = true) : stillG c g = false := by
  unfold stillG
  rw [decide_eq_true hk, Bool.true_and, show dupG c.vars g = true from List.any_eq_true.2 ⟨p, List.mem_range.2 hp, h⟩]; rfl
theorem dupAt_true {vars : List Int} {g : Int → Option Int} {i j : Nat} (hj : j < i) (h1 : (g (vars.getD i 0)).isSome = true) (h2 : (g (vars.getD j 0)).isSome = true) (h3 : valG g (vars.getD i 0) = valG g (vars.getD j 0)) : dupAt vars g i = true :=
  List.any_eq_true.2 ⟨j, List.mem_range.2 hj, by rw [h1, h2, decide_eq_true h3]; rfl⟩
theorem dupAt_false {vars : List Int} {g : Int → Option Int} {i : Nat} (h : ∀ j : Nat, j < i → ((g (vars.getD i 0)).isSome && (g (vars.getD j 0)).isSome && decide (valG g (vars.getD i 0) = valG g (vars.getD j 0))) = false) : dupAt vars g i = false :=
  List.any_eq_false.2 fun j hj => by rw [h j (List.mem_range.1 hj)]; decide

set_option maxHeartbeats 8000000 in
set_option maxRecDepth 100000 in
theorem still_calls (x : Cn) (now : List Int) (set : List Bool) (np : Option Addr) (nc : Nat) (sp : Option Addr) (sc : Nat) (w : World) (hx : x.In w) (hnow : IntSl w np nc now) (hset : BoolSl w sp sc set) (hl : set.length = now.length) (hok : x.con.ok now.length = true) (hn : ∀ y ∈ now, Near y) :
    Calls Try.prog 36 #[x.val, .slice np now.length nc, .slice sp set.length sc] w (Ret (.bool (stillG x.con (gOf now set))) w) := by
  have hR : Hid (∀ b, stillG x.con (gOf now set) = b → ∀ w', Gr w w' → Ret (.bool (stillG x.con (gOf now set))) w (.returned (.bool b)) w') := fun b hb w' hg => ⟨by rw [hb], hg⟩
  have hva : ∀ v ∈ x.vs, ∃ m : Nat, v = m ∧ m < set.length ∧ now[m]? = some (asg now v) ∧ set[m]? = some (gOf now set v).isSome := fun v hv => by
    have h := Con.ok_var hok hv
    obtain ⟨m, rfl, hm⟩ := asg_at h.1 h.2
    exact ⟨m, rfl, by omega, hm, by rw [gOf_some (by omega), Int.toNat_natCast]; exact getD_lt' (by omega)⟩
  have HAT := Lib.hid hva
  have HD : Hid (∀ p : Nat, x.k = 2 → p < x.vs.length → dupAt x.vs (gOf now set) p = true → stillG x.con (gOf now set) = false) := fun p h1 h2 h3 => stillG_dup (c := x.con) h1 h2 h3
  have HSP : Hid ((x.k = 2 → ∀ p : Nat, p < x.vs.length → dupAt x.vs (gOf now set) p = false) → stillG x.con (gOf now set) = (!allG x.vs (gOf now set) || x.con.sat (valG (gOf now set)))) := fun h => stillG_split (c := x.con) h
  have HSC : Hid (allG x.vs (gOf now set) = true → x.con.sat (valG (gOf now set)) = x.con.sat (asg now)) := fun h => Con.sat_congr (c := x.con) hok fun v hv => gOf_val (allG_iff.1 h v hv)
  have HVA : Hid (∀ v, (gOf now set v).isSome = true → valG (gOf now set) v = asg now v) := fun v hv => gOf_val hv
  have HME : Hid (∀ W, Gr w W → Calls Try.prog 20 #[x.val, .slice np now.length nc] W (Ret (.bool (x.con.sat (asg now))) W)) := fun W hW => meets_calls x now np nc W (hx.mono hW) (hnow.mono hW) hok fun v hv => by
    obtain ⟨m, _, _, h, _⟩ := hva v hv
    exact hn _ (List.mem_of_getElem? h)
  have HV8 : Hid (x.vs.length ≤ 8) := ok_vars hok
  have HV := Lib.hid hx.vars
  have HNW := Lib.hid hnow
  have HST := Lib.hid hset
  have hlc := HV.out.1
  have hcc := HV.out.2.1
  have hlc3 := HNW.out.1
  have hcc3 := HNW.out.2.1
  have hlc4 := HST.out.1
  have hcc4 := HST.out.2.1
  have HLL := Lib.hid hl
  clear hx hnow hset hok hn hva hl
  obtain ⟨g, hg⟩ : ∃ g, gOf now set = g := ⟨_, rfl⟩
  rw [hg] at hR HAT HD HSP HSC HVA ⊢
  clear hg
  obtain ⟨sa, hsa⟩ : ∃ sa, x.con.sat (asg now) = sa := ⟨_, rfl⟩
  rw [hsa] at HSC HME
  clear hsa
  generalize x.con.sat (valG g) = sv at *
  generalize Ret (.bool (stillG x.con g)) w = Q at hR ⊢
  generalize stillG x.con g = r at *
  have HVal := Lib.hid (show x.val = .agg #[.int .i64 x.k, .slice x.vp x.vs.length x.vc, .slice x.cp x.cs.length x.cc, .int .i64 x.op, .int .i64 x.c] from rfl)
  rw [HVal.out] at HME ⊢
  clear HVal
  go_enter Try.func36, Try.ntmps36
  try simp only [List.append_eq, List.cons_append, List.nil_append]
  go_upto_region 1 with fail
  have hB := CnBlk.new w x
  have gA : Gr w (w.alloc (.cells #[.int .i64 x.k, .slice x.vp x.vs.length x.vc, .slice x.cp x.cs.length x.cc, .int .i64 x.op, .int .i64 x.c] 42)) := by go_grown
  generalize w.alloc (.cells #[.int .i64 x.k, .slice x.vp x.vs.length x.vc, .slice x.cp x.cs.length x.cc, .int .i64 x.op, .int .i64 x.c] 42) = wA at *
  obtain ⟨b0, b1, b2, b3, b4⟩ := hB.cells
  clear hB
  have HB0 := Lib.hid b0
  have HB1 := Lib.hid b1
  have HB2 := Lib.hid b2
  have HB3 := Lib.hid b3
  have HB4 := Lib.hid b4
  generalize x.vs = vs at *
  generalize x.vp = vp at *
  generalize x.vc = vc at *
  generalize x.cs = cs at *
  generalize x.cp = cp at *
  generalize x.cc = cc at *
  generalize x.op = xo at *
  generalize x.c = xc at *
  generalize x.k = xk at *
  have HG := Lib.hid gA
  clear b0 b1 b2 b3 b4 gA
  go_wp2_with fail
  go_loopg [7, 8, 9] vs.length (fun k al i jj wr => ∃ (j : Nat), j ≤ vs.length ∧ k = vs.length - j ∧ al = .bool ((vs.take j).all fun v => (g v).isSome) ∧ i = .int .i64 ((j : Nat) : Int) ∧ Hid (Gr wA wr) ∧ Hid (xk = 2 → ∀ p : Nat, p < j → dupAt vs g p = false))
  case atStart => exact ⟨0, Nat.zero_le _, rfl, rfl, rfl, Gr.rfl' _, fun _ p hp => by omega⟩
  case round =>
    obtain ⟨j, hj, rfl, rfl, rfl, gr, hnd⟩ := hrel
    have b1 := gr.out.at HB1.out
    by_cases hlt : j < vs.length
    · obtain ⟨y, hy⟩ : ∃ y, vs[j]? = some y := ⟨_, List.getElem?_eq_getElem hlt⟩
      obtain ⟨m, hym, hml, hnm, hsm⟩ := HAT.out y (List.mem_of_getElem? hy)
      obtain ⟨b, o, hvp, _, hr⟩ := (HV.out.mono (HG.out.trans gr.out)).ptr (by omega)
      obtain ⟨bs, os, hsp, _, hrs⟩ := (HST.out.mono (HG.out.trans gr.out)).ptr (by omega)
      obtain ⟨bn, on, hnp, _, hrn⟩ := (HNW.out.mono (HG.out.trans gr.out)).ptr (by have := HLL.out; omega)
      subst hvp hsp hnp
      have HRV := Lib.hid hr
      have HRS := Lib.hid hrs
      have HRN := Lib.hid hrn
      have HYD := Lib.hid (show vs.getD j 0 = y by rw [List.getD_eq_getElem?_getD, hy]; rfl)
      have HYY := Lib.hid hy
      have HTK := Lib.hid (show ((vs.take (j + 1)).all fun v => (g v).isSome) = (((vs.take j).all fun v => (g v).isSome) && (g y).isSome) by
        rw [List.take_add_one, hy, List.all_append]
        simp)
      have HNM := Lib.hid hnm
      have HSM := Lib.hid hsm
      have HVY := Lib.hid (HVA.out y)
      have HML := Lib.hid hml
      generalize (g y).isSome = sy at *
      generalize asg now y = ny at *
      have c0 := hr j _ hy
      have c1 := hrs m _ hsm
      subst hym
      clear hr hrs hrn hy hnm hsm
      go_upto_region 5 with fail
      go_cut [7] from 10 to 74 (fun b wx => b = .bool ((vs.take (j + 1)).all fun v => (g v).isSome) ∧ wr = wx)
      case first =>
        generalize ((vs.take j).all fun v => (g v).isSome) = aj at *
        cases aj with
        | true =>
          have hml := HML.out
          go_wp2_with fail
          go_meet
          exact ⟨by rw [HTK.out, Bool.true_and], rfl⟩
        | false =>
          go_wp2_with fail
          go_meet
          exact ⟨by rw [HTK.out, Bool.false_and], rfl⟩
      case rest =>
        obtain ⟨rfl, rfl⟩ := hcut
        generalize hal : ((vs.take (j + 1)).all fun v => (g v).isSome) = al1
        have HAL := Lib.hid hal
        clear hal
        clear c0 c1 b1
        go_wp2_with fail
        have GR := gr
        go_loopg [9] j (fun k jj wy => ∃ q : Nat, q ≤ j ∧ k = j - q ∧ jj = .int .i64 ((q : Nat) : Int) ∧ Hid (Gr wr wy) ∧ Hid (xk = 2 → ∀ p : Nat, p < q → (sy && (g (vs.getD p 0)).isSome && decide (valG g (vs.getD j 0) = valG g (vs.getD p 0))) = false))
        case atStart => exact ⟨0, Nat.zero_le _, rfl, rfl, Gr.rfl' _, fun _ p hp => by omega⟩
        case round =>
          obtain ⟨q, hq, rfl, rfl, gy, hno⟩ := hrel
          have b0 := gy.out.at (GR.out.at HB0.out)
          by_cases hk2 : xk = 2
          case neg =>
            have hkb : (xk == 2) = false := beq_eq_false_iff_ne.2 hk2
            have HN : Hid (xk = 2 → ∀ p : Nat, p < j + 1 → dupAt vs g p = false) := fun h => absurd h hk2
            have HGY := Lib.hid (GR.out.trans gy.out)
            clear hk2
            by_cases hqj : q < j
            · go_wp2_with fail
              go_roundg (vs.length - (j + 1))
              case measure => omega
              case rel => exact ⟨j + 1, by omega, rfl, by rw [HAL.out], by go_num, HGY, HN⟩
            · go_wp2_with fail
              go_roundg (vs.length - (j + 1))
              case measure => omega
              case rel => exact ⟨j + 1, by omega, rfl, by rw [HAL.out], by go_num, HGY, HN⟩
          subst hk2
          by_cases hqj : q < j
          · have b1 := gy.out.at (GR.out.at HB1.out)
            obtain ⟨z, hz⟩ : ∃ z, vs[q]? = some z := ⟨_, List.getElem?_eq_getElem (by omega)⟩
            obtain ⟨mz, hzm, hmlz, hnz, hsz⟩ := HAT.out z (List.mem_of_getElem? hz)
            have hml := HML.out
            have hmn : m < now.length := by have := HLL.out; omega
            have hmzn : mz < now.length := by have := HLL.out; omega
            have HZD := Lib.hid (show vs.getD q 0 = z by rw [List.getD_eq_getElem?_getD, hz]; rfl)
            have HVZ := Lib.hid (HVA.out z)
            have v0 := gy.out.at (HRV.out j _ HYY.out)
            have v1 := gy.out.at (HRV.out q _ hz)
            have s0 := gy.out.at (HRS.out m _ HSM.out)
            have s1 := gy.out.at (HRS.out mz _ hsz)
            have n0 := gy.out.at (HRN.out m _ HNM.out)
            have n1 := gy.out.at (HRN.out mz _ hnz)
            have hql : q < vs.length := by omega
            have HGY := Lib.hid (GR.out.trans gy.out)
            have HNX : Hid ((sy && (g z).isSome && decide (valG g (vs.getD j 0) = valG g z)) = false → (2 : Int) = 2 → ∀ p : Nat, p < q + 1 → (sy && (g (vs.getD p 0)).isSome && decide (valG g (vs.getD j 0) = valG g (vs.getD p 0))) = false) := fun h _ p hp => by
              by_cases hpq : p = q
              · rw [hpq, HZD.out]; exact h
              · exact hno.out rfl p (by omega)
            have HSE : Hid (sy = (g (vs.getD j 0)).isSome) := by
              show _ = _
              rw [HYD.out]
              have h1 := (HAT.out _ (List.mem_of_getElem? HYY.out))
              obtain ⟨m', e, _, _, h⟩ := h1
              have : m' = m := by omega
              subst this
              have := h.symm.trans HSM.out
              exact (Option.some.inj this).symm
            have HDUP : Hid (sy = true → (g z).isSome = true → valG g (vs.getD j 0) = valG g z → r = false) := fun h1 h2 h3 => HD.out j rfl hlt (dupAt_true hqj (by rw [← HSE.out]; exact h1) (by rw [HZD.out]; exact h2) (by rw [HZD.out]; exact h3))
            rw [HYD.out] at HNX HDUP hno
            generalize (g z).isSome = sz at *
            generalize asg now z = nz at *
            subst hzm
            clear hz hnz hsz HSE
            cases sy with
            | false =>
              have HN2 := Lib.hid (HNX.out (by rw [Bool.false_and, Bool.false_and]))
              go_upto_region 9 with fail
              go_quiet (fail)
              go_wp2_with fail
              go_roundg (j - (q + 1))
              case measure => omega
              case rel => exact ⟨q + 1, by omega, rfl, by go_num, gy.out.drewN _, by rw [HYD.out]; exact HN2.out⟩
            | true =>
              cases sz with
              | false =>
                have HN2 := Lib.hid (HNX.out (by rw [Bool.and_false, Bool.false_and]))
                go_upto_region 9 with fail
                go_quiet (fail)
                go_wp2_with fail
                go_roundg (j - (q + 1))
                case measure => omega
                case rel => exact ⟨q + 1, by omega, rfl, by go_num, gy.out.drewN _, by rw [HYD.out]; exact HN2.out⟩
              | true =>
                have HE1 := Lib.hid (HVY.out rfl)
                have HE2 := Lib.hid (HVZ.out rfl)
                by_cases he : ny = nz
                · have HF := Lib.hid (HDUP.out rfl rfl (by rw [HE1.out, HE2.out]; exact he))
                  subst he
                  have hbq : (ny == ny) = true := beq_self_eq_true ny
                  go_upto_region 9 with fail
                  go_quiet (fail)
                  go_wp2_with fail
                  exact hR.out _ HF.out _ ((HG.out.trans HGY.out).drewN _)
                · have hbq : (ny == nz) = false := beq_eq_false_iff_ne.2 he
                  have HN2 := Lib.hid (HNX.out (by rw [HE1.out, HE2.out, decide_eq_false he]; rfl))
                  clear he
                  go_upto_region 9 with fail
                  go_quiet (fail)
                  go_wp2_with fail
                  go_roundg (j - (q + 1))
                  case measure => omega
                  case rel => exact ⟨q + 1, by omega, rfl, by go_num, gy.out.drewN _, by rw [HYD.out]; exact HN2.out⟩
          · obtain rfl : q = j := by omega
            have HN : Hid ((2 : Int) = 2 → ∀ p : Nat, p < q + 1 → dupAt vs g p = false) := fun _ p hp => by
              by_cases hpq : p = q
              · subst hpq
                refine dupAt_false fun i hi => ?_
                have hs : (g (vs.getD p 0)).isSome = sy := by
                  rw [HYD.out]
                  obtain ⟨m', e, _, _, h⟩ := HAT.out _ (List.mem_of_getElem? HYY.out)
                  have : m' = m := by omega
                  subst this
                  exact Option.some.inj (h.symm.trans HSM.out)
                rw [hs]
                exact hno.out rfl i hi
              · exact hnd.out rfl p (by omega)
            have HGY := Lib.hid (GR.out.trans gy.out)
            go_wp2_with fail
            go_roundg (vs.length - (q + 1))
            case measure => omega
            case rel => exact ⟨q + 1, by omega, rfl, by rw [HAL.out], by go_num, HGY, HN⟩
    · obtain rfl : j = vs.length := by omega
      have HS := Lib.hid (HSP.out hnd.out)
      rw [List.take_length]
      have HA : Hid ((vs.all fun v => (g v).isSome) = allG vs g) := rfl
      rw [HA.out]
      generalize allG vs g = al at *
      have b0 := gr.out.at HB0.out
      have b2 := gr.out.at HB2.out
      have b3 := gr.out.at HB3.out
      have b4 := gr.out.at HB4.out
      cases al with
      | false =>
        have HF := Lib.hid (HS.out.trans (show (!false || sv) = true from rfl))
        go_wp2_with fail
        exact hR.out _ HF.out _ (HG.out.trans gr.out)
      | true =>
        have hsv := HSC.out rfl
        have HF := Lib.hid (HS.out.trans ((show (!true || sv) = sv from rfl).trans hsv))
        have Hc := Lib.hid (HME.out _ (HG.out.trans gr.out))
        clear hsv
        go_wp2_with (first
          | (go_at_call 20; refine Hc.out.mono ?_; rintro e1 w1 ⟨rfl, hb⟩; have HG1 := Lib.hid (gr.out.trans (show Gr wr w1 from hb)); clear hb)
          | fail)
        exact hR.out _ HF.out _ (HG.out.trans HG1.out)
end Go.Proofs.Ytbapmokbkjmdcaa

namespace Go.Proofs.Ytbapmokbkjmdcaa
open Go.RowKit Go.Maps Go.Lib

/-- What is told one behind the other, to something that has a state. -/
def feedS {α β : Type} (step : α → β → α × Bool) : α → List β → α × Bool
  | a, [] => (a, true)
  | a, b :: bs => if (step a b).2 = true then feedS step (step a b).1 bs else ((step a b).1, false)
theorem feedS_append {α β : Type} (step : α → β → α × Bool) : ∀ (a : α) (L M : List β), feedS step a (L ++ M) = if (feedS step a L).2 = true then feedS step (feedS step a L).1 M else feedS step a L
  | a, [], M => by simp [feedS]
  | a, b :: bs, M => by
    rw [List.cons_append, feedS, feedS]
    by_cases h : (step a b).2 = true
    · rw [if_pos h, if_pos h]; exact feedS_append step _ bs M
    · rw [if_neg h, if_neg h, if_neg (by simp)]
theorem feedS_one {α β : Type} (step : α → β → α × Bool) (a : α) (b : β) : feedS step a [b] = step a b := by
  rw [feedS, feedS]
  split
  · rename_i h; rw [← h]
  · rename_i h
    cases hb : (step a b).2 with
    | true => exact absurd hb h
    | false => rw [← hb]
theorem feedS_stop {α β : Type} (step : α → β → α × Bool) {a : α} {L : List β} {a' : α} (M : List β) (h : feedS step a L = (a', false)) : feedS step a (L ++ M) = (a', false) := by
  rw [feedS_append, h, if_neg (by simp)]
theorem feedS_go {α β : Type} (step : α → β → α × Bool) {a : α} {L : List β} {a' : α} (M : List β) (h : feedS step a L = (a', true)) : feedS step a (L ++ M) = feedS step a' M := by
  rw [feedS_append, h, if_pos rfl]

theorem feedS_live {α β : Type} {step : α → β → α × Bool} {live : α → Prop} (h : ∀ a b, live a → (step a b).2 = true → live (step a b).1) : ∀ (L : List β) (a : α), live a → (feedS step a L).2 = true → live (feedS step a L).1
  | [], _, ha, _ => ha
  | b :: bs, a, ha, hf => by
    rw [feedS] at hf ⊢
    by_cases h2 : (step a b).2 = true
    · rw [if_pos h2] at hf ⊢
      exact feedS_live h bs _ (h a b ha h2) hf
    · rw [if_neg h2] at hf; cases hf

def ints (L : List Int) : Array Value := (L.map (Value.int .i64)).toArray
def bools (L : List Bool) : Array Value := (L.map Value.bool).toArray
theorem ints_at {L : List Int} {i : Nat} {y : Int} (h : L[i]? = some y) : (ints L)[i]? = some (.int .i64 y) := by
  rw [ints, List.getElem?_toArray, List.getElem?_map, h]; rfl
theorem bools_at {L : List Bool} {i : Nat} {y : Bool} (h : L[i]? = some y) : (bools L)[i]? = some (.bool y) := by
  rw [bools, List.getElem?_toArray, List.getElem?_map, h]; rfl
theorem ints_set (L : List Int) (i : Nat) (y : Int) : (ints L).setIfInBounds i (.int .i64 y) = ints (L.set i y) := by
  rw [ints, ints, List.setIfInBounds_toArray, List.map_set]
theorem bools_set (L : List Bool) (i : Nat) (y : Bool) : (bools L).setIfInBounds i (.bool y) = bools (L.set i y) := by
  rw [bools, bools, List.setIfInBounds_toArray, List.map_set]
theorem ints_sl {w : World} {b : Nat} {L : List Int} {t : TypeId} (h : BlkT w b t (ints L)) (hn : ∀ y ∈ L, Near y) (hl : L.length ≤ 1000000) : IntSl w (some ⟨b, 0, none⟩) L.length L :=
  ⟨Nat.le_refl _, by omega, fun y hy => by have := hn y hy; exact ⟨by have := this.1; omega, by have := this.2; omega⟩, .inr ⟨b, 0, rfl, h.lt, fun i y hy => by rw [Nat.zero_add]; exact h.cell i (ints_at hy)⟩⟩
theorem bools_sl {w : World} {b : Nat} {L : List Bool} {t : TypeId} (h : BlkT w b t (bools L)) (hl : L.length ≤ 1000000) : BoolSl w (some ⟨b, 0, none⟩) L.length L :=
  ⟨Nat.le_refl _, by omega, .inr ⟨b, 0, rfl, h.lt, fun i y hy => by rw [Nat.zero_add]; exact h.cell i (bools_at hy)⟩⟩

/-- A search: where all lies, and what is done with each choice. -/
structure ChE (α : Type) where
  w1 : World
  C : Nat → Prop
  bN : Nat
  bS : Nat
  n : Nat
  f : FuncId
  cap : Array Value
  st : α → World → Prop
  step : α → (Int → Option Int) → α × Bool
  dp : Option Addr
  dc : Nat
  D : List (List Int)
  lp : Option Addr
  lc : Nat
  L : List Cn
  ap : Option Addr
  ac : Nat
  asked : List Bool
  live : α → Prop := fun _ => True
variable {α : Type}
/-- What it is asked lies there. -/
structure ChIn (E : ChE α) (w : World) : Prop where
  rows : RowsAt w E.dp E.D
  lenD : E.D.length ≤ E.dc ∧ E.dc ≤ 9223372036854775807
  cns : CnsAt w E.lp E.L
  lenC : E.L.length ≤ E.lc ∧ E.lc ≤ 9223372036854775807
  ins : ∀ y ∈ E.L, y.In w
  ask : BoolSl w E.ap E.ac E.asked
/-- The numbers so far. -/
structure ChW (E : ChE α) (w : World) (now : List Int) (set : List Bool) : Prop where
  kp : Kp E.C E.w1 w
  bn : BlkT w E.bN 2 (ints now)
  bs : BlkT w E.bS 4 (bools set)
  lenN : now.length = E.n
  lenS : set.length = E.n
  near : ∀ y ∈ now, Near y
structure ChOk (E : ChE α) : Prop where
  inp : ∀ w, Kp E.C E.w1 w → ChIn E w
  cN : E.C E.bN
  cS : E.C E.bS
  ne : E.bN ≠ E.bS
  lenD : E.D.length = E.n
  lenA : E.asked.length = E.n
  few : E.n ≤ 50
  ok : ∀ y ∈ E.L, y.con.ok E.n = true
  near : ∀ d ∈ E.D, ∀ y ∈ d, Near y
  enter : ∀ w, (callFunc E.f E.cap).run Try.prog w = .ok (.enter E.f E.cap) w
  call : ∀ a w now set, E.live a → E.st a w → ChW E w now set → (∀ k, k < E.n → E.asked.getD k false = true → set.getD k false = true) → Calls Try.prog E.f E.cap w fun e w' => e = .returned (.bool (E.step a (gOf now set)).2) ∧ E.st (E.step a (gOf now set)).1 w' ∧ ChW E w' now set
  stable : ∀ a w w', E.st a w → Kp (fun b => b = E.bN ∨ b = E.bS) w w' → E.st a w'
  liv : ∀ a g, E.live a → (E.step a g).2 = true → E.live (E.step a g).1
theorem ChW.gr {E : ChE α} {w w' : World} {now : List Int} {set : List Bool} (h : ChW E w now set) (hg : Gr w w') : ChW E w' now set :=
  ⟨Kp.trans h.kp (Kp.of_gr hg), h.bn.gr hg, h.bs.gr hg, h.lenN, h.lenS, h.near⟩
theorem ChW.sets {E : ChE α} {w : World} {now : List Int} {set : List Bool} (h : ChW E w now set) (hE : ChOk E) (i : Nat) (b : Bool) : ChW E (w.setCell ⟨E.bS, i, none⟩ (.bool b)) now (set.set i b) :=
  ⟨Kp.trans h.kp (Kp.set hE.cS), h.bn.kp (Kp.set (C := (· = E.bS)) rfl) hE.ne, by rw [← bools_set]; exact h.bs.set i _, h.lenN, by rw [List.length_set]; exact h.lenS, h.near⟩
theorem mem_set' {L : List Int} {i : Nat} {x y : Int} (h : y ∈ L.set i x) : y ∈ L ∨ y = x := List.mem_or_eq_of_mem_set h
theorem ChW.nows {E : ChE α} {w : World} {now : List Int} {set : List Bool} (h : ChW E w now set) (hE : ChOk E) (i : Nat) (x : Int) (hx : Near x) : ChW E (w.setCell ⟨E.bN, i, none⟩ (.int .i64 x)) (now.set i x) set :=
  ⟨Kp.trans h.kp (Kp.set hE.cN), by rw [← ints_set]; exact h.bn.set i _, h.bs.kp (Kp.set (C := (· = E.bN)) rfl) (fun e => hE.ne e.symm), by rw [List.length_set]; exact h.lenN, h.lenS, fun y hy => (mem_set' hy).elim (h.near y) fun e => e ▸ hx⟩
/-- The choices from a variable on. -/
def ChE.leaves (E : ChE α) (i : Nat) (g : Int → Option Int) : List (Int → Option Int) := chL (E.L.map Cn.con) (fun k => E.asked.getD k false) (E.D.drop i) i g
theorem ChE.leaves_end (E : ChE α) (h : E.D.length = E.n) (g : Int → Option Int) : E.leaves E.n g = [g] := by
  rw [leaves, ← h, List.drop_length, chL]
theorem ChE.leaves_skip (E : ChE α) {i : Nat} {g : Int → Option Int} (hi : i < E.D.length) (h : (!E.asked.getD i false || (g i).isSome) = true) : E.leaves i g = E.leaves (i + 1) g := by
  rw [leaves, List.drop_eq_getElem_cons hi, chL, if_pos h]; rfl
theorem ChE.leaves_at (E : ChE α) {i : Nat} {g : Int → Option Int} (hi : i < E.D.length) (h : ¬ (!E.asked.getD i false || (g i).isSome) = true) : E.leaves i g = (E.D.getD i []).flatMap fun x => if (E.L.map Cn.con).all (fun c => stillG c (updG g i x)) then E.leaves (i + 1) (updG g i x) else [] := by
  rw [leaves, List.drop_eq_getElem_cons hi, chL, if_neg h, getD_lt [] hi]; rfl
theorem gOf_nat {now : List Int} {set : List Bool} (i : Nat) : (gOf now set i).isSome = set.getD i false := by
  rw [gOf_some (by omega), Int.toNat_natCast]
theorem gOf_set {now : List Int} {set : List Bool} {i : Nat} (hi : i < now.length) (hs : i < set.length) (x : Int) : gOf (now.set i x) (set.set i true) = updG (gOf now set) i x := by
  funext v
  by_cases hv : v = i
  · subst hv
    rw [updG_same, gOf, if_pos ⟨by omega, by rw [Int.toNat_natCast, List.getD_eq_getElem?_getD, List.getElem?_set_self hs]; rfl⟩, asg, Int.toNat_natCast, List.getD_eq_getElem?_getD, List.getElem?_set_self hi]; rfl
  · rw [updG_other _ _ hv, gOf, gOf]
    by_cases h0 : 0 ≤ v
    · have hne : i ≠ v.toNat := by omega
      have e1 : (set.set i true).getD v.toNat false = set.getD v.toNat false := by
        rw [List.getD_eq_getElem?_getD, List.getD_eq_getElem?_getD, List.getElem?_set_ne hne]
      have e2 : asg (now.set i x) v = asg now v := by
        rw [asg, asg, List.getD_eq_getElem?_getD, List.getD_eq_getElem?_getD, List.getElem?_set_ne hne]
      rw [e1, e2]
    · rw [if_neg (by omega), if_neg (by omega)]
theorem gOf_unset {now : List Int} {set : List Bool} {i : Nat} {g : Int → Option Int} {x : Int} (hs : set.getD i false = false) (hg : g i = none) (h : gOf now (set.set i true) = updG g i x) : gOf now set = g := by
  funext v
  by_cases hv : v = i
  · subst hv
    rw [hg, gOf, if_neg]
    rw [Int.toNat_natCast, hs]; simp
  · have h1 := congrFun h v
    rw [updG_other _ _ hv] at h1
    rw [← h1, gOf, gOf]
    by_cases h0 : 0 ≤ v
    · have hne : i ≠ v.toNat := by omega
      rw [List.getD_eq_getElem?_getD (l := set.set i true), List.getElem?_set_ne hne, ← List.getD_eq_getElem?_getD]
    · rw [if_neg (by omega), if_neg (by omega)]
theorem set_back {set : List Bool} {i : Nat} (hs : i < set.length) (h : set.getD i false = false) : (set.set i true).set i false = set := by
  rw [List.set_set]
  apply List.ext_getElem?
  intro k
  by_cases hk : i = k
  · subst hk
    rw [List.getElem?_set_self hs, getD_lt' hs, h]
  · rw [List.getElem?_set_ne hk]

/-- What Choose says. -/
def RetCh (E : ChE α) (i : Nat) (a : α) (now : List Int) (set : List Bool) (e : Ending) (w' : World) : Prop :=
  ∃ now', e = .returned (.bool (feedS E.step a (E.leaves i (gOf now set))).2) ∧ E.st (feedS E.step a (E.leaves i (gOf now set))).1 w' ∧ ChW E w' now' set ∧ gOf now' set = gOf now set
def ChE.args (E : ChE α) (i : Nat) : Array Value := #[.slice E.dp E.D.length E.dc, .slice E.lp E.L.length E.lc, .slice E.ap E.n E.ac, .slice (some ⟨E.bS, 0, none⟩) E.n E.n, .int .i64 i, .slice (some ⟨E.bN, 0, none⟩) E.n E.n, .func (.func E.f) #[] E.cap]
def ChE.upto (E : ChE α) (r : Nat) : Prop := ∀ (i : Nat) (a : α) (w : World) (now : List Int) (set : List Bool), i ≤ E.n → E.n - i < r → E.live a → E.st a w → ChW E w now set → (∀ k, k < i → E.asked.getD k false = true → set.getD k false = true) → Calls Try.prog 37 (E.args i) w (RetCh E i a now set)
end Go.Proofs.Ytbapmokbkjmdcaa
