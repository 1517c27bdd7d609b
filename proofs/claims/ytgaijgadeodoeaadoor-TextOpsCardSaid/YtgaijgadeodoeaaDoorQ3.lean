/-
  hornref.Ops
-/
import Derived.Test.YtgaijgadeodoeaaDoorQ2
import Derived.Test.YtgaijgadeodoeaaDoorM
import Derived.Deep.QuietTactic
import Derived.BigQuiet
import Derived.Lib.Hide
import Derived.Deep.LoopGhost
import Derived.Deep.CutRange
import Derived.Deep.Light
namespace Go.Proofs.YtgaijgadeodoeaaDoor
open Go.RowKit

/-- What is wrong with one by its numbers; by its name. -/
def badOp1 (x : Opv) : Bool := decide (100 < x.s.size) || decide (x.p < 1) || decide (1200 < x.p) || decide (x.t < 1) || decide (5 < x.t)
def badOp2 (x : Opv) : Bool := decide (x.s.toList = [44]) || decide (x.s.toList = [124]) || decide (x.s.toList = [91, 93]) || decide (x.s.toList = [123, 125])
theorem badOp_eq (x : Opv) : badOp x = (badOp1 x || badOp2 x) := by simp only [badOp, badOp1, badOp2, Bool.or_assoc]

theorem cells3 (w : World) (a b c : Value) (t : TypeId) : (w.alloc (.cells #[a, b, c] t)).cell? ⟨w.heap.size, 0, none⟩ = some a ∧ (w.alloc (.cells #[a, b, c] t)).cell? ⟨w.heap.size, 1, none⟩ = some b ∧ (w.alloc (.cells #[a, b, c] t)).cell? ⟨w.heap.size, 2, none⟩ = some c := by
  refine ⟨?_, ?_, ?_⟩ <;> (rw [World.cell?_alloc_at _ _ _ _ rfl]; rfl)

set_option maxHeartbeats 1000000 in
set_option maxRecDepth 100000 in
theorem ops_calls (p : Option Addr) (c : Nat) (l : List Opv) (w : World) (hx : (Opvs.mk p c l).In w) :
    Calls Tryd.prog 9 #[.slice p l.length c] w fun e w' => e = .returned (.int .i64 (opsErr l)) ∧ Gr w w' := by
  have HX := Lib.hid hx
  obtain ⟨hlc, ⟨hl64, hc⟩, _, _⟩ := hx
  simp only at hlc hl64 hc
  have e0 : decide (200 < l.length) = badTo l 0 := by rw [badTo]
  go_enter Tryd.func9, Tryd.ntmps9
  try simp only [List.append_eq, List.cons_append, List.nil_append]
  go_wp2_with fail
  go_loopg [3, 4] l.length (fun m b i wr => ∃ k : Nat, k ≤ l.length ∧ m = l.length - k ∧ i = .int .i64 k ∧ b = .bool (badTo l k) ∧ Gr w wr)
  case atStart => exact ⟨0, Nat.zero_le _, rfl, rfl, by rw [← e0]; simp; omega, by go_grown⟩
  case round =>
    obtain ⟨k, hk, rfl, rfl, rfl, gr⟩ := hrel
    clear e0
    by_cases hlt : k < l.length
    · obtain ⟨b, o, rfl⟩ := HX.out.ptr (by omega)
      obtain ⟨⟨c0, c1, c2⟩, hs, hp, ht, hbl⟩ := (HX.out.mono gr).elem k hlt
      have gsz := gr.size
      generalize hye : l[k] = y at *
      generalize hq : badTo l k = q
      go_upto_region 6 with fail
      go_cut [3] from 10 to 95 (fun b wx => b = .bool (q || badOp1 y) ∧ Gr w wx ∧ wx.cell? ⟨wr.heap.size, 0, none⟩ = some (.string y.s) ∧ wx.cell? ⟨wr.heap.size, 1, none⟩ = some (.int .i64 y.p) ∧ wx.cell? ⟨wr.heap.size, 2, none⟩ = some (.int .i64 y.t))
      case first =>
        cases q with
        | true =>
          go_wp2_with fail
          go_meet
          exact ⟨by rw [Bool.true_or], by go_grown, cells3 _ _ _ _ _⟩
        | false =>
          go_wp2_with fail
          all_goals go_meet
          all_goals refine ⟨congrArg Value.bool ?_, by go_grown, cells3 _ _ _ _ _⟩
          all_goals go_light
          all_goals rw [Bool.eq_iff_iff]
          all_goals simp only [badOp1, Bool.false_or, Bool.or_eq_true, decide_eq_true_eq, true_iff]
          all_goals omega
      case rest =>
        obtain ⟨rfl, g1, d0, d1, d2⟩ := hcut
        generalize hq1 : (q || badOp1 y) = q1
        go_upto_region 7 with fail
        go_cut [3] from 10 to 95 (fun b wx => b = .bool (q1 || badOp2 y) ∧ Gr w wx ∧ wx.cell? ⟨wr.heap.size, 0, none⟩ = some (.string y.s) ∧ wx.cell? ⟨wr.heap.size, 1, none⟩ = some (.int .i64 y.p) ∧ wx.cell? ⟨wr.heap.size, 2, none⟩ = some (.int .i64 y.t))
        case first =>
          cases q1 with
          | true =>
            go_wp2_with fail
            go_meet
            exact ⟨by rw [Bool.true_or], by go_grown, d0, d1, d2⟩
          | false =>
            go_wp2_with fail
            all_goals go_meet
            all_goals refine ⟨congrArg Value.bool ?_, by go_grown, d0, d1, d2⟩
            all_goals go_light
            all_goals rw [Bool.eq_iff_iff]
            all_goals simp [badOp2, *]
        case rest =>
          obtain ⟨rfl, g2, d0, d1, d2⟩ := hcut
          have hq2 : (q1 || badOp2 y) = (badTo l k || (badOp y || (l.take 0).any (clash · y))) := by
            rw [← hq1, ← hq, badOp_eq, List.take_zero, List.any_nil, Bool.or_false, Bool.or_assoc]
          go_wp2_with fail
          go_loopg [3, 6] k (fun m b i wl => ∃ j : Nat, j ≤ k ∧ m = k - j ∧ i = .int .i64 j ∧ b = .bool (badTo l k || (badOp y || (l.take j).any (clash · y))) ∧ Gr w wl ∧ wl.cell? ⟨wr.heap.size, 0, none⟩ = some (.string y.s) ∧ wl.cell? ⟨wr.heap.size, 2, none⟩ = some (.int .i64 y.t))
          case atStart => exact ⟨0, Nat.zero_le _, rfl, rfl, by rw [hq2], g2, d0, d2⟩
          case round =>
            clear hq2 d0 d1 d2 g2 hq hq1
            obtain ⟨j, hj, rfl, rfl, rfl, g3, d0, d2⟩ := hrel
            by_cases hjk : j < k
            · obtain ⟨⟨z0, z1, z2⟩, zs, zp, zt, zbl⟩ := (HX.out.mono g3).elem j (by omega)
              have hj64 : j < l.length := by omega
              have hnext : Hid (∀ q, (q || (badOp y || (l.take (j + 1)).any (clash · y))) = (q || (badOp y || (l.take j).any (clash · y)) || (decide (l[j].s.toList = y.s.toList) && (decide (l[j].t ≤ 3) == decide (y.t ≤ 3))))) := by
                intro q
                rw [List.take_succ_eq_append_getElem hj64, List.any_append, List.any_cons, List.any_nil, Bool.or_false, clash, Bool.or_assoc, Bool.or_assoc]
              clear z1 zp hye
              generalize l[j] = z at *
              generalize hv : (badTo l k || (badOp y || (l.take j).any (clash · y))) = v at *
              have hnx := hnext.out (badTo l k)
              rw [hv] at hnx
              have Hnx := Lib.hid hnx
              clear hnx hnext hv
              cases v with
              | true =>
                go_wp2_with fail
                go_quiet (fail)
                go_wp2_with fail
                go_roundg (k - (j + 1))
                case measure => omega
                case rel => exact ⟨j + 1, by omega, rfl, by go_num, by rw [Hnx.out]; rfl, g3.drewN _, d0, d2⟩
              | false =>
                by_cases hn : z.s.toList = y.s.toList
                · have hn1 : decide (z.s.toList = y.s.toList) = true := decide_eq_true hn
                  have hn2 : (z.s.toList == y.s.toList) = true := by simp [hn]
                  have Hnx1 : Hid (_ = _) := Hnx.out.trans (by rw [hn1])
                  clear hn
                  go_wp2_with fail
                  go_quiet (fail)
                  go_wp2_with fail
                  go_roundg (k - (j + 1))
                  case measure => omega
                  case rel => exact ⟨j + 1, by omega, rfl, by go_num, by rw [Hnx1.out]; rfl, g3.drewN _, d0, d2⟩
                · have hn1 : decide (z.s.toList = y.s.toList) = false := decide_eq_false hn
                  have hn2 : (z.s.toList == y.s.toList) = false := by simp [hn]
                  have Hnx1 : Hid (_ = _) := Hnx.out.trans (by rw [hn1])
                  go_wp2_with fail
                  go_quiet (fail)
                  go_wp2_with fail
                  go_roundg (k - (j + 1))
                  case measure => omega
                  case rel => exact ⟨j + 1, by omega, rfl, by go_num, by rw [Hnx1.out]; rfl, g3.drewN _, d0, d2⟩
            · obtain rfl : j = k := by omega
              have hE := badTo_succ l j hlt
              rw [hye] at hE
              have HE := Lib.hid hE
              clear hE hye
              go_wp2_with fail
              go_roundg (l.length - (j + 1))
              case measure => omega
              case rel => exact ⟨j + 1, by omega, rfl, by go_num, by rw [HE.out], g3⟩
    · obtain rfl : k = l.length := by omega
      cases hb : badTo l l.length with
      | true =>
        have HB := Lib.hid (opsErr_true hb)
        go_wp2_with fail
        go_ret
        exact ⟨by rw [HB.out]; rfl, gr⟩
      | false =>
        have HB := Lib.hid (opsErr_false hb)
        go_wp2_with fail
        go_ret
        exact ⟨by rw [HB.out]; rfl, gr⟩
end Go.Proofs.YtgaijgadeodoeaaDoor
