/-
  machine.formed
-/
import Derived.Test.YtgaijgadeodoeaaDoorU6
import Derived.Deep.QuietTactic
import Derived.BigQuiet
namespace Go.Proofs.YtgaijgadeodoeaaDoor
open Go.RowKit

theorem insOk_row {x : Ins} {size : Int} {p q r : UInt8} (h : rowOf x.op = [p, q, r]) : insOk x size = (numOk p x.a size && numOk q x.b size && conOk r x.c) := by rw [insOk, h]
theorem insOk_none {x : Ins} {size : Int} (h : rowOf x.op = []) : insOk x size = false := by rw [insOk, h]

theorem cells6 (w : World) (a b c d e f : Value) (t : TypeId) : (w.alloc (.cells #[a, b, c, d, e, f] t)).cell? ⟨w.heap.size, 0, none⟩ = some a ∧ (w.alloc (.cells #[a, b, c, d, e, f] t)).cell? ⟨w.heap.size, 1, none⟩ = some b ∧ (w.alloc (.cells #[a, b, c, d, e, f] t)).cell? ⟨w.heap.size, 2, none⟩ = some c ∧
    (w.alloc (.cells #[a, b, c, d, e, f] t)).cell? ⟨w.heap.size, 3, none⟩ = some d ∧ (w.alloc (.cells #[a, b, c, d, e, f] t)).cell? ⟨w.heap.size, 4, none⟩ = some e ∧ (w.alloc (.cells #[a, b, c, d, e, f] t)).cell? ⟨w.heap.size, 5, none⟩ = some f := by
  refine ⟨?_, ?_, ?_, ?_, ?_, ?_⟩ <;> (rw [World.cell?_alloc_at _ _ _ _ rfl]; rfl)

set_option maxHeartbeats 1000000 in
set_option maxRecDepth 100000 in
theorem iformed_calls (x : Ins) (size : Int) (w : World) : Calls Tryd.prog 29 #[x.val, .int .i64 size] w (Ret (.bool (insOk x size)) w) := by
  have hR : Hid (∀ b, insOk x size = b → ∀ w', Gr w w' → Ret (.bool (insOk x size)) w (.returned (.bool b)) w') := fun b hb w' hg => ⟨by rw [hb], hg⟩
  have hen : ∀ args w, (callFunc 49 args).run Tryd.prog w = .ok (.enter 49 args) w := fun args w => by kernel_rfl
  have hN := Lib.hid (insOk_none (x := x) (size := size))
  have hS := Lib.hid (fun p q r => insOk_row (x := x) (size := size) (p := p) (q := q) (r := r))
  generalize hQ : Ret (.bool (insOk x size)) w = Q at hR ⊢
  clear hQ
  generalize insOk x size = v at *
  have hsh := rowOf_shape x.op
  have hB : Hid (rowB x.op = ⟨(rowOf x.op).toArray⟩) := rfl
  obtain ⟨op, a, b, k, s, n⟩ := x
  simp only [Ins.val] at *
  go_enter Tryd.func29, Tryd.ntmps29
  try simp only [List.append_eq, List.cons_append, List.nil_append]
  go_upto_region 1 with fail
  obtain ⟨c0, c1, c2, c3, c4, c5⟩ := cells6 w (.int .i64 op) (.int .i64 a) (.int .i64 b) (.int .i64 k) (.string s) (.int .i64 n) 63
  have gA : Gr w (w.alloc (.cells #[.int .i64 op, .int .i64 a, .int .i64 b, .int .i64 k, .string s, .int .i64 n] 63)) := by go_grown
  have HSZ : (w.alloc (.cells #[.int .i64 op, .int .i64 a, .int .i64 b, .int .i64 k, .string s, .int .i64 n] 63)).heap.size = w.heap.size + 1 := by simp
  generalize w.alloc (.cells #[.int .i64 op, .int .i64 a, .int .i64 b, .int .i64 k, .string s, .int .i64 n] 63) = wA at *
  have gB : Gr wA (wA.alloc (.cells #[.int .i64 size] 3)) := by go_grown
  have hsz : wA.heap.size = w.heap.size + 1 := by
    have := HSZ
    omega
  have cs : (wA.alloc (.cells #[.int .i64 size] 3)).cell? ⟨w.heap.size + 1, 0, none⟩ = some (.int .i64 size) := by rw [← hsz, World.cell?_alloc_at _ _ _ _ rfl]; rfl
  replace c0 := gB.at c0
  replace c1 := gB.at c1
  replace c2 := gB.at c2
  replace c3 := gB.at c3
  replace c4 := gB.at c4
  replace c5 := gB.at c5
  have g := gA.trans gB
  clear gA gB hsz HSZ
  generalize wA.alloc (.cells #[.int .i64 size] 3) = wB at *
  rcases hsh with hrow | ⟨p, q, r, hrow, hp, hq, hr⟩
  · have hv := Lib.hid (hN.out hrow)
    have hb := Lib.hid (hB.out.trans (by rw [hrow]))
    clear hrow
    go_wp2_with (first | (go_at_call 48; refine (fields_calls _ _).mono ?_; rintro e w' ⟨rfl, hw⟩; rewrite [hw, hb.out]; clear hw w') | fail)
    exact hR.out _ hv.out _ g
  · have hv := Lib.hid (hS.out p q r hrow)
    have hb := Lib.hid (hB.out.trans (by rw [hrow]))
    clear hrow
    have e0 : ∀ h, (ByteArray.mk #[p, q, r])[0]'h = p := fun _ => rfl
    have e1 : ∀ h, (ByteArray.mk #[p, q, r])[1]'h = q := fun _ => rfl
    have e2 : ∀ h, (ByteArray.mk #[p, q, r])[2]'h = r := fun _ => rfl
    cases h1 : numOk p a size with
    | false =>
      have hv1 := Lib.hid (hv.out.trans (show _ = false by rw [h1]; simp))
      go_wp2_with (first | (go_at_call 48; refine (fields_calls _ _).mono ?_; rintro e w' ⟨rfl, hw⟩; rewrite [hw, hb.out]; clear hw w') | fail)
      go_quiet (exact Calls.quiet_of_same (number_calls _ _ size _ _ (by assumption) cs))
      go_wp2_with fail
      exact hR.out _ hv1.out _ (g.drewN _)
    | true =>
      cases h2 : numOk q b size with
      | false =>
        have hv1 := Lib.hid (hv.out.trans (show _ = false by rw [h1, h2]; simp))
        go_wp2_with (first | (go_at_call 48; refine (fields_calls _ _).mono ?_; rintro e w' ⟨rfl, hw⟩; rewrite [hw, hb.out]; clear hw w') | fail)
        go_quiet (exact Calls.quiet_of_same (number_calls _ _ size _ _ (by assumption) cs))
        go_wp2_with fail
        exact hR.out _ hv1.out _ (g.drewN _)
      | true =>
        have hv1 := Lib.hid (hv.out.trans (show _ = conOk r ⟨k, s, n⟩ by rw [h1, h2]; simp))
        have hR2 : Hid (∀ b, conOk r ⟨k, s, n⟩ = b → ∀ w', Gr w w' → Q (.returned (.bool b)) w') := fun b hb => hR.out b (hv1.out.trans hb)
        clear hv hv1 hR hN hS hB
        go_wp2_with (first | (go_at_call 48; refine (fields_calls _ _).mono ?_; rintro e w' ⟨rfl, hw⟩; rewrite [hw, hb.out]; clear hw w') | fail)
        go_quiet (exact Calls.quiet_of_same (number_calls _ _ size _ _ (by assumption) cs))
        generalize hwq : wB.drewN _ = wq
        have gq : Gr w wq := by rw [← hwq]; exact g.drewN _
        replace c3 : wq.cell? ⟨w.heap.size, 3, none⟩ = some (.int .i64 k) := by rw [← hwq]; exact c3
        replace c4 : wq.cell? ⟨w.heap.size, 4, none⟩ = some (.string s) := by rw [← hwq]; exact c4
        replace c5 : wq.cell? ⟨w.heap.size, 5, none⟩ = some (.int .i64 n) := by rw [← hwq]; exact c5
        clear hwq c0 c1 c2 cs h1 h2 g e0 e1
        have hcn := Lib.hid (show (⟨k, s, n⟩ : Cn).val = .agg #[.int .i64 k, .string s, .int .i64 n] from rfl)
        simp only [List.mem_cons, List.mem_nil_iff, or_false] at hr
        rcases hr with rfl | rfl | rfl | rfl | rfl
        · by_cases hk0 : k = 0
          · subst hk0
            cases he : s.toList.isEmpty with
            | true =>
              by_cases hn : n = 0
              · subst hn
                have hv := Lib.hid (show conOk 45 ⟨0, s, 0⟩ = true by simp [conOk, List.isEmpty_iff.1 he])
                go_wp2_with fail
                exact hR2.out _ hv.out _ gq
              · have hn2 : (n == 0) = false := by simpa using hn
                have hv := Lib.hid (show conOk 45 ⟨0, s, n⟩ = false by simp [conOk, hn])
                go_wp2_with fail
                exact hR2.out _ hv.out _ gq
            | false =>
              have he2 : ¬ s.toList = [] := fun e => by rw [e] at he; cases he
              have hv := Lib.hid (show conOk 45 ⟨0, s, n⟩ = false by simp [conOk, he2])
              go_wp2_with fail
              exact hR2.out _ hv.out _ gq
          · have hk00 : (k == 0) = false := by simpa using hk0
            have hv := Lib.hid (show conOk 45 ⟨k, s, n⟩ = false by simp [conOk, hk0])
            go_wp2_with fail
            exact hR2.out _ hv.out _ gq
        · go_wp2_with (first | (go_at_call 50; refine (constant_calls ⟨k, s, n⟩ _).mono ?_; rintro e w' ⟨rfl, hb⟩) | fail)
          exact hR2.out _ rfl _ (gq.trans hb)
        · go_wp2_with (first | (go_at_call 51; refine (counted_calls ⟨k, s, n⟩ 1 _).mono ?_; rintro e w' ⟨rfl, hb⟩) | fail)
          exact hR2.out _ rfl _ (gq.trans hb)
        · go_wp2_with (first | (go_at_call 51; refine (counted_calls ⟨k, s, n⟩ 0 _).mono ?_; rintro e w' ⟨rfl, hb⟩) | fail)
          exact hR2.out _ rfl _ (gq.trans hb)
        · have hk : conOk 98 ⟨k, s, n⟩ = (counted ⟨k, s, n⟩ 0 && allowed s.toList n) := rfl
          cases hc : counted ⟨k, s, n⟩ 0 with
          | false =>
            have hv := Lib.hid (show conOk 98 ⟨k, s, n⟩ = false by rw [hk, hc]; rfl)
            have hc' := Lib.hid hc
            clear hk hc
            go_wp2_with (first | (go_at_call 51; refine (counted_calls ⟨k, s, n⟩ 0 _).mono ?_; rintro e w' ⟨rfl, hb⟩; rewrite [hc'.out]) | fail)
            exact hR2.out _ hv.out _ (gq.trans hb)
          | true =>
            have hv := Lib.hid (show conOk 98 ⟨k, s, n⟩ = allowed s.toList n by rw [hk, hc]; rfl)
            have hc' := Lib.hid hc
            clear hk hc
            go_wp2_with (first | (go_at_call 51; go_loud (refine (counted_calls ⟨k, s, n⟩ 0 _).mono ?_; rintro e w' ⟨rfl, hb⟩; rewrite [hc'.out]; have d3 := Gr.at hb c3; have d4 := Gr.at hb c4; have d5 := Gr.at hb c5; clear c3 c4 c5)) | (go_at_call 12; go_loud (refine (allowed_calls s n _).mono ?_; rintro e w' ⟨rfl, hb2⟩)) | fail)
            exact hR2.out _ hv.out _ ((gq.trans hb).trans hb2)
end Go.Proofs.YtgaijgadeodoeaaDoor
