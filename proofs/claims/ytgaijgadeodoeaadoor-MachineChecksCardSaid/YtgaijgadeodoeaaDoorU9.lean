/-
  hornref.Instr
-/
import Derived.Test.YtgaijgadeodoeaaDoorU7
import Derived.Test.YtgaijgadeodoeaaDoorU8
import Derived.StillTailTactics
namespace Go.Proofs.YtgaijgadeodoeaaDoor
open Go.RowKit

def rowsB : List ByteArray := [⟨#[]⟩, ⟨#[97, 115, 45]⟩, ⟨#[97, 115, 45]⟩, ⟨#[97, 45, 107]⟩, ⟨#[97, 45, 99]⟩, ⟨#[115, 45, 45]⟩, ⟨#[115, 45, 45]⟩, ⟨#[45, 45, 107]⟩, ⟨#[45, 45, 99]⟩, ⟨#[110, 45, 45]⟩, ⟨#[97, 115, 45]⟩, ⟨#[97, 115, 45]⟩, ⟨#[97, 45, 107]⟩, ⟨#[97, 45, 99]⟩, ⟨#[45, 45, 113]⟩, ⟨#[45, 45, 113]⟩, ⟨#[45, 45, 45]⟩, ⟨#[45, 45, 45]⟩, ⟨#[112, 45, 45]⟩, ⟨#[112, 45, 45]⟩, ⟨#[115, 45, 45]⟩, ⟨#[115, 45, 45]⟩, ⟨#[115, 45, 45]⟩, ⟨#[45, 45, 98]⟩, ⟨#[112, 45, 107]⟩, ⟨#[112, 45, 99]⟩]
theorem rowsB_map : rowsB = insRows.map (fun l => (⟨l.toArray⟩ : ByteArray)) := rfl

theorem rowOf_three {j : Nat} (h0 : 1 ≤ j) (h1 : j < 26) : ∃ p q r, rowOf (j : Int) = [p, q, r] ∧ rowsB[j]? = some ⟨#[p, q, r]⟩ ∧ p ∈ ([45, 97, 110, 112, 115] : List UInt8) ∧ q ∈ ([45, 97, 110, 112, 115] : List UInt8) ∧ r ∈ ([45, 107, 99, 113, 98] : List UInt8) := by
  have hall : (insRows.drop 1).all (fun l => decide (l.length = 3)) = true := by decide
  have hlen : insRows.length = 26 := rfl
  have hx : j < insRows.length := by omega
  have e : rowOf (j : Int) = insRows[j] := by rw [rowOf, if_pos ⟨by omega, by omega⟩, Int.toNat_natCast, List.getD, List.getElem?_eq_getElem hx]; rfl
  have hb : rowsB[j]? = some ⟨(rowOf (j : Int)).toArray⟩ := by rw [rowsB_map, List.getElem?_map, List.getElem?_eq_getElem hx, e]; rfl
  rcases rowOf_shape (j : Int) with h | ⟨p, q, r, h, hp, hq, hr⟩
  · exfalso
    have h2 := List.all_eq_true.1 hall insRows[j] (by
      rw [List.mem_iff_getElem?]
      exact ⟨j - 1, by rw [List.getElem?_drop, show 1 + (j - 1) = j by omega, List.getElem?_eq_getElem hx]⟩)
    rw [← e, h] at h2
    simp at h2
  · exact ⟨p, q, r, h, by rw [hb, h], hp, hq, hr⟩

theorem cells2 (w : World) (a b : Value) (t : TypeId) : (w.alloc (.cells #[a, b] t)).cell? ⟨w.heap.size, 0, none⟩ = some a ∧ (w.alloc (.cells #[a, b] t)).cell? ⟨w.heap.size, 1, none⟩ = some b := by
  refine ⟨?_, ?_⟩ <;> (rw [World.cell?_alloc_at _ _ _ _ rfl]; rfl)

set_option maxHeartbeats 2000000 in
set_option maxRecDepth 100000 in
theorem instr_calls (x : Ins) (size : Int) (hsz : 0 ≤ size ∧ size ≤ 4611686018427387904) (w : World) (m : Int) (hm : w.cell? ⟨0, 0, none⟩ = some (.int .i64 m)) : Calls Tryd.prog 30 #[x.val, .int .i64 size] w (Ret (.bool (insOk x size)) w) := by
  have hR : Hid (∀ b, insOk x size = b → ∀ w', Gr w w' → Ret (.bool (insOk x size)) w (.returned (.bool b)) w') := fun b hb w' hg => ⟨by rw [hb], hg⟩
  generalize hQ : Ret (.bool (insOk x size)) w = Q at hR ⊢
  clear hQ
  have hN := Lib.hid (insOk_none (x := x) (size := size))
  have hS := Lib.hid (fun p q r => insOk_row (x := x) (size := size) (p := p) (q := q) (r := r))
  generalize insOk x size = v at *
  obtain ⟨op, a, b, k, s, n⟩ := x
  simp only [Ins.val] at *
  have hw1 : IntKind.i64.wrap (size - 1) = size - 1 := IntWalk.i64_in _ (by omega)
  go_enter Tryd.func30, Tryd.ntmps30
  try simp only [List.append_eq, List.cons_append, List.nil_append]
  go_upto_region 1 with fail
  obtain ⟨c0, c1, c2, c3, c4, c5⟩ := cells6 w (.int .i64 op) (.int .i64 a) (.int .i64 b) (.int .i64 k) (.string s) (.int .i64 n) 63
  have gA : Gr w (w.alloc (.cells #[.int .i64 op, .int .i64 a, .int .i64 b, .int .i64 k, .string s, .int .i64 n] 63)) := by go_grown
  generalize w.alloc (.cells #[.int .i64 op, .int .i64 a, .int .i64 b, .int .i64 k, .string s, .int .i64 n] 63) = wA at *
  go_upto_region 2 with fail
  have hrow := strs_new wA 9 rowsB
  have gB : Gr wA (wA.alloc (.cells (rowsB.map Value.string).toArray 9)) := by go_grown
  change Code.wp _ _ _ _ (wA.alloc (.cells (rowsB.map Value.string).toArray 9))
  replace c0 := Gr.at gB c0
  replace c1 := Gr.at gB c1
  replace c2 := Gr.at gB c2
  replace c3 := Gr.at gB c3
  replace c4 := Gr.at gB c4
  replace c5 := Gr.at gB c5
  have g := gA.trans gB
  clear gA gB
  generalize wA.alloc (.cells (rowsB.map Value.string).toArray 9) = wB at *
  by_cases hlow : op < 1
  · have hv := Lib.hid (hN.out (rowOf_out (by omega)))
    clear hrow
    go_wp2_with fail
    exact hR.out _ hv.out _ g
  by_cases hhigh : 26 ≤ op
  · have hv := Lib.hid (hN.out (rowOf_out (by omega)))
    clear hrow
    go_wp2_with fail
    exact hR.out _ hv.out _ g
  obtain ⟨j, rfl⟩ : ∃ j : Nat, op = (j : Int) := ⟨op.toNat, by omega⟩
  obtain ⟨p, q, r, hro, hbo, hp, hq, hr⟩ := rowOf_three (j := j) (by omega) (by omega)
  have crow := hrow j _ hbo
  have hv := Lib.hid (hS.out p q r hro)
  clear hrow hbo hro hN hS
  have e0 : ∀ h, (ByteArray.mk #[p, q, r])[0]'h = p := fun _ => rfl
  have e1 : ∀ h, (ByteArray.mk #[p, q, r])[1]'h = q := fun _ => rfl
  have e2 : ∀ h, (ByteArray.mk #[p, q, r])[2]'h = r := fun _ => rfl
  go_upto_region 6 with fail
  obtain ⟨d0, d1⟩ := cells2 wB (.int .i64 a) (.int .i64 b) 3
  have gC : Gr wB (wB.alloc (.cells #[.int .i64 a, .int .i64 b] 3)) := by go_grown
  replace c3 := Gr.at gC c3
  replace c4 := Gr.at gC c4
  replace c5 := Gr.at gC c5
  have g2 := g.trans gC
  have HM := Lib.hid (Gr.at g2 hm)
  clear gC g c0 c1 c2 crow hm
  generalize wB.alloc (.cells #[.int .i64 a, .int .i64 b] 3) = wC at *
  go_wp2_with fail
  go_loopg [8] 2 (fun n i wr => ∃ t : Nat, t ≤ 2 ∧ n = 2 - t ∧ i = .int .i64 t ∧ wr = wC ∧ Hid (0 < t → numOk p a size = true) ∧ Hid (1 < t → numOk q b size = true))
  case atStart => exact ⟨0, Nat.zero_le _, rfl, rfl, rfl, fun h => by omega, fun h => by omega⟩
  case round =>
    obtain ⟨t, ht, rfl, rfl, rfl, ok1, ok2⟩ := hrel
    have hts : t = 0 ∨ t = 1 ∨ t = 2 := by omega
    rcases hts with rfl | rfl | rfl
    · simp only [List.mem_cons, List.mem_nil_iff, or_false] at hp
      rcases hp with rfl | rfl | rfl | rfl | rfl
      · by_cases hlo : a < 0
        · have hv1 := Lib.hid (hv.out.trans (show _ = false by rw [show numOk 45 a size = false by simp [numOk]; omega]; rfl))
          go_wp2_with fail
          exact hR.out _ hv1.out _ g2
        by_cases hhi : 0 < a
        · have hv1 := Lib.hid (hv.out.trans (show _ = false by rw [show numOk 45 a size = false by simp [numOk]; omega]; rfl))
          go_wp2_with fail
          exact hR.out _ hv1.out _ g2
        have ok : Hid (numOk 45 a size = true) := by show _ = true; simp [numOk]; omega
        go_wp2_with fail
        go_roundg 1
        case measure => omega
        case rel => exact ⟨1, by omega, rfl, by go_num, rfl, fun _ => ok.out, fun h => by omega⟩
      · by_cases hlo : a < 0
        · have hv1 := Lib.hid (hv.out.trans (show _ = false by rw [show numOk 97 a size = false by simp [numOk]; omega]; rfl))
          go_wp2_with fail
          exact hR.out _ hv1.out _ g2
        by_cases hhi : 49 < a
        · have hv1 := Lib.hid (hv.out.trans (show _ = false by rw [show numOk 97 a size = false by simp [numOk]; omega]; rfl))
          go_wp2_with fail
          exact hR.out _ hv1.out _ g2
        have ok : Hid (numOk 97 a size = true) := by show _ = true; simp [numOk]; omega
        go_wp2_with fail
        go_roundg 1
        case measure => omega
        case rel => exact ⟨1, by omega, rfl, by go_num, rfl, fun _ => ok.out, fun h => by omega⟩
      · by_cases hlo : a < 1
        · have hv1 := Lib.hid (hv.out.trans (show _ = false by rw [show numOk 110 a size = false by simp [numOk]; omega]; rfl))
          go_wp2_with fail
          exact hR.out _ hv1.out _ g2
        by_cases hhi : 50 < a
        · have hv1 := Lib.hid (hv.out.trans (show _ = false by rw [show numOk 110 a size = false by simp [numOk]; omega]; rfl))
          go_wp2_with fail
          exact hR.out _ hv1.out _ g2
        have ok : Hid (numOk 110 a size = true) := by show _ = true; simp [numOk]; omega
        go_wp2_with fail
        go_roundg 1
        case measure => omega
        case rel => exact ⟨1, by omega, rfl, by go_num, rfl, fun _ => ok.out, fun h => by omega⟩
      · by_cases hlo : a < 0
        · have hv1 := Lib.hid (hv.out.trans (show _ = false by rw [show numOk 112 a size = false by simp [numOk]; omega]; rfl))
          go_wp2_with fail
          exact hR.out _ hv1.out _ g2
        by_cases hhi : size - 1 < a
        · have hv1 := Lib.hid (hv.out.trans (show _ = false by rw [show numOk 112 a size = false by simp [numOk]; omega]; rfl))
          go_wp2_with fail
          exact hR.out _ hv1.out _ g2
        have ok : Hid (numOk 112 a size = true) := by show _ = true; simp [numOk]; omega
        go_wp2_with fail
        go_roundg 1
        case measure => omega
        case rel => exact ⟨1, by omega, rfl, by go_num, rfl, fun _ => ok.out, fun h => by omega⟩
      · by_cases hlo : a < 0
        · have hv1 := Lib.hid (hv.out.trans (show _ = false by rw [show numOk 115 a size = false by simp [numOk]; omega]; rfl))
          go_wp2_with fail
          exact hR.out _ hv1.out _ g2
        by_cases hhi : 199 < a
        · have hv1 := Lib.hid (hv.out.trans (show _ = false by rw [show numOk 115 a size = false by simp [numOk]; omega]; rfl))
          go_wp2_with fail
          exact hR.out _ hv1.out _ g2
        have ok : Hid (numOk 115 a size = true) := by show _ = true; simp [numOk]; omega
        go_wp2_with fail
        go_roundg 1
        case measure => omega
        case rel => exact ⟨1, by omega, rfl, by go_num, rfl, fun _ => ok.out, fun h => by omega⟩
    · simp only [List.mem_cons, List.mem_nil_iff, or_false] at hq
      rcases hq with rfl | rfl | rfl | rfl | rfl
      · by_cases hlo : b < 0
        · have hv1 := Lib.hid (hv.out.trans (show _ = false by rw [show numOk 45 b size = false by simp [numOk]; omega]; simp))
          go_wp2_with fail
          exact hR.out _ hv1.out _ g2
        by_cases hhi : 0 < b
        · have hv1 := Lib.hid (hv.out.trans (show _ = false by rw [show numOk 45 b size = false by simp [numOk]; omega]; simp))
          go_wp2_with fail
          exact hR.out _ hv1.out _ g2
        have ok : Hid (numOk 45 b size = true) := by show _ = true; simp [numOk]; omega
        go_wp2_with fail
        go_roundg 0
        case measure => omega
        case rel => exact ⟨2, by omega, rfl, by go_num, rfl, fun _ => ok1.out (by omega), fun _ => ok.out⟩
      · by_cases hlo : b < 0
        · have hv1 := Lib.hid (hv.out.trans (show _ = false by rw [show numOk 97 b size = false by simp [numOk]; omega]; simp))
          go_wp2_with fail
          exact hR.out _ hv1.out _ g2
        by_cases hhi : 49 < b
        · have hv1 := Lib.hid (hv.out.trans (show _ = false by rw [show numOk 97 b size = false by simp [numOk]; omega]; simp))
          go_wp2_with fail
          exact hR.out _ hv1.out _ g2
        have ok : Hid (numOk 97 b size = true) := by show _ = true; simp [numOk]; omega
        go_wp2_with fail
        go_roundg 0
        case measure => omega
        case rel => exact ⟨2, by omega, rfl, by go_num, rfl, fun _ => ok1.out (by omega), fun _ => ok.out⟩
      · by_cases hlo : b < 1
        · have hv1 := Lib.hid (hv.out.trans (show _ = false by rw [show numOk 110 b size = false by simp [numOk]; omega]; simp))
          go_wp2_with fail
          exact hR.out _ hv1.out _ g2
        by_cases hhi : 50 < b
        · have hv1 := Lib.hid (hv.out.trans (show _ = false by rw [show numOk 110 b size = false by simp [numOk]; omega]; simp))
          go_wp2_with fail
          exact hR.out _ hv1.out _ g2
        have ok : Hid (numOk 110 b size = true) := by show _ = true; simp [numOk]; omega
        go_wp2_with fail
        go_roundg 0
        case measure => omega
        case rel => exact ⟨2, by omega, rfl, by go_num, rfl, fun _ => ok1.out (by omega), fun _ => ok.out⟩
      · by_cases hlo : b < 0
        · have hv1 := Lib.hid (hv.out.trans (show _ = false by rw [show numOk 112 b size = false by simp [numOk]; omega]; simp))
          go_wp2_with fail
          exact hR.out _ hv1.out _ g2
        by_cases hhi : size - 1 < b
        · have hv1 := Lib.hid (hv.out.trans (show _ = false by rw [show numOk 112 b size = false by simp [numOk]; omega]; simp))
          go_wp2_with fail
          exact hR.out _ hv1.out _ g2
        have ok : Hid (numOk 112 b size = true) := by show _ = true; simp [numOk]; omega
        go_wp2_with fail
        go_roundg 0
        case measure => omega
        case rel => exact ⟨2, by omega, rfl, by go_num, rfl, fun _ => ok1.out (by omega), fun _ => ok.out⟩
      · by_cases hlo : b < 0
        · have hv1 := Lib.hid (hv.out.trans (show _ = false by rw [show numOk 115 b size = false by simp [numOk]; omega]; simp))
          go_wp2_with fail
          exact hR.out _ hv1.out _ g2
        by_cases hhi : 199 < b
        · have hv1 := Lib.hid (hv.out.trans (show _ = false by rw [show numOk 115 b size = false by simp [numOk]; omega]; simp))
          go_wp2_with fail
          exact hR.out _ hv1.out _ g2
        have ok : Hid (numOk 115 b size = true) := by show _ = true; simp [numOk]; omega
        go_wp2_with fail
        go_roundg 0
        case measure => omega
        case rel => exact ⟨2, by omega, rfl, by go_num, rfl, fun _ => ok1.out (by omega), fun _ => ok.out⟩
    · have hv1 := Lib.hid (hv.out.trans (show _ = conOk r ⟨k, s, n⟩ by rw [ok1.out (by omega), ok2.out (by omega)]; rfl))
      go_wp2_with fail
      go_still_tail 4, (by kernel_rfl)
      go_wp2_with (first | (go_at_call 52; refine (con_calls ⟨k, s, n⟩ r hr _ m (by exact HM.out)).mono ?_; rintro e w' ⟨rfl, hb⟩) | fail)
      exact hR.out _ hv1.out _ (Gr.trans (show Gr w wr.drew from g2.drewN 1) hb)
end Go.Proofs.YtgaijgadeodoeaaDoor
