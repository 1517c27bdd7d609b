/-
  Which names are reserved: base.Reserved, hornref.Reserved
-/
import Derived.Test.YtgaijgadeodoeaaU1
import Derived.Test.YtgaijgadeodoeaaM
import Derived.Test.YtgaijgadeodoeaaShelf
import Derived.Lib.Hide
import Derived.Deep.LoopGhost
import Derived.Deep.CutRange
namespace Go.Proofs.Ytgaijgadeodoeaa
open Go.RowKit

def blank1 : ByteArray := ⟨#[32]⟩
def proB0 : List ByteArray := [⟨#[116, 114, 117, 101]⟩, ⟨#[102, 97, 105, 108]⟩, ⟨#[33]⟩, ⟨#[110, 108]⟩]
def proB1 : List ByteArray := [⟨#[92, 43]⟩, ⟨#[99, 97, 108, 108]⟩, ⟨#[116, 104, 114, 111, 119]⟩, ⟨#[118, 97, 114]⟩, ⟨#[110, 111, 110, 118, 97, 114]⟩, ⟨#[97, 116, 111, 109]⟩, ⟨#[105, 110, 116, 101, 103, 101, 114]⟩, ⟨#[97, 116, 111, 109, 105, 99]⟩, ⟨#[99, 111, 109, 112, 111, 117, 110, 100]⟩, ⟨#[99, 97, 108, 108, 97, 98, 108, 101]⟩, ⟨#[103, 114, 111, 117, 110, 100]⟩, ⟨#[97, 115, 115, 101, 114, 116, 122]⟩, ⟨#[97, 115, 115, 101, 114, 116, 97]⟩, ⟨#[114, 101, 116, 114, 97, 99, 116]⟩, ⟨#[112, 114, 105, 110, 116]⟩, ⟨#[58, 45]⟩]
def proB2 : List ByteArray := [⟨#[44]⟩, ⟨#[59]⟩, ⟨#[45, 62]⟩, ⟨#[61]⟩, ⟨#[92, 61]⟩, ⟨#[61, 61]⟩, ⟨#[92, 61, 61]⟩, ⟨#[64, 60]⟩, ⟨#[64, 62]⟩, ⟨#[64, 61, 60]⟩, ⟨#[64, 62, 61]⟩, ⟨#[61, 46, 46]⟩, ⟨#[99, 111, 112, 121, 95, 116, 101, 114, 109]⟩, ⟨#[105, 115]⟩, ⟨#[61, 58, 61]⟩, ⟨#[61, 92, 61]⟩, ⟨#[60]⟩, ⟨#[62]⟩, ⟨#[61, 60]⟩, ⟨#[62, 61]⟩, ⟨#[97, 116, 111, 109, 95, 108, 101, 110, 103, 116, 104]⟩, ⟨#[97, 116, 111, 109, 95, 99, 104, 97, 114, 115]⟩, ⟨#[108, 101, 110, 103, 116, 104]⟩, ⟨#[115, 111, 114, 116]⟩, ⟨#[58, 45]⟩, ⟨#[45, 45, 62]⟩]
def proB3 : List ByteArray := [⟨#[99, 97, 116, 99, 104]⟩, ⟨#[102, 105, 110, 100, 97, 108, 108]⟩, ⟨#[99, 111, 109, 112, 97, 114, 101]⟩, ⟨#[102, 117, 110, 99, 116, 111, 114]⟩, ⟨#[97, 114, 103]⟩, ⟨#[98, 101, 116, 119, 101, 101, 110]⟩]
def resB0 : List ByteArray := [⟨#[116, 114, 117, 101]⟩, ⟨#[102, 97, 105, 108]⟩, ⟨#[33]⟩, ⟨#[110, 108]⟩]
def resB1 : List ByteArray := [⟨#[92, 43]⟩, ⟨#[116, 104, 114, 111, 119]⟩, ⟨#[118, 97, 114]⟩, ⟨#[110, 111, 110, 118, 97, 114]⟩, ⟨#[97, 116, 111, 109]⟩, ⟨#[105, 110, 116, 101, 103, 101, 114]⟩, ⟨#[97, 116, 111, 109, 105, 99]⟩, ⟨#[99, 111, 109, 112, 111, 117, 110, 100]⟩, ⟨#[99, 97, 108, 108, 97, 98, 108, 101]⟩, ⟨#[103, 114, 111, 117, 110, 100]⟩, ⟨#[97, 115, 115, 101, 114, 116, 122]⟩, ⟨#[97, 115, 115, 101, 114, 116, 97]⟩, ⟨#[114, 101, 116, 114, 97, 99, 116]⟩, ⟨#[112, 114, 105, 110, 116]⟩, ⟨#[58, 45]⟩]
def resB2 : List ByteArray := [⟨#[44]⟩, ⟨#[59]⟩, ⟨#[45, 62]⟩, ⟨#[61]⟩, ⟨#[92, 61]⟩, ⟨#[61, 61]⟩, ⟨#[92, 61, 61]⟩, ⟨#[64, 60]⟩, ⟨#[64, 62]⟩, ⟨#[64, 61, 60]⟩, ⟨#[64, 62, 61]⟩, ⟨#[61, 46, 46]⟩, ⟨#[99, 111, 112, 121, 95, 116, 101, 114, 109]⟩, ⟨#[105, 115]⟩, ⟨#[61, 58, 61]⟩, ⟨#[61, 92, 61]⟩, ⟨#[60]⟩, ⟨#[62]⟩, ⟨#[61, 60]⟩, ⟨#[62, 61]⟩, ⟨#[97, 116, 111, 109, 95, 108, 101, 110, 103, 116, 104]⟩, ⟨#[97, 116, 111, 109, 95, 99, 104, 97, 114, 115]⟩, ⟨#[108, 101, 110, 103, 116, 104]⟩, ⟨#[115, 111, 114, 116]⟩, ⟨#[58, 45]⟩, ⟨#[45, 45, 62]⟩]
def resB3 : List ByteArray := [⟨#[99, 97, 116, 99, 104]⟩, ⟨#[102, 105, 110, 100, 97, 108, 108]⟩, ⟨#[99, 111, 109, 112, 97, 114, 101]⟩, ⟨#[102, 117, 110, 99, 116, 111, 114]⟩, ⟨#[97, 114, 103]⟩, ⟨#[98, 101, 116, 119, 101, 101, 110]⟩]
def resS0 : ByteArray := ⟨#[116, 114, 117, 101, 32, 102, 97, 105, 108, 32, 33, 32, 110, 108]⟩
def resS1 : ByteArray := ⟨#[92, 43, 32, 116, 104, 114, 111, 119, 32, 118, 97, 114, 32, 110, 111, 110, 118, 97, 114, 32, 97, 116, 111, 109, 32, 105, 110, 116, 101, 103, 101, 114, 32, 97, 116, 111, 109, 105, 99, 32, 99, 111, 109, 112, 111, 117, 110, 100, 32, 99, 97, 108, 108, 97, 98, 108, 101, 32, 103, 114, 111, 117, 110, 100, 32, 97, 115, 115, 101, 114, 116, 122, 32, 97, 115, 115, 101, 114, 116, 97, 32, 114, 101, 116, 114, 97, 99, 116, 32, 112, 114, 105, 110, 116, 32, 58, 45]⟩
def resS2 : ByteArray := ⟨#[44, 32, 59, 32, 45, 62, 32, 61, 32, 92, 61, 32, 61, 61, 32, 92, 61, 61, 32, 64, 60, 32, 64, 62, 32, 64, 61, 60, 32, 64, 62, 61, 32, 61, 46, 46, 32, 99, 111, 112, 121, 95, 116, 101, 114, 109, 32, 105, 115, 32, 61, 58, 61, 32, 61, 92, 61, 32, 60, 32, 62, 32, 61, 60, 32, 62, 61, 32, 97, 116, 111, 109, 95, 108, 101, 110, 103, 116, 104, 32, 97, 116, 111, 109, 95, 99, 104, 97, 114, 115, 32, 108, 101, 110, 103, 116, 104, 32, 115, 111, 114, 116, 32, 58, 45, 32, 45, 45, 62]⟩
def resS3 : ByteArray := ⟨#[99, 97, 116, 99, 104, 32, 102, 105, 110, 100, 97, 108, 108, 32, 99, 111, 109, 112, 97, 114, 101, 32, 102, 117, 110, 99, 116, 111, 114, 32, 97, 114, 103, 32, 98, 101, 116, 119, 101, 101, 110]⟩
def resB : Nat → List ByteArray
  | 0 => resB0
  | 1 => resB1
  | 2 => resB2
  | 3 => resB3
  | _ => []
def resSs : List ByteArray := [resS0, resS1, resS2, resS3]

theorem map_bytes (l : List ByteArray) : l.map ByteArray.toList = l.map (·.data.toList) := List.map_congr_left fun x _ => ByteArray.toList_eq x
theorem proB0_eq : proB0.map ByteArray.toList = proRow0 := by rw [map_bytes]; kernel_rfl
theorem proB1_eq : proB1.map ByteArray.toList = proRow1 := by rw [map_bytes]; kernel_rfl
theorem proB2_eq : proB2.map ByteArray.toList = proRow2 := by rw [map_bytes]; kernel_rfl
theorem proB3_eq : proB3.map ByteArray.toList = proRow3 := by rw [map_bytes]; kernel_rfl
theorem resB_eq : ∀ k, (resB k).map ByteArray.toList = resRow k
  | 0 => by rw [map_bytes]; kernel_rfl
  | 1 => by rw [map_bytes]; kernel_rfl
  | 2 => by rw [map_bytes]; kernel_rfl
  | 3 => by rw [map_bytes]; kernel_rfl
  | _ + 4 => rfl
theorem resB_small : ∀ k, (resB k).length ≤ 100
  | 0 => by decide
  | 1 => by decide
  | 2 => by decide
  | 3 => by decide
  | _ + 4 => by simp [resB]


/-- Strings in a new block. -/
theorem strs_new (w : World) (t : TypeId) (l : List ByteArray) (i : Nat) (x : ByteArray) (h : l[i]? = some x) : (w.alloc (.cells (l.map Value.string).toArray t)).cell? ⟨w.heap.size, i, none⟩ = some (.string x) := by
  rw [World.cell?_alloc_at _ _ _ _ rfl, List.getElem?_toArray, List.getElem?_map, h]
  rfl

theorem containsS_mem (l : List ByteArray) (x : ByteArray) : Lib.containsS l x = decide (x.toList ∈ l.map ByteArray.toList) := by
  rw [Bool.eq_iff_iff, Lib.containsS_iff]
  simp only [decide_eq_true_eq, List.mem_map]
  constructor
  · intro h; exact ⟨x, h, rfl⟩
  · rintro ⟨y, hy, e⟩
    rw [ByteArray.toList_eq, ByteArray.toList_eq] at e
    have : y = x := by
      obtain ⟨⟨ys⟩⟩ := y
      obtain ⟨⟨xs⟩⟩ := x
      simp only at e
      rw [e]
    exact this ▸ hy

/-- Is the string among these? -/
def hasB (l : List ByteArray) (s : ByteArray) : Bool := decide (s.toList ∈ l.map ByteArray.toList)

theorem contains_new (w : World) (t : TypeId) (l : List ByteArray) (x : ByteArray) (hl : l.length ≤ 1000) : Calls Try.prog 121 #[.slice (some ⟨w.heap.size, 0, none⟩) l.length l.length, .string x] (w.alloc (.cells (l.map Value.string).toArray t)) fun e w' =>
    e = .returned (.bool (hasB l x)) ∧ w' = w.alloc (.cells (l.map Value.string).toArray t) := by
  refine (Try.slices_Contains_string w.heap.size 0 l.length l.length l x _ (Nat.le_refl _) (by omega) (fun j hj => ?_)).mono ?_
  · rw [Nat.zero_add]
    exact strs_new w t l j _ (by rw [List.getElem?_eq_getElem hj, List.getD, List.getElem?_eq_getElem hj]; rfl)
  · rintro e w' ⟨rfl, rfl⟩
    rw [List.take_length, containsS_mem]
    exact ⟨rfl, rfl⟩


theorem isCall_true {s : List UInt8} (h : (s == [99, 97, 108, 108]) = true) : s = sCall := beq_iff_eq.1 h
theorem isCall_false {s : List UInt8} (h : (s == [99, 97, 108, 108]) = false) : s ≠ sCall := by simpa [sCall] using h
theorem eqn {n k : Int} (h : (n == k) = true) : n = k := beq_iff_eq.1 h
theorem nen {n k : Int} (h : (n == k) = false) : n ≠ k := by simpa using h

set_option maxHeartbeats 1000000 in
set_option maxRecDepth 100000 in
theorem reserved_calls (s : ByteArray) (n : Int) (w : World) : Calls Try.prog 84 #[.string s, .int .i64 n] w (Ret (.bool (reserved s.toList n)) w) := by
  have hR : Hid (∀ b, reserved s.toList n = b → ∀ w', Gr w w' → Ret (.bool (reserved s.toList n)) w (.returned (.bool b)) w') := fun b hb w' hg => ⟨by rw [hb], hg⟩
  generalize hQ : Ret (.bool (reserved s.toList n)) w = Q at hR ⊢
  clear hQ
  go_enter Try.func84, Try.ntmps84
  try simp only [List.append_eq, List.cons_append, List.nil_append]
  cases hn0 : (n == 0) with
  | true =>
    have hv := Lib.hid (show reserved s.toList n = hasB proB0 s by rw [eqn hn0, hasB, proB0_eq]; exact pro_0 _)
    go_wp2_with (first | (go_at_call 121; refine (contains_new w 9 proB0 s (by decide)).mono ?_; rintro e w' ⟨rfl, rfl⟩) | fail)
    exact hR.out _ hv.out _ (by go_grown)
  | false =>
  cases hn1 : (n == 1) with
  | true =>
    have hv := Lib.hid (show reserved s.toList n = hasB proB1 s by rw [eqn hn1, hasB, proB1_eq]; exact pro_1 _)
    go_wp2_with (first | (go_at_call 121; refine (contains_new w 9 proB1 s (by decide)).mono ?_; rintro e w' ⟨rfl, rfl⟩) | fail)
    exact hR.out _ hv.out _ (by go_grown)
  | false =>
  cases hn2 : (n == 2) with
  | true =>
    have hv := Lib.hid (show reserved s.toList n = (decide (s.toList = sCall) || hasB proB2 s) by rw [eqn hn2, hasB, proB2_eq]; exact pro_2 _)
    cases hc : (s.toList == [99, 97, 108, 108]) with
    | true =>
      have hv2 := Lib.hid (show reserved s.toList n = true by rw [hv.out, decide_eq_true (isCall_true hc)]; rfl)
      go_wp2_with fail
      exact hR.out _ hv2.out _ (by go_grown)
    | false =>
      have hv2 := Lib.hid (show reserved s.toList n = hasB proB2 s by rw [hv.out, decide_eq_false (isCall_false hc)]; rfl)
      go_wp2_with (first | (go_at_call 121; refine (contains_new w 9 proB2 s (by decide)).mono ?_; rintro e w' ⟨rfl, rfl⟩) | fail)
      exact hR.out _ hv2.out _ (by go_grown)
  | false =>
  cases hn3 : (n == 3) with
  | true =>
    have hv := Lib.hid (show reserved s.toList n = (decide (s.toList = sCall) || hasB proB3 s) by rw [eqn hn3, hasB, proB3_eq]; exact pro_3 _)
    cases hc : (s.toList == [99, 97, 108, 108]) with
    | true =>
      have hv2 := Lib.hid (show reserved s.toList n = true by rw [hv.out, decide_eq_true (isCall_true hc)]; rfl)
      go_wp2_with fail
      exact hR.out _ hv2.out _ (by go_grown)
    | false =>
      have hv2 := Lib.hid (show reserved s.toList n = hasB proB3 s by rw [hv.out, decide_eq_false (isCall_false hc)]; rfl)
      go_wp2_with (first | (go_at_call 121; refine (contains_new w 9 proB3 s (by decide)).mono ?_; rintro e w' ⟨rfl, rfl⟩) | fail)
      exact hR.out _ hv2.out _ (by go_grown)
  | false =>
  have hv : Hid (reserved s.toList n = (decide (s.toList = sCall) && decide (1 ≤ n) && decide (n ≤ 8))) := pro_x _ (nen hn0) (nen hn1) (nen hn2) (nen hn3)
  cases hc : (s.toList == [99, 97, 108, 108]) with
  | true =>
    have hv2 := Lib.hid (show reserved s.toList n = (decide (1 ≤ n) && decide (n ≤ 8)) by rw [hv.out, decide_eq_true (isCall_true hc), Bool.true_and])
    by_cases h1 : 1 ≤ n
    · have hv3 := Lib.hid (show reserved s.toList n = decide (n ≤ 8) by rw [hv2.out, decide_eq_true h1, Bool.true_and])
      go_wp2_with fail
      exact hR.out _ hv3.out _ (by go_grown)
    · have hv3 := Lib.hid (show reserved s.toList n = false by rw [hv2.out, decide_eq_false h1, Bool.false_and])
      go_wp2_with fail
      exact hR.out _ hv3.out _ (by go_grown)
  | false =>
    have hv2 := Lib.hid (show reserved s.toList n = false by rw [hv.out, decide_eq_false (isCall_false hc)]; rfl)
    go_wp2_with fail
    exact hR.out _ hv2.out _ (by go_grown)
end Go.Proofs.Ytgaijgadeodoeaa
