/-
  Which names are reserved, which builtins are allowed, which codes may run: plain.
  Which names are reserved: base.Reserved, hornref.Reserved
  base.Make: what it makes, blocks of clauses
  base.plain
  Blocks of any type; base.New, base.of, base.copied.
  slices.Grow, slices.Concat and slices.Insert where a base has its first clause.
-/
import Derived.Test.YtjdoflfdlhpbmaaGreatBF02
import Derived.Test.YtjdoflfdlhpbmaaGreatShelf
import Derived.Lib.Hide
import Derived.Deep.LoopGhost
import Derived.Deep.CutRange
import Derived.Test.YtjdoflfdlhpbmaaGreatBF07
import Derived.Deep.RegionWith
import Derived.BigRegion
import Derived.Test.YtjdoflfdlhpbmaaGreatBF06
import Derived.Lib.AppendZeros
import Derived.Deep.CutBlock
import Derived.Deep.Light
namespace Go.Proofs.YtjdoflfdlhpbmaaGreat
open Go.RowKit

def sCall : List UInt8 := [99, 97, 108, 108]
def resRow0 : List (List UInt8) := [[116, 114, 117, 101], [102, 97, 105, 108], [33], [110, 108]]
def resRow1 : List (List UInt8) := [[92, 43], [116, 104, 114, 111, 119], [118, 97, 114], [110, 111, 110, 118, 97, 114], [97, 116, 111, 109], [105, 110, 116, 101, 103, 101, 114], [97, 116, 111, 109, 105, 99], [99, 111, 109, 112, 111, 117, 110, 100], [99, 97, 108, 108, 97, 98, 108, 101], [103, 114, 111, 117, 110, 100], [97, 115, 115, 101, 114, 116, 122], [97, 115, 115, 101, 114, 116, 97], [114, 101, 116, 114, 97, 99, 116], [112, 114, 105, 110, 116], [58, 45]]
def resRow2 : List (List UInt8) := [[44], [59], [45, 62], [61], [92, 61], [61, 61], [92, 61, 61], [64, 60], [64, 62], [64, 61, 60], [64, 62, 61], [61, 46, 46], [99, 111, 112, 121, 95, 116, 101, 114, 109], [105, 115], [61, 58, 61], [61, 92, 61], [60], [62], [61, 60], [62, 61], [97, 116, 111, 109, 95, 108, 101, 110, 103, 116, 104], [97, 116, 111, 109, 95, 99, 104, 97, 114, 115], [108, 101, 110, 103, 116, 104], [115, 111, 114, 116], [58, 45], [45, 45, 62]]
def resRow3 : List (List UInt8) := [[99, 97, 116, 99, 104], [102, 105, 110, 100, 97, 108, 108], [99, 111, 109, 112, 97, 114, 101], [102, 117, 110, 99, 116, 111, 114], [97, 114, 103], [98, 101, 116, 119, 101, 101, 110]]
def proRow0 : List (List UInt8) := [[116, 114, 117, 101], [102, 97, 105, 108], [33], [110, 108]]
def proRow1 : List (List UInt8) := [[92, 43], [99, 97, 108, 108], [116, 104, 114, 111, 119], [118, 97, 114], [110, 111, 110, 118, 97, 114], [97, 116, 111, 109], [105, 110, 116, 101, 103, 101, 114], [97, 116, 111, 109, 105, 99], [99, 111, 109, 112, 111, 117, 110, 100], [99, 97, 108, 108, 97, 98, 108, 101], [103, 114, 111, 117, 110, 100], [97, 115, 115, 101, 114, 116, 122], [97, 115, 115, 101, 114, 116, 97], [114, 101, 116, 114, 97, 99, 116], [112, 114, 105, 110, 116], [58, 45]]
def proRow2 : List (List UInt8) := [[44], [59], [45, 62], [61], [92, 61], [61, 61], [92, 61, 61], [64, 60], [64, 62], [64, 61, 60], [64, 62, 61], [61, 46, 46], [99, 111, 112, 121, 95, 116, 101, 114, 109], [105, 115], [61, 58, 61], [61, 92, 61], [60], [62], [61, 60], [62, 61], [97, 116, 111, 109, 95, 108, 101, 110, 103, 116, 104], [97, 116, 111, 109, 95, 99, 104, 97, 114, 115], [108, 101, 110, 103, 116, 104], [115, 111, 114, 116], [58, 45], [45, 45, 62]]
def proRow3 : List (List UInt8) := [[99, 97, 116, 99, 104], [102, 105, 110, 100, 97, 108, 108], [99, 111, 109, 112, 97, 114, 101], [102, 117, 110, 99, 116, 111, 114], [97, 114, 103], [98, 101, 116, 119, 101, 101, 110]]
def notAllowed : List (List UInt8) := [[116, 114, 117, 101], [102, 97, 105, 108], [33], [44], [59], [45, 62], [92, 43], [99, 97, 108, 108], [99, 97, 116, 99, 104], [102, 105, 110, 100, 97, 108, 108], [98, 101, 116, 119, 101, 101, 110], [97, 115, 115, 101, 114, 116, 122], [97, 115, 115, 101, 114, 116, 97], [114, 101, 116, 114, 97, 99, 116], [58, 45], [45, 45, 62]]
def resRow : Nat → List (List UInt8)
  | 0 => resRow0
  | 1 => resRow1
  | 2 => resRow2
  | 3 => resRow3
  | _ => []

/-- Is a name with so many arguments reserved? -/
def reserved (s : List UInt8) (n : Int) : Bool :=
  if s = sCall then decide (1 ≤ n) && decide (n ≤ 8) else if n < 0 ∨ 3 < n then false else decide (s ∈ resRow n.toNat)

theorem reserved_call (n : Int) : reserved sCall n = (decide (1 ≤ n) && decide (n ≤ 8)) := by rw [reserved, if_pos rfl]
theorem reserved_out {s : List UInt8} {n : Int} (hs : s ≠ sCall) (hn : n < 0 ∨ 3 < n) : reserved s n = false := by rw [reserved, if_neg hs, if_pos hn]
theorem reserved_in {s : List UInt8} {n : Int} (hs : s ≠ sCall) (h0 : 0 ≤ n) (h3 : n ≤ 3) : reserved s n = decide (s ∈ resRow n.toNat) := by rw [reserved, if_neg hs, if_neg (by omega)]

/-- The program's own lists say the same. -/
theorem pro_0 (s : List UInt8) : reserved s 0 = decide (s ∈ proRow0) := by
  by_cases hs : s = sCall
  · subst hs; rfl
  · rw [reserved_in hs (by omega) (by omega)]; rfl
theorem pro_1 (s : List UInt8) : reserved s 1 = decide (s ∈ proRow1) := by
  by_cases hs : s = sCall
  · subst hs; rfl
  · rw [reserved_in hs (by omega) (by omega)]
    rw [decide_eq_decide]
    simp only [resRow, resRow1, proRow1, Int.toNat_one, List.mem_cons, List.mem_nil_iff, or_false]
    simp only [sCall] at hs
    simp [hs]
theorem pro_2 (s : List UInt8) : reserved s 2 = (decide (s = sCall) || decide (s ∈ proRow2)) := by
  by_cases hs : s = sCall
  · subst hs; rfl
  · rw [reserved_in hs (by omega) (by omega), decide_eq_false hs]; rfl
theorem pro_3 (s : List UInt8) : reserved s 3 = (decide (s = sCall) || decide (s ∈ proRow3)) := by
  by_cases hs : s = sCall
  · subst hs; rfl
  · rw [reserved_in hs (by omega) (by omega), decide_eq_false hs]; rfl
theorem pro_x (s : List UInt8) {n : Int} (h0 : n ≠ 0) (h1 : n ≠ 1) (h2 : n ≠ 2) (h3 : n ≠ 3) : reserved s n = (decide (s = sCall) && decide (1 ≤ n) && decide (n ≤ 8)) := by
  by_cases hs : s = sCall
  · subst hs; rw [reserved_call]; simp
  · rw [reserved_out hs (by omega), decide_eq_false hs]; rfl

/-- Is a builtin allowed in code? -/
def allowed (s : List UInt8) (n : Int) : Bool := if s ∈ notAllowed then false else reserved s n
end Go.Proofs.YtjdoflfdlhpbmaaGreat

namespace Go.Proofs.YtjdoflfdlhpbmaaGreat
open Go.RowKit

def proB0 : List ByteArray := [⟨#[116, 114, 117, 101]⟩, ⟨#[102, 97, 105, 108]⟩, ⟨#[33]⟩, ⟨#[110, 108]⟩]
def proB1 : List ByteArray := [⟨#[92, 43]⟩, ⟨#[99, 97, 108, 108]⟩, ⟨#[116, 104, 114, 111, 119]⟩, ⟨#[118, 97, 114]⟩, ⟨#[110, 111, 110, 118, 97, 114]⟩, ⟨#[97, 116, 111, 109]⟩, ⟨#[105, 110, 116, 101, 103, 101, 114]⟩, ⟨#[97, 116, 111, 109, 105, 99]⟩, ⟨#[99, 111, 109, 112, 111, 117, 110, 100]⟩, ⟨#[99, 97, 108, 108, 97, 98, 108, 101]⟩, ⟨#[103, 114, 111, 117, 110, 100]⟩, ⟨#[97, 115, 115, 101, 114, 116, 122]⟩, ⟨#[97, 115, 115, 101, 114, 116, 97]⟩, ⟨#[114, 101, 116, 114, 97, 99, 116]⟩, ⟨#[112, 114, 105, 110, 116]⟩, ⟨#[58, 45]⟩]
def proB2 : List ByteArray := [⟨#[44]⟩, ⟨#[59]⟩, ⟨#[45, 62]⟩, ⟨#[61]⟩, ⟨#[92, 61]⟩, ⟨#[61, 61]⟩, ⟨#[92, 61, 61]⟩, ⟨#[64, 60]⟩, ⟨#[64, 62]⟩, ⟨#[64, 61, 60]⟩, ⟨#[64, 62, 61]⟩, ⟨#[61, 46, 46]⟩, ⟨#[99, 111, 112, 121, 95, 116, 101, 114, 109]⟩, ⟨#[105, 115]⟩, ⟨#[61, 58, 61]⟩, ⟨#[61, 92, 61]⟩, ⟨#[60]⟩, ⟨#[62]⟩, ⟨#[61, 60]⟩, ⟨#[62, 61]⟩, ⟨#[97, 116, 111, 109, 95, 108, 101, 110, 103, 116, 104]⟩, ⟨#[97, 116, 111, 109, 95, 99, 104, 97, 114, 115]⟩, ⟨#[108, 101, 110, 103, 116, 104]⟩, ⟨#[115, 111, 114, 116]⟩, ⟨#[58, 45]⟩, ⟨#[45, 45, 62]⟩]
def proB3 : List ByteArray := [⟨#[99, 97, 116, 99, 104]⟩, ⟨#[102, 105, 110, 100, 97, 108, 108]⟩, ⟨#[99, 111, 109, 112, 97, 114, 101]⟩, ⟨#[102, 117, 110, 99, 116, 111, 114]⟩, ⟨#[97, 114, 103]⟩, ⟨#[98, 101, 116, 119, 101, 101, 110]⟩]
theorem map_bytes (l : List ByteArray) : l.map ByteArray.toList = l.map (·.data.toList) := List.map_congr_left fun x _ => ByteArray.toList_eq x
theorem proB0_eq : proB0.map ByteArray.toList = proRow0 := by rw [map_bytes]; kernel_rfl
theorem proB1_eq : proB1.map ByteArray.toList = proRow1 := by rw [map_bytes]; kernel_rfl
theorem proB2_eq : proB2.map ByteArray.toList = proRow2 := by rw [map_bytes]; kernel_rfl
theorem proB3_eq : proB3.map ByteArray.toList = proRow3 := by rw [map_bytes]; kernel_rfl
/-- Strings in a new block. -/
theorem strs_new (w : World) (t : TypeId) (l : List ByteArray) (i : Nat) (x : ByteArray) (h : l[i]? = some x) : (w.alloc (.cells (l.map Value.string).toArray t)).cell? ⟨w.heap.size, i, none⟩ = some (.string x) := by
  rw [World.cell?_alloc_at _ _ _ _ rfl, List.getElem?_toArray, List.getElem?_map, h]
  rfl

theorem containsS_mem (l : List ByteArray) (x : ByteArray) : Lib.containsS l x = decide (x.toList ∈ l.map ByteArray.toList) := by
  rw [Bool.eq_iff_iff, Lib.containsS_iff]
  simp only [decide_eq_true_eq, List.mem_map]
  constructor
  · intro h; exact ⟨x, h, rfl⟩
  · rintro ⟨y, hy, e⟩
    rw [ByteArray.toList_eq, ByteArray.toList_eq] at e
    have : y = x := by
      obtain ⟨⟨ys⟩⟩ := y
      obtain ⟨⟨xs⟩⟩ := x
      simp only at e
      rw [e]
    exact this ▸ hy

/-- Is the string among these? -/
def hasB (l : List ByteArray) (s : ByteArray) : Bool := decide (s.toList ∈ l.map ByteArray.toList)

theorem contains_new (w : World) (t : TypeId) (l : List ByteArray) (x : ByteArray) (hl : l.length ≤ 1000) : Calls Tryz.prog 48 #[.slice (some ⟨w.heap.size, 0, none⟩) l.length l.length, .string x] (w.alloc (.cells (l.map Value.string).toArray t)) fun e w' =>
    e = .returned (.bool (hasB l x)) ∧ w' = w.alloc (.cells (l.map Value.string).toArray t) := by
  refine (Tryz.slices_Contains_string w.heap.size 0 l.length l.length l x _ (Nat.le_refl _) (by omega) (fun j hj => ?_)).mono ?_
  · rw [Nat.zero_add]
    exact strs_new w t l j _ (by rw [List.getElem?_eq_getElem hj, List.getD, List.getElem?_eq_getElem hj]; rfl)
  · rintro e w' ⟨rfl, rfl⟩
    rw [List.take_length, containsS_mem]
    exact ⟨rfl, rfl⟩


theorem isCall_true {s : List UInt8} (h : (s == [99, 97, 108, 108]) = true) : s = sCall := beq_iff_eq.1 h
theorem isCall_false {s : List UInt8} (h : (s == [99, 97, 108, 108]) = false) : s ≠ sCall := by simpa [sCall] using h
theorem eqn {n k : Int} (h : (n == k) = true) : n = k := beq_iff_eq.1 h
theorem nen {n k : Int} (h : (n == k) = false) : n ≠ k := by simpa using h

set_option maxHeartbeats 1000000 in
set_option maxRecDepth 100000 in
theorem reserved_calls (s : ByteArray) (n : Int) (w : World) : Calls Tryz.prog 23 #[.string s, .int .i64 n] w (Ret (.bool (reserved s.toList n)) w) := by
  have hR : Hid (∀ b, reserved s.toList n = b → ∀ w', Gr w w' → Ret (.bool (reserved s.toList n)) w (.returned (.bool b)) w') := fun b hb w' hg => ⟨by rw [hb], hg⟩
  generalize hQ : Ret (.bool (reserved s.toList n)) w = Q at hR ⊢
  clear hQ
  go_enter Tryz.func23, Tryz.ntmps23
  try simp only [List.append_eq, List.cons_append, List.nil_append]
  cases hn0 : (n == 0) with
  | true =>
    have hv := Lib.hid (show reserved s.toList n = hasB proB0 s by rw [eqn hn0, hasB, proB0_eq]; exact pro_0 _)
    go_wp2_with (first | (go_at_call 48; refine (contains_new w 9 proB0 s (by decide)).mono ?_; rintro e w' ⟨rfl, rfl⟩) | fail)
    exact hR.out _ hv.out _ (by go_grown)
  | false =>
  cases hn1 : (n == 1) with
  | true =>
    have hv := Lib.hid (show reserved s.toList n = hasB proB1 s by rw [eqn hn1, hasB, proB1_eq]; exact pro_1 _)
    go_wp2_with (first | (go_at_call 48; refine (contains_new w 9 proB1 s (by decide)).mono ?_; rintro e w' ⟨rfl, rfl⟩) | fail)
    exact hR.out _ hv.out _ (by go_grown)
  | false =>
  cases hn2 : (n == 2) with
  | true =>
    have hv := Lib.hid (show reserved s.toList n = (decide (s.toList = sCall) || hasB proB2 s) by rw [eqn hn2, hasB, proB2_eq]; exact pro_2 _)
    cases hc : (s.toList == [99, 97, 108, 108]) with
    | true =>
      have hv2 := Lib.hid (show reserved s.toList n = true by rw [hv.out, decide_eq_true (isCall_true hc)]; rfl)
      go_wp2_with fail
      exact hR.out _ hv2.out _ (by go_grown)
    | false =>
      have hv2 := Lib.hid (show reserved s.toList n = hasB proB2 s by rw [hv.out, decide_eq_false (isCall_false hc)]; rfl)
      go_wp2_with (first | (go_at_call 48; refine (contains_new w 9 proB2 s (by decide)).mono ?_; rintro e w' ⟨rfl, rfl⟩) | fail)
      exact hR.out _ hv2.out _ (by go_grown)
  | false =>
  cases hn3 : (n == 3) with
  | true =>
    have hv := Lib.hid (show reserved s.toList n = (decide (s.toList = sCall) || hasB proB3 s) by rw [eqn hn3, hasB, proB3_eq]; exact pro_3 _)
    cases hc : (s.toList == [99, 97, 108, 108]) with
    | true =>
      have hv2 := Lib.hid (show reserved s.toList n = true by rw [hv.out, decide_eq_true (isCall_true hc)]; rfl)
      go_wp2_with fail
      exact hR.out _ hv2.out _ (by go_grown)
    | false =>
      have hv2 := Lib.hid (show reserved s.toList n = hasB proB3 s by rw [hv.out, decide_eq_false (isCall_false hc)]; rfl)
      go_wp2_with (first | (go_at_call 48; refine (contains_new w 9 proB3 s (by decide)).mono ?_; rintro e w' ⟨rfl, rfl⟩) | fail)
      exact hR.out _ hv2.out _ (by go_grown)
  | false =>
  have hv : Hid (reserved s.toList n = (decide (s.toList = sCall) && decide (1 ≤ n) && decide (n ≤ 8))) := pro_x _ (nen hn0) (nen hn1) (nen hn2) (nen hn3)
  cases hc : (s.toList == [99, 97, 108, 108]) with
  | true =>
    have hv2 := Lib.hid (show reserved s.toList n = (decide (1 ≤ n) && decide (n ≤ 8)) by rw [hv.out, decide_eq_true (isCall_true hc), Bool.true_and])
    by_cases h1 : 1 ≤ n
    · have hv3 := Lib.hid (show reserved s.toList n = decide (n ≤ 8) by rw [hv2.out, decide_eq_true h1, Bool.true_and])
      go_wp2_with fail
      exact hR.out _ hv3.out _ (by go_grown)
    · have hv3 := Lib.hid (show reserved s.toList n = false by rw [hv2.out, decide_eq_false h1, Bool.false_and])
      go_wp2_with fail
      exact hR.out _ hv3.out _ (by go_grown)
  | false =>
    have hv2 := Lib.hid (show reserved s.toList n = false by rw [hv.out, decide_eq_false (isCall_false hc)]; rfl)
    go_wp2_with fail
    exact hR.out _ hv2.out _ (by go_grown)
end Go.Proofs.YtjdoflfdlhpbmaaGreat

namespace Go.Proofs.YtjdoflfdlhpbmaaGreat
open Go.RowKit

/-- A clause's value. -/
def clVal (h b : Tm) : Value := .agg #[.int .i64 h.k, .int .i64 h.n, .string h.s, .slice h.p h.l.length h.c, .int .i64 b.k, .int .i64 b.n, .string b.s, .slice b.p b.l.length b.c]

/-- A clause is handed back, and an error's number. -/
def RetCE (r : (T × T) × Int) (w : World) (e : Ending) (w' : World) : Prop := ∃ hm bm : Tm, e = .returned (.tuple #[clVal hm bm, .int .i64 r.2]) ∧ hm.In w' ∧ bm.In w' ∧ (hm.erase, bm.erase) = r.1 ∧ Gr w w'

def makeAns (t : T) : (T × T) × Int := if t.formed then (match T.make reserved t with
  | some x => (x, 0)
  | none => ((zeroT, zeroT), 7)) else ((zeroT, zeroT), 2)

/-- A block of eight cells: a clause. -/
def Blk8 (w : World) (b : Nat) (v0 v1 v2 v3 v4 v5 v6 v7 : Value) : Prop := w.heap[b]? = some (.cells #[v0, v1, v2, v3, v4, v5, v6, v7] 29)

theorem Blk8.gr {w w' : World} {b : Nat} {v0 v1 v2 v3 v4 v5 v6 v7 : Value} (h : Blk8 w b v0 v1 v2 v3 v4 v5 v6 v7) (hg : Gr w w') : Blk8 w' b v0 v1 v2 v3 v4 v5 v6 v7 :=
  (hg.block b (Array.getElem?_eq_some_iff.1 h).1).trans h
theorem Blk8.lt {w : World} {b : Nat} {v0 v1 v2 v3 v4 v5 v6 v7 : Value} (h : Blk8 w b v0 v1 v2 v3 v4 v5 v6 v7) : b < w.heap.size := (Array.getElem?_eq_some_iff.1 h).1
theorem Blk8.cells {w : World} {b : Nat} {v0 v1 v2 v3 v4 v5 v6 v7 : Value} (h : Blk8 w b v0 v1 v2 v3 v4 v5 v6 v7) : w.cell? ⟨b, 0, none⟩ = some v0 ∧ w.cell? ⟨b, 1, none⟩ = some v1 ∧ w.cell? ⟨b, 2, none⟩ = some v2 ∧ w.cell? ⟨b, 3, none⟩ = some v3 ∧
    w.cell? ⟨b, 4, none⟩ = some v4 ∧ w.cell? ⟨b, 5, none⟩ = some v5 ∧ w.cell? ⟨b, 6, none⟩ = some v6 ∧ w.cell? ⟨b, 7, none⟩ = some v7 :=
  ⟨cell_of_row w b 0 _ _ _ h, cell_of_row w b 1 _ _ _ h, cell_of_row w b 2 _ _ _ h, cell_of_row w b 3 _ _ _ h, cell_of_row w b 4 _ _ _ h, cell_of_row w b 5 _ _ _ h, cell_of_row w b 6 _ _ _ h, cell_of_row w b 7 _ _ _ h⟩
theorem Blk8.open_ {w : World} {b : Nat} {v0 v1 v2 v3 v4 v5 v6 v7 : Value} (h : Blk8 w b v0 v1 v2 v3 v4 v5 v6 v7) : w.frozen? ⟨b, 0, none⟩ = false ∧ w.frozen? ⟨b, 1, none⟩ = false ∧ w.frozen? ⟨b, 2, none⟩ = false ∧ w.frozen? ⟨b, 3, none⟩ = false ∧
    w.frozen? ⟨b, 4, none⟩ = false ∧ w.frozen? ⟨b, 5, none⟩ = false ∧ w.frozen? ⟨b, 6, none⟩ = false ∧ w.frozen? ⟨b, 7, none⟩ = false :=
  ⟨frozen_of_row w b 0 _ _ h, frozen_of_row w b 1 _ _ h, frozen_of_row w b 2 _ _ h, frozen_of_row w b 3 _ _ h, frozen_of_row w b 4 _ _ h, frozen_of_row w b 5 _ _ h, frozen_of_row w b 6 _ _ h, frozen_of_row w b 7 _ _ h⟩

theorem blocks48 (w : World) (v0 v1 v2 v3 u0 u1 u2 u3 u4 u5 u6 u7 : Value) :
    Hid (Blk4 ((w.alloc (.cells #[v0, v1, v2, v3] 24)).alloc (.cells #[u0, u1, u2, u3, u4, u5, u6, u7] 29)) w.heap.size v0 v1 v2 v3) ∧
    Hid (Blk8 ((w.alloc (.cells #[v0, v1, v2, v3] 24)).alloc (.cells #[u0, u1, u2, u3, u4, u5, u6, u7] 29)) (w.heap.size + 1) u0 u1 u2 u3 u4 u5 u6 u7) ∧
    Gr w ((w.alloc (.cells #[v0, v1, v2, v3] 24)).alloc (.cells #[u0, u1, u2, u3, u4, u5, u6, u7] 29)) := by
  have h1 : Blk8 ((w.alloc (.cells #[v0, v1, v2, v3] 24)).alloc (.cells #[u0, u1, u2, u3, u4, u5, u6, u7] 29)) (w.alloc (.cells #[v0, v1, v2, v3] 24)).heap.size u0 u1 u2 u3 u4 u5 u6 u7 := heap_alloc_new _ _
  rw [World.size_alloc] at h1
  exact ⟨Blk4.old (Blk4.new w _ _ _ _) _, h1, by go_grown⟩

theorem atomA_exact (s : ByteArray) (w : World) : Calls Tryz.prog 19 #[.string s] w fun e w' => e = .returned (.agg #[.int .i64 3, .int .i64 0, .string s, .slice none 0 0]) ∧ w' = w.alloc (.cells #[.int .i64 3, .int .i64 0, .string s, .slice none 0 0] 24) := by
  go_enter Tryz.func19, Tryz.ntmps19
  go_wp2_with fail
  exact bodyPost_ret (v := .agg #[.int .i64 3, .int .i64 0, .string s, .slice none 0 0]) (by simp [results, Tryz.results19, go_sem]) rfl ⟨rfl, rfl⟩


theorem Blk8.kp {C : Nat → Prop} {w w' : World} {b : Nat} {v0 v1 v2 v3 v4 v5 v6 v7 : Value} (h : Blk8 w b v0 v1 v2 v3 v4 v5 v6 v7) (hg : Kp C w w') (hb : ¬ C b) : Blk8 w' b v0 v1 v2 v3 v4 v5 v6 v7 :=
  (hg.block b (Array.getElem?_eq_some_iff.1 h).1 hb).trans h

theorem kp_drew {C : Nat → Prop} {w w' : World} (h : Kp C w w') : Kp C w w'.drew := ⟨h.os, h.tape, h.output, h.size, h.block⟩
theorem kp_set8 {C : Nat → Prop} {W : World} {R o0 o1 o2 o3 o4 o5 o6 o7 : Nat} {a0 a1 a2 a3 a4 a5 a6 a7 : Value} (hC : C R) :
    Kp C W ((((((((W.setCell ⟨R, o0, none⟩ a0).setCell ⟨R, o1, none⟩ a1).setCell ⟨R, o2, none⟩ a2).setCell ⟨R, o3, none⟩ a3).setCell ⟨R, o4, none⟩ a4).setCell ⟨R, o5, none⟩ a5).setCell ⟨R, o6, none⟩ a6).setCell ⟨R, o7, none⟩ a7).drew :=
  kp_drew ((Kp.set4 hC).trans (Kp.set4 hC))

theorem set44 {w : World} {b4 b5 : Nat} {v0 v1 v2 v3 v4 v5 v6 v7 : Value} (h4 : Blk4 w b4 v0 v1 v2 v3) (h5 : Blk4 w b5 v4 v5 v6 v7) (hne : b4 ≠ b5) (u0 u1 u2 u3 u4 u5 u6 u7 : Value) :
    Blk4 ((((((((w.setCell ⟨b4, 0, none⟩ u0).setCell ⟨b4, 1, none⟩ u1).setCell ⟨b4, 2, none⟩ u2).setCell ⟨b4, 3, none⟩ u3).setCell ⟨b5, 0, none⟩ u4).setCell ⟨b5, 1, none⟩ u5).setCell ⟨b5, 2, none⟩ u6).setCell ⟨b5, 3, none⟩ u7).drew b4 u0 u1 u2 u3 ∧
    Blk4 ((((((((w.setCell ⟨b4, 0, none⟩ u0).setCell ⟨b4, 1, none⟩ u1).setCell ⟨b4, 2, none⟩ u2).setCell ⟨b4, 3, none⟩ u3).setCell ⟨b5, 0, none⟩ u4).setCell ⟨b5, 1, none⟩ u5).setCell ⟨b5, 2, none⟩ u6).setCell ⟨b5, 3, none⟩ u7).drew b5 u4 u5 u6 u7 ∧
    Kp (fun b => b = b4 ∨ b = b5) w ((((((((w.setCell ⟨b4, 0, none⟩ u0).setCell ⟨b4, 1, none⟩ u1).setCell ⟨b4, 2, none⟩ u2).setCell ⟨b4, 3, none⟩ u3).setCell ⟨b5, 0, none⟩ u4).setCell ⟨b5, 1, none⟩ u5).setCell ⟨b5, 2, none⟩ u6).setCell ⟨b5, 3, none⟩ u7).drew := by
  have k1 : Kp (fun b => b = b4) w ((((w.setCell ⟨b4, 0, none⟩ u0).setCell ⟨b4, 1, none⟩ u1).setCell ⟨b4, 2, none⟩ u2).setCell ⟨b4, 3, none⟩ u3) := Kp.set4 rfl
  have hb4 := h4.set4 u0 u1 u2 u3
  have hb5 := h5.kp k1 (Ne.symm hne)
  generalize (((w.setCell ⟨b4, 0, none⟩ u0).setCell ⟨b4, 1, none⟩ u1).setCell ⟨b4, 2, none⟩ u2).setCell ⟨b4, 3, none⟩ u3 = w1 at *
  have k2 : Kp (fun b => b = b5) w1 ((((w1.setCell ⟨b5, 0, none⟩ u4).setCell ⟨b5, 1, none⟩ u5).setCell ⟨b5, 2, none⟩ u6).setCell ⟨b5, 3, none⟩ u7) := Kp.set4 rfl
  exact ⟨Blk4.kp (C := fun b => b = b5) hb4 (kp_drew k2) hne, Blk4.kp (C := fun _ => False) (hb5.set4 u4 u5 u6 u7) (kp_drew (Kp.refl _ _)) id, kp_drew ((k1.mono fun _ h => .inl h).trans (k2.mono fun _ h => .inr h))⟩

theorem three0 (w : World) (v0 v1 v2 v3 : Value) (o2 o3 : Obj) : Blk4 (((w.alloc (.cells #[v0, v1, v2, v3] 24)).alloc o2).alloc o3) w.heap.size v0 v1 v2 v3 := Blk4.old (Blk4.old (Blk4.new w _ _ _ _) _) _
theorem three1 (w : World) (v0 v1 v2 v3 : Value) (o1 o3 : Obj) : Blk4 (((w.alloc o1).alloc (.cells #[v0, v1, v2, v3] 24)).alloc o3) (w.heap.size + 1) v0 v1 v2 v3 := by
  have h := Blk4.new (w.alloc o1) v0 v1 v2 v3
  rw [World.size_alloc] at h
  exact Blk4.old h _
theorem three2 (w : World) (v0 v1 v2 v3 : Value) (o1 o2 : Obj) : Blk4 (((w.alloc o1).alloc o2).alloc (.cells #[v0, v1, v2, v3] 24)) (w.heap.size + 1 + 1) v0 v1 v2 v3 := by
  have h := Blk4.new ((w.alloc o1).alloc o2) v0 v1 v2 v3
  rw [World.size_alloc, World.size_alloc] at h
  exact h

theorem makeAns_bad {t : T} (h : t.formed = false) : makeAns t = ((zeroT, zeroT), 2) := by rw [makeAns, h]; rfl
theorem makeAns_none {t : T} (h : t.formed = true) (hb : T.make reserved t = none) : makeAns t = ((zeroT, zeroT), 7) := by rw [makeAns, if_pos h, hb]
theorem makeAns_some {t : T} {x : T × T} (h : t.formed = true) (hb : T.make reserved t = some x) : makeAns t = (x, 0) := by rw [makeAns, if_pos h, hb]

end Go.Proofs.YtjdoflfdlhpbmaaGreat

namespace Go.Proofs.YtjdoflfdlhpbmaaGreat
open Go.RowKit

theorem blocks84 (w : World) (u0 u1 u2 u3 u4 u5 u6 u7 v0 v1 v2 v3 : Value) :
    Hid (Blk8 ((w.alloc (.cells #[u0, u1, u2, u3, u4, u5, u6, u7] 29)).alloc (.cells #[v0, v1, v2, v3] 24)) w.heap.size u0 u1 u2 u3 u4 u5 u6 u7) ∧
    Hid (Blk4 ((w.alloc (.cells #[u0, u1, u2, u3, u4, u5, u6, u7] 29)).alloc (.cells #[v0, v1, v2, v3] 24)) (w.heap.size + 1) v0 v1 v2 v3) ∧
    Gr w ((w.alloc (.cells #[u0, u1, u2, u3, u4, u5, u6, u7] 29)).alloc (.cells #[v0, v1, v2, v3] 24)) := by
  have h1 : Blk8 (w.alloc (.cells #[u0, u1, u2, u3, u4, u5, u6, u7] 29)) w.heap.size u0 u1 u2 u3 u4 u5 u6 u7 := heap_alloc_new _ _
  have h2 := Blk4.new (w.alloc (.cells #[u0, u1, u2, u3, u4, u5, u6, u7] 29)) v0 v1 v2 v3
  rw [World.size_alloc] at h2
  exact ⟨h1.gr (by go_grown), h2, by go_grown⟩

theorem clVal_eq (h b : Tm) : clVal h b = .agg #[.int .i64 h.k, .int .i64 h.n, .string h.s, .slice h.p h.l.length h.c, .int .i64 b.k, .int .i64 b.n, .string b.s, .slice b.p b.l.length b.c] := rfl

/-- A term in memory is handed back. -/
def RetT (t : T) (w : World) (e : Ending) (w' : World) : Prop := ∃ bm : Tm, bm.In w' ∧ bm.erase = t ∧ e = .returned bm.val ∧ Gr w w'

set_option maxHeartbeats 2000000 in
set_option maxRecDepth 100000 in
theorem plain_calls (h b : Tm) (w : World) (hh : h.In w) (hb : b.In w) : Calls Tryz.prog 51 #[clVal h b] w (RetT (clauseT h.erase b.erase) w) := by
  have Hh := Lib.hid hh
  have Hb := Lib.hid hb
  have hR : Hid (∀ bm : Tm, bm.erase = clauseT h.erase b.erase → ∀ w', bm.In w' → Gr w w' → RetT (clauseT h.erase b.erase) w (.returned bm.val) w') := fun bm he w' hi hg => ⟨bm, hi, he, rfl, hg⟩
  have hC := Lib.hid (show clauseT h.erase b.erase = if b.erase.isOf sTrue 0 then h.erase else compT sNeck [h.erase, b.erase] from rfl)
  generalize clauseT h.erase b.erase = r at *
  generalize hQ : RetT r w = Q at *
  clear hQ hh hb
  have Hhv := Lib.hid (show h.val = .agg #[.int .i64 h.k, .int .i64 h.n, .string h.s, .slice h.p h.l.length h.c] from rfl)
  have Hbv := Lib.hid (show b.val = .agg #[.int .i64 b.k, .int .i64 b.n, .string b.s, .slice b.p b.l.length b.c] from rfl)
  have HN := Lib.hid (show b.erase.isOf (ByteArray.mk #[116, 114, 117, 101]).toList 0 = b.erase.isOf sTrue 0 by rw [blTrue])
  rw [clVal_eq]
  go_enter Tryz.func51, Tryz.ntmps51
  try simp only [List.append_eq, List.cons_append, List.nil_append]
  go_upto_region 1 with fail
  obtain ⟨HB, HR, gA⟩ := blocks84 w (.int .i64 h.k) (.int .i64 h.n) (.string h.s) (.slice h.p h.l.length h.c) (.int .i64 b.k) (.int .i64 b.n) (.string b.s) (.slice b.p b.l.length b.c) (.int .i64 0) (.int .i64 0) (.string ⟨#[]⟩) (.slice none 0 0)
  generalize (w.alloc (.cells #[.int .i64 h.k, .int .i64 h.n, .string h.s, .slice h.p h.l.length h.c, .int .i64 b.k, .int .i64 b.n, .string b.s, .slice b.p b.l.length b.c] 29)).alloc (.cells #[.int .i64 0, .int .i64 0, .string ⟨#[]⟩, .slice none 0 0] 24) = wA at *
  have hszA : w.heap.size + 1 < wA.heap.size := HR.out.parts.2.2
  obtain ⟨c0, c1, c2, c3, c4, c5, c6, c7⟩ := HB.out.cells
  cases hj : b.erase.isOf sTrue 0 with
  | true =>
    replace HN := Lib.hid (HN.out.trans hj)
    have hr : Hid (h.erase = r) := by show _ = _; rw [hC.out, hj]; rfl
    clear hj
    go_wp2_with (first
      | (go_at_call 20; rewrite [← Hbv.out]; refine (is_calls _ _ _ _).mono ?_; rintro e w2 ⟨rfl, hb⟩; rewrite [HN.out]; have g2 := gA.trans hb; obtain ⟨⟨y0, y1, y2, y3⟩, ⟨f0, f1, f2, f3⟩, hlt⟩ := (HR.out.gr hb).parts; have HB2 := Lib.hid (HB.out.gr hb); clear hb c0 c1 c2 c3 c4 c5 c6 c7; obtain ⟨c0, c1, c2, c3, c4, c5, c6, c7⟩ := HB2.out.cells)
      | fail)
    refine bodyPost_ret (v := h.val) (by simp (maxDischargeDepth := 9) [results, Tryz.results51, go_sem, Tm.val, y0, y1, y2, y3]) rfl ?_
    have hg : Gr w ((((w2.setCell ⟨w.heap.size + 1, 0, none⟩ (.int .i64 h.k)).setCell ⟨w.heap.size + 1, 1, none⟩ (.int .i64 h.n)).setCell ⟨w.heap.size + 1, 2, none⟩ (.string h.s)).setCell ⟨w.heap.size + 1, 3, none⟩ (.slice h.p h.l.length h.c)) := by go_grown
    exact hR.out h hr.out _ (Tm.In_below hg Hh.out) hg
  | false =>
    replace HN := Lib.hid (HN.out.trans hj)
    have hr : Hid (compT sNeck [h.erase, b.erase] = r) := by show _ = _; rw [hC.out, hj]; rfl
    clear hj
    go_wp2_with (first
      | (go_at_call 20; rewrite [← Hbv.out]; refine (is_calls _ _ _ _).mono ?_; rintro e w2 ⟨rfl, hb⟩; rewrite [HN.out]; have g2 := gA.trans hb; have HR2 := Lib.hid (HR.out.gr hb); have HB2 := Lib.hid (HB.out.gr hb); clear hb c0 c1 c2 c3 c4 c5 c6 c7; obtain ⟨c0, c1, c2, c3, c4, c5, c6, c7⟩ := HB2.out.cells)
      | (go_at_call 47; refine (comp_calls _ _ _ _ _).mono ?_; rintro e w3 ⟨rfl, hb⟩; have hsl := Lib.hid (two_new (t := h) (u := b) (Tm.In_below g2 Hh.out) (Tm.In_below g2 Hb.out) hb); have gb : Gr w2 w3 := below_step hb (by go_grown); obtain ⟨⟨y0, y1, y2, y3⟩, ⟨f0, f1, f2, f3⟩, hlt⟩ := (HR2.out.gr gb).parts; have g3 := g2.trans gb; clear hb c0 c1 c2 c3 c4 c5 c6 c7)
      | fail)
    refine bodyPost_ret (v := (compTm ⟨#[58, 45]⟩ (some ⟨w2.heap.size, 0, none⟩) 2 [h, b]).val) (by simp (maxDischargeDepth := 9) [results, Tryz.results51, go_sem, compTm, Tm.val, Tm.k, Tm.n, Tm.s, Tm.p, Tm.c, Tm.l, y0, y1, y2, y3]) rfl ?_
    have hs2 := g2.size
    have hR2 := HR2.out.parts.2.2
    refine hR.out (compTm ⟨#[58, 45]⟩ (some ⟨w2.heap.size, 0, none⟩) 2 [h, b]) (by rw [compTm, Tm.erase, Tm.eraseL, Tm.eraseL, Tm.eraseL, blNeck]; exact hr.out) _ ?_ (by go_grown)
    refine in_after' (S := fun x => x ≠ w.heap.size + 1) (compTm_in (by decide) hsl.out) ?_ fun x h1 h2 o => by rw [cell_set_ne h1, cell_set_ne h1, cell_set_ne h1, cell_set_ne h1]
    rw [compTm, Tm.On, Tm.OnL, Tm.OnL, Tm.OnL]
    exact ⟨.inr ⟨_, _, rfl, by omega⟩, Hh.out.on.mono fun x hx => by omega, Hb.out.on.mono fun x hx => by omega, trivial⟩

end Go.Proofs.YtjdoflfdlhpbmaaGreat

namespace Go.Proofs.YtjdoflfdlhpbmaaGreat
open Go.RowKit Go.Maps

theorem blocks88 (w : World) (v0 v1 v2 v3 v4 v5 v6 v7 u0 u1 u2 u3 u4 u5 u6 u7 : Value) :
    Hid (Blk8 ((w.alloc (.cells #[v0, v1, v2, v3, v4, v5, v6, v7] 29)).alloc (.cells #[u0, u1, u2, u3, u4, u5, u6, u7] 29)) w.heap.size v0 v1 v2 v3 v4 v5 v6 v7) ∧
    Hid (Blk8 ((w.alloc (.cells #[v0, v1, v2, v3, v4, v5, v6, v7] 29)).alloc (.cells #[u0, u1, u2, u3, u4, u5, u6, u7] 29)) (w.heap.size + 1) u0 u1 u2 u3 u4 u5 u6 u7) ∧
    Gr w ((w.alloc (.cells #[v0, v1, v2, v3, v4, v5, v6, v7] 29)).alloc (.cells #[u0, u1, u2, u3, u4, u5, u6, u7] 29)) := by
  have h0 : Blk8 (w.alloc (.cells #[v0, v1, v2, v3, v4, v5, v6, v7] 29)) w.heap.size v0 v1 v2 v3 v4 v5 v6 v7 := heap_alloc_new _ _
  have h1 : Blk8 ((w.alloc (.cells #[v0, v1, v2, v3, v4, v5, v6, v7] 29)).alloc (.cells #[u0, u1, u2, u3, u4, u5, u6, u7] 29)) (w.alloc (.cells #[v0, v1, v2, v3, v4, v5, v6, v7] 29)).heap.size u0 u1 u2 u3 u4 u5 u6 u7 := heap_alloc_new _ _
  rw [World.size_alloc] at h1
  exact ⟨h0.gr (by go_grown), h1, by go_grown⟩

/-- The value is a clause of such two terms. -/
def clNew (S : Nat → Prop) (t u : T) : VP := fun v w => ∃ h b : Tm, v = clVal h b ∧ h.In w ∧ b.In w ∧ h.erase = t ∧ b.erase = u ∧ h.On S ∧ b.On S
theorem clNew_stable {S : Nat → Prop} {t u : T} : ∀ v w w', clNew S t u v w → Gr w w' → clNew S t u v w' := fun _ _ _ ⟨h, b, h1, h2, h3, h4⟩ hg => ⟨h, b, h1, Tm.In_below hg h2, Tm.In_below hg h3, h4⟩
theorem clVal_four (h b : Tm) : clVal h b = .agg #[.int .i64 h.k, .int .i64 h.n, .string h.s, .slice h.p h.l.length h.c, .int .i64 b.k, .int .i64 b.n, .string b.s, .slice b.p b.l.length b.c] := rfl

/-- A clause in memory of its own is handed back. -/
def RetCl (S : Nat → Prop) (t u : T) (w : World) (e : Ending) (w' : World) : Prop := ∃ h b : Tm, e = .returned (clVal h b) ∧ h.In w' ∧ b.In w' ∧ h.erase = t ∧ b.erase = u ∧ h.On S ∧ b.On S ∧ Gr w w'

set_option maxHeartbeats 2000000 in
set_option maxRecDepth 100000 in
theorem copied_calls (h b : Tm) (w : World) (hh : h.In w) (hb : b.In w) (fh : h.erase.formed = true) (fb : b.erase.formed = true) : Calls Tryz.prog 28 #[clVal h b] w (RetCl (w.heap.size ≤ ·) h.erase b.erase w) := by
  have Hh := Lib.hid hh
  have Hb := Lib.hid hb
  have Fh := Lib.hid fh
  have Fb := Lib.hid fb
  have hR : Hid (∀ (hm bm : Tm) (w' : World), hm.In w' → bm.In w' → hm.erase = h.erase → bm.erase = b.erase → hm.On (w.heap.size ≤ ·) → bm.On (w.heap.size ≤ ·) → Gr w w' → RetCl (w.heap.size ≤ ·) h.erase b.erase w (.returned (clVal hm bm)) w') := fun hm bm w' h1 h2 h3 h4 h5 h6 hg => ⟨hm, bm, rfl, h1, h2, h3, h4, h5, h6, hg⟩
  generalize hQ : RetCl (w.heap.size ≤ ·) h.erase b.erase w = Q at *
  clear hQ hh hb fh fb
  rw [clVal_eq]
  go_enter Tryz.func28, Tryz.ntmps28
  try simp only [List.append_eq, List.cons_append, List.nil_append]
  go_upto_region 1 with fail
  obtain ⟨HB, HR, gA⟩ := blocks88 w (.int .i64 h.k) (.int .i64 h.n) (.string h.s) (.slice h.p h.l.length h.c) (.int .i64 b.k) (.int .i64 b.n) (.string b.s) (.slice b.p b.l.length b.c) (.int .i64 0) (.int .i64 0) (.string ⟨#[]⟩) (.slice none 0 0) (.int .i64 0) (.int .i64 0) (.string ⟨#[]⟩) (.slice none 0 0)
  generalize (w.alloc (.cells #[.int .i64 h.k, .int .i64 h.n, .string h.s, .slice h.p h.l.length h.c, .int .i64 b.k, .int .i64 b.n, .string b.s, .slice b.p b.l.length b.c] 29)).alloc (.cells #[.int .i64 0, .int .i64 0, .string ⟨#[]⟩, .slice none 0 0, .int .i64 0, .int .i64 0, .string ⟨#[]⟩, .slice none 0 0] 29) = w1 at *
  obtain ⟨c0, c1, c2, c3, c4, c5, c6, c7⟩ := HB.out.cells
  have hltR := HR.out.lt
  refine wp_region_rely_tail 7 [fx (.pointer (some ⟨w.heap.size, 0, none⟩)), fx h.val, tmIs (w1.heap.size ≤ ·) h.erase, fx (.pointer (some ⟨w.heap.size, 4, none⟩)), fx b.val, tmIs (w1.heap.size ≤ ·) b.erase, clNew (w1.heap.size ≤ ·) h.erase b.erase]
    (by kernel_rfl) (by kernel_rfl) (by decide) (by repeat (first | exact Stable.nil | refine Stable.fix ?_ | refine Stable.cons tmIs_stable ?_ | refine Stable.cons clNew_stable ?_)) ?_ ?_
  · refine ⟨?_, ?_, ?a2, ?_, ?_, ?a5, ?a6, trivial⟩
    all_goals
      intro a wr hg hold
      have h1 : a.tmps[1]?.getD undef = .pointer (some ⟨w.heap.size, 0, none⟩) := hold 1 rfl
      clear hold
      have z0 := Gr.at hg c0
      have z1 := Gr.at hg c1
      have z2 := Gr.at hg c2
      have z3 := Gr.at hg c3
      have z4 := Gr.at hg c4
      have z5 := Gr.at hg c5
      have z6 := Gr.at hg c6
      have z7 := Gr.at hg c7
      have gr1 : Gr w wr := gA.trans hg
      clear c0 c1 c2 c3 c4 c5 c6 c7
      simp [predsImp, Region.binds, dstAt, fx]
      intros
      first
        | (rw [if_pos (by simp [*])]
           intro K hK)
        | (rename_i K hK)
      go_simp
    case a2 =>
      refine (copy_calls (t := h) (Tm.In_below gr1 Hh.out) Fh.out).mono ?_
      rintro e w10 ⟨z, i1, i2, rfl, ib, i3⟩
      exact hK _ _ ⟨z, rfl, i1, i2, i3.mono fun b hb => Nat.le_trans hg.size hb⟩ ib
    case a5 =>
      refine (copy_calls (t := b) (Tm.In_below gr1 Hb.out) Fb.out).mono ?_
      rintro e w10 ⟨z, i1, i2, rfl, ib, i3⟩
      exact hK _ _ ⟨z, rfl, i1, i2, i3.mono fun b hb => Nat.le_trans hg.size hb⟩ ib
    case a6 =>
      have hp : tmIs (w1.heap.size ≤ ·) h.erase (a.tmps[5]?.getD undef) wr := by assumption
      have hq : tmIs (w1.heap.size ≤ ·) b.erase (a.tmps[8]?.getD undef) wr := by assumption
      obtain ⟨r1, e1, i1, j1, o1⟩ := hp
      obtain ⟨r2, e2, i2, j2, o2⟩ := hq
      rw [e1, e2]
      simp only [Tm.val]
      go_simp
      exact hK _ _ ⟨r1, r2, rfl, i1, i2, j1, j2, o1, o2⟩ (Gr.rfl' _)
    all_goals exact hK _ _ rfl (Gr.rfl' _)
  · intro wr hg
    have gr1 : Gr w wr := gA.trans hg
    obtain ⟨y0, y1, y2, y3, y4, y5, y6, y7⟩ := (HR.out.gr hg).cells
    obtain ⟨f0, f1, f2, f3, f4, f5, f6, f7⟩ := (HR.out.gr hg).open_
    rintro _ rfl _ rfl _ ⟨_, rfl, _, _, _⟩ _ rfl _ rfl _ ⟨_, rfl, _, _, _⟩ _ ⟨r1, r2, rfl, i1, i2, j1, j2, o1, o2⟩
    have hs1 := gA.size
    have hsg := hg.size
    have I1 := Lib.hid i1
    have I2 := Lib.hid i2
    have J1 := Lib.hid j1
    have J2 := Lib.hid j2
    have O1 := Lib.hid o1
    have O2 := Lib.hid o2
    clear i1 i2 j1 j2 o1 o2 c0 c1 c2 c3 c4 c5 c6 c7
    simp only [finAll, Act.put, List.setIfInBounds_toArray, List.set_cons_succ, List.set_cons_zero, clVal_four, List.drop_succ_cons, List.drop_zero, List.take_zero]
    have hfin : Hid (∀ W, Kp (fun b => b = w.heap.size + 1) wr W → Q (.returned (clVal r1 r2)) W) := by
      intro W hK
      refine hR.out r1 r2 W (in_after' I1.out O1.out fun b h1 hb o => World.cell?_of_block (hK.block b hb (by omega))) (in_after' I2.out O2.out fun b h1 hb o => World.cell?_of_block (hK.block b hb (by omega))) J1.out J2.out (O1.out.mono fun b hb => by omega) (O2.out.mono fun b hb => by omega) (Below.trans gr1 (hK.below (B := w.heap.size) (fun b hb => by omega) (by omega)))
    go_wp2_with fail
    refine bodyPost_ret (v := clVal r1 r2) (by simp (maxDischargeDepth := 9) [results, Tryz.results28, go_sem, clVal, y0, y1, y2, y3, y4, y5, y6, y7]) rfl ?_
    exact hfin.out _ ((Kp.set4 (C := fun b => b = w.heap.size + 1) rfl).trans (Kp.set4 (C := fun b => b = w.heap.size + 1) rfl))

set_option maxRecDepth 100000 in
theorem of_calls (t : Tm) (w : World) : Calls Tryz.prog 26 #[t.val] w (Ret (.agg #[.string t.s, .int .i64 t.l.length]) w) := by
  have hR : Hid (∀ w', Gr w w' → Ret (.agg #[.string t.s, .int .i64 t.l.length]) w (.returned (.agg #[.string t.s, .int .i64 t.l.length])) w') := fun w' hg => ⟨rfl, hg⟩
  generalize hQ : Ret (.agg #[.string t.s, .int .i64 t.l.length]) w = Q at hR ⊢
  clear hQ
  simp only [Tm.val]
  go_enter Tryz.func26, Tryz.ntmps26
  go_wp2_with fail
  exact bodyPost_ret (v := .agg #[.string t.s, .int .i64 t.l.length]) (by simp (maxDischargeDepth := 9) [results, Tryz.results26, go_sem]) rfl (hR.out _ (by go_grown))

/-- A new base: its world. -/
theorem new_calls (w : World) : Calls Tryz.prog 5 #[] w fun e w' => e = .returned (.pointer (some ⟨w.heap.size + 1 + 1, 0, none⟩)) ∧
    w' = ((w.alloc (.map #[] 0)).alloc (.map #[] 0)).alloc (.cells #[.int .i64 0, .slice none 0 0, .map (some w.heap.size), .map (some (w.heap.size + 1))] 57) := by
  have hmm := @run_makeMap Tryz.prog
  go_enter Tryz.func5, Tryz.ntmps5
  go_wp2_with fail
  exact bodyPost_ret (v := .pointer (some ⟨w.heap.size + 1 + 1, 0, none⟩)) (by simp [results, Tryz.results5, go_sem]) rfl ⟨rfl, rfl⟩
end Go.Proofs.YtjdoflfdlhpbmaaGreat

namespace Go.Proofs.YtjdoflfdlhpbmaaGreat
open Go.RowKit Go.Maps Go.Lib


theorem infoHeld : (Tryz.prog.info? 73).map (fun i => (i.zero, i.size, i.bytes)) = some (some (.agg #[.int .i64 0, .int .i64 0, .int .i64 0, .string ⟨#[]⟩, .slice none 0 0, .int .i64 0, .int .i64 0, .string ⟨#[]⟩, .slice none 0 0]), 9, 120) := by kernel_rfl
set_option maxHeartbeats 1000000 in
set_option maxRecDepth 100000 in
theorem grow_calls (w : World) : Calls Tryz.prog 54 #[.slice none 0 0, .int .i64 1] w fun e w' => ∃ v, e = .returned v ∧ w'.ownsRow w.heap.size 73 9 v 0 [] ∧ Gr w w' := by
  obtain ⟨i0, hi, hz0, hz1, hz2⟩ := info_parts infoHeld
  have hr := run_append_nil_zeros (P := Tryz.prog) w 70 3 70 73 i0 _ .i64 .i64 Tryz.underlying70 Tryz.underlying3 hi hz0 1 (by decide) (by omega) (by decide) (by omega)
  have hge : 1 ≤ grownCap w 1 0 73 := grownCap_ge w 1 0 _
  have hcm : grownCap w 1 0 73 ≤ maxLen := grownCap_le_maxLen w 1 0 _ (by decide)
  generalize grownCap w 1 0 73 = C at *
  generalize hw1 : w.drew.alloc _ = w1 at hr
  have hown : w1.ownsRow w.heap.size 73 9 (.slice (some ⟨w.heap.size, 0, none⟩) 0 C) 0 [] := by
    rw [← hw1]
    refine ⟨by simp, .inr ⟨w.heap.size, C, _, rfl, Nat.le_refl _, heap_alloc_new w.drew _, Nat.zero_le _, hcm, ?_, by simp⟩⟩
    have h9 : (Value.agg #[.int .i64 0, .int .i64 0, .int .i64 0, .string ⟨#[]⟩, .slice none 0 0, .int .i64 0, .int .i64 0, .string ⟨#[]⟩, .slice none 0 0]).cells.size = 9 := rfl
    rw [Array.size_append, size_zeroCells, size_zeroCells, h9]
    omega
  have hgr : Gr w w1 := by rw [← hw1]; go_grown
  clear hw1
  have Hr := Lib.hid hr
  generalize hQ : (fun (e : Ending) (w' : World) => ∃ v, e = .returned v ∧ w'.ownsRow w.heap.size 73 9 v 0 [] ∧ Gr w w') = Q
  have hR : Hid (∀ v, w1.ownsRow w.heap.size 73 9 v 0 [] → Q (.returned v) w1) := fun v h => by rw [← hQ]; exact ⟨v, rfl, h, hgr⟩
  have Ho := Lib.hid hown
  clear hQ hr hown hgr hi hz0 hz1 hz2 hge hcm i0
  go_enter Tryz.func54, Tryz.ntmps54
  go_wp2_with (first
    | (refine wpList_append_run w rfl _ _ _ _ rfl _ _ (by rfl) (by rfl) _ _ Hr.out ?_)
    | fail)
  exact hR.out _ Ho.out

end Go.Proofs.YtjdoflfdlhpbmaaGreat
