/-
  text.Default$1: some operators more of one kind and priority.
-/
import Derived.Test.YtgaijgadeodoeaaDoorQ6
import Derived.Test.YtgaijgadeodoeaaDoorQ4
import Derived.Great.Walk
namespace Go.Proofs.YtgaijgadeodoeaaDoor
open Go.RowKit

/-- The variable in block R holds a slice of the call's own of just these operators. -/
def OpSt (w : World) (B R : Nat) (l : List Opv) : Prop := ∃ v, w.cell? ⟨R, 0, none⟩ = some v ∧ BuiltOps w B v l ∧ v.ownBlock ≠ some R ∧ w.frozen? ⟨R, 0, none⟩ = false

theorem OpSt.lt {w : World} {B R : Nat} {l : List Opv} (h : OpSt w B R l) : R < w.heap.size := by
  obtain ⟨v, h1, _⟩ := h
  exact World.block_lt_of_cell? _ _ h1

theorem OpSt.gr {w w' : World} {B R : Nat} {l : List Opv} (h : OpSt w B R l) (hg : Gr w w') : OpSt w' B R l := by
  have hlt := h.lt
  obtain ⟨v, h1, h2, h3, h4⟩ := h
  exact ⟨v, hg.at h1, h2.gr hg, h3, by rw [World.frozen?_of_block (hg.block _ hlt)]; exact h4⟩

theorem OpSt.store {w : World} {B R : Nat} {v u : Value} {l : List Opv} (h : BuiltOps w B v l) (e : w.cell? ⟨R, 0, none⟩ = some u) (f : w.frozen? ⟨R, 0, none⟩ = false) (hv : v.ownBlock ≠ some R) : OpSt (w.setCell ⟨R, 0, none⟩ v) B R l := by
  refine ⟨v, World.cell?_setCell_same _ _ _ e, ⟨h.1, h.2.imp id ?_⟩, hv, by rw [World.frozen?_setCell]; exact f⟩
  rintro ⟨g, cap, cur, rfl, h2, h3, h4⟩
  exact ⟨g, cap, cur, rfl, h2, by rw [Below.heap_setCell _ _ _ _ (by simpa [Value.ownBlock] using hv)]; exact h3, h4⟩

/-- Slices of strings. -/
def StrRow (w : World) (b : Nat) (l : List ByteArray) : Prop := ∀ (i : Nat) (x : ByteArray), l[i]? = some x → w.cell? ⟨b, i, none⟩ = some (.string x)

set_option maxHeartbeats 1000000 in
set_option maxRecDepth 100000 in
theorem add_calls (B R nb nc : Nat) (kind prio : Int) (names : List ByteArray) (l : List Opv) (w : World) (h : OpSt w B R l) (hBR : B ≤ R) (hBw : B ≤ w.heap.size) (hn : StrRow w nb names) (hnb : nb < w.heap.size)
    (hnR : nb ≠ R) (hnv : ∀ v, w.cell? ⟨R, 0, none⟩ = some v → v.ownBlock ≠ some nb) (hsz : names.length ≤ 1000) (hlz : l.length ≤ 1000) :
    Calls Tryd.prog 25 #[.int .i64 kind, .int .i64 prio, .slice (some ⟨nb, 0, none⟩) names.length nc, .pointer (some ⟨R, 0, none⟩)] w fun e w' =>
      e = .returned (.tuple #[]) ∧ OpSt w' B R (l ++ names.map fun n => ⟨n, prio, kind⟩) ∧ Below B w w' := by
  go_enter Tryd.func25, Tryd.ntmps25
  go_wp2_with fail
  go_loopg [11] names.length (fun m i wr => ∃ k : Nat, k ≤ names.length ∧ m = names.length - k ∧ i = .int .i64 k ∧ OpSt wr B R (l ++ (names.take k).map fun n => ⟨n, prio, kind⟩) ∧ Below B w wr ∧ StrRow wr nb names ∧ nb < wr.heap.size ∧ ∀ v, wr.cell? ⟨R, 0, none⟩ = some v → v.ownBlock ≠ some nb)
  case atStart => exact ⟨0, Nat.zero_le _, rfl, rfl, by simpa using h, Below.refl _ _, hn, hnb, hnv⟩
  case round =>
    obtain ⟨k, hk, rfl, rfl, hst, hbel, hrow, hnbl, hne⟩ := hrel
    by_cases hlt : k < names.length
    · have hx := hrow k names[k] (List.getElem?_eq_getElem hlt)
      have hRl := hst.lt
      obtain ⟨v, c0, hv, hvR, hfz⟩ := hst
      obtain ⟨p0, c0', rfl⟩ := hv.form
      have hvn := hne _ c0
      have Hap : Hid (∀ y, (l ++ (names.take k).map fun n => ⟨n, prio, kind⟩) ++ [(⟨names[k], prio, kind⟩ : Opv)] = y → (l ++ (names.take (k + 1)).map fun n => ⟨n, prio, kind⟩) = y) := by
        rintro y rfl
        rw [List.take_succ_eq_append_getElem hlt, List.map_append, List.append_assoc]
        rfl
      have hlen : ((l ++ (names.take k).map fun n => (⟨n, prio, kind⟩ : Opv)).length + 1) * 32 ≤ 140737488351232 := by
        rw [List.length_append, List.length_map, List.length_take]
        omega
      generalize names[k] = x at *
      generalize (l ++ (names.take k).map fun n => (⟨n, prio, kind⟩ : Opv)) = lk at *
      have hBR' : B ≤ wr.heap.size := Nat.le_trans hBw hbel.size
      have hblk := hv.block
      have hblt := hv.blt
      go_wp2_with (first | (at_builtin; go_loud (refine wpList_append_op rfl _ _ rfl rfl B (.slice p0 lk.length c0') lk ⟨x, prio, kind⟩ wr.heap.size 1 rfl rfl (hv.gr (by go_grown)) (by simp; omega) hlen (cells3 _ _ _ _ _).1 (cells3 _ _ _ _ _).2.1 (cells3 _ _ _ _ _).2.2 ?_; intro v' w1 hb1 hg1 hv1; obtain ⟨p', c', rfl⟩ := hb1.form; generalize hln : (lk ++ [(⟨x, prio, kind⟩ : Opv)]).length = ln at hb1 hv1 ⊢; have e0 : w1.cell? ⟨R, 0, none⟩ = some (.slice p0 _ c0') := (World.cell?_of_block (hg1.block R (by simp; omega) (by simpa using Ne.symm hvR))).trans (Gr.at (by go_grown) c0); have f0 : w1.frozen? ⟨R, 0, none⟩ = false := (World.frozen?_of_block (hg1.block R (by simp; omega) (by simpa using Ne.symm hvR))).trans (Gr.fz (by go_grown) c0 hfz); clear hln)) | fail)
      have hvR' : (Value.slice p' ln c').ownBlock ≠ some R := by
        rcases hv1 with h1 | h1
        · rw [h1]; exact hvR
        · rw [h1]; simp; omega
      have hvn' : (Value.slice p' ln c').ownBlock ≠ some nb := by
        rcases hv1 with h1 | h1
        · rw [h1]; exact hvn
        · rw [h1]; simp; omega
      have hb2 : Below B w w1 := (hbel.trans (Below.alloc (Below.refl _ _) hBR' _)).trans (grownBy_below hg1 (by simp; omega) hblk)
      have hst' := OpSt.store hb1 e0 f0 hvR'
      rw [← Hap.out _ rfl] at hst'
      have hne' : nb ≠ R := hnR
      go_roundg (names.length - (k + 1))
      case measure => omega
      case rel =>
        refine ⟨k + 1, by omega, rfl, by go_num, hst', Below.setCell hb2 hBR _, fun i y hy => ?_, ?_, fun u hu => ?_⟩
        · rw [cell_set_ne hnR]
          rw [World.cell?_of_block (hg1.block nb (by simp; omega) (by simpa using Ne.symm hvn))]
          exact Gr.at (by go_grown) (hrow i y hy)
        · rw [World.size_setCell]
          exact Nat.lt_of_lt_of_le hnbl (Nat.le_trans (by simp) hg1.size)
        · rw [World.cell?_setCell_same _ _ _ e0] at hu
          cases hu
          exact hvn'
    · obtain rfl : k = names.length := by omega
      rw [List.take_length] at hst
      go_wp2_with fail
      exact Go.Great.bodyPost_end0 rfl rfl ⟨rfl, hst, hbel⟩
end Go.Proofs.YtgaijgadeodoeaaDoor
