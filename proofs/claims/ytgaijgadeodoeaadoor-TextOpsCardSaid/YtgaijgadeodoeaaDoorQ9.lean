/-
  text.Default
-/
import Derived.Test.YtgaijgadeodoeaaDoorQ8
namespace Go.Proofs.YtgaijgadeodoeaaDoor
open Go.RowKit

theorem add_next (W : World) (B R nc : Nat) (t : TypeId) (l : List Opv) (g : OpGroup) (h : OpSt W B R l) (hBR : B ≤ R) (hBw : B ≤ W.heap.size) (hsz : g.l.length ≤ 1000) (hlz : l.length ≤ 1000) :
    Calls Tryd.prog 25 #[.int .i64 g.t, .int .i64 g.p, .slice (some ⟨W.heap.size, 0, none⟩) g.l.length nc, .pointer (some ⟨R, 0, none⟩)] (W.alloc (.cells (g.l.map Value.string).toArray t)) fun e w' =>
      e = .returned (.tuple #[]) ∧ OpSt w' B R (l ++ g.ops) ∧ Below B W w' := by
  have hg : Gr W (W.alloc (.cells (g.l.map Value.string).toArray t)) := by go_grown
  have hR := h.lt
  refine (add_calls B R W.heap.size nc g.t g.p g.l l _ (h.gr hg) hBR (Nat.le_trans hBw hg.size) (fun i x hx => ?_) (by simp) (by omega) (fun v hv => ?_) hsz hlz).mono ?_
  · rw [World.cell?_alloc_at _ _ _ _ rfl, List.getElem?_toArray, List.getElem?_map, hx]
    rfl
  · obtain ⟨u, h1, h2, h3, h4⟩ := h
    rw [hg.at h1] at hv
    cases hv
    intro e
    have := h2.blt _ e
    omega
  · rintro e w' ⟨rfl, h1, h2⟩
    exact ⟨rfl, h1, (Below.mono hg hBw).trans h2⟩

/-- Operators of the call's own are handed back. -/
def RetOps (l : List Opv) (w : World) (e : Ending) (w' : World) : Prop := ∃ v, e = .returned v ∧ BuiltOps w' w.heap.size v l ∧ Gr w w'

set_option maxHeartbeats 1000000 in
set_option maxRecDepth 100000 in
theorem default_calls (w : World) : Calls Tryd.prog 6 #[] w (RetOps defaults w) := by
  have hen : ∀ args w, (callFunc 25 args).run Tryd.prog w = .ok (.enter 25 args) w := fun args w => by kernel_rfl
  go_enter Tryd.func6, Tryd.ntmps6
  go_upto_region 3 with fail
  have h0 : OpSt (w.alloc (.cells #[.slice none 0 0] 22)) w.heap.size w.heap.size [] := ⟨_, by rw [World.cell?_alloc_at _ _ _ _ rfl]; rfl, BuiltOps.nil _ _, by simp [Value.ownBlock], World.frozen?_alloc_new _ _ _ _⟩
  have b0 : Gr w (w.alloc (.cells #[.slice none 0 0] 22)) := by go_grown
  generalize w.alloc (.cells #[.slice none 0 0] 22) = w0 at *
  go_upto_region 4 with (first | (go_at_call 25; go_loud (refine (add_next w0 w.heap.size w.heap.size _ _ [] grp0 h0 (Nat.le_refl _) b0.size (by decide) (by decide)).mono ?_; rintro e w1 ⟨rfl, h1, hb⟩; have b1 := Below.trans b0 hb; clear hb h0)) | fail)
  go_upto_region 5 with (first | (go_at_call 25; go_loud (refine (add_next w1 w.heap.size w.heap.size _ _ ([] ++ grp0.ops) grp1 h1 (Nat.le_refl _) b1.size (by decide) (by decide)).mono ?_; rintro e w2 ⟨rfl, h2, hb⟩; have b2 := Below.trans b1 hb; clear hb h1)) | fail)
  go_upto_region 6 with (first | (go_at_call 25; go_loud (refine (add_next w2 w.heap.size w.heap.size _ _ (([] ++ grp0.ops) ++ grp1.ops) grp2 h2 (Nat.le_refl _) b2.size (by decide) (by decide)).mono ?_; rintro e w3 ⟨rfl, h3, hb⟩; have b3 := Below.trans b2 hb; clear hb h2)) | fail)
  go_upto_region 7 with (first | (go_at_call 25; go_loud (refine (add_next w3 w.heap.size w.heap.size _ _ ((([] ++ grp0.ops) ++ grp1.ops) ++ grp2.ops) grp3 h3 (Nat.le_refl _) b3.size (by decide) (by decide)).mono ?_; rintro e w4 ⟨rfl, h4, hb⟩; have b4 := Below.trans b3 hb; clear hb h3)) | fail)
  go_upto_region 8 with (first | (go_at_call 25; go_loud (refine (add_next w4 w.heap.size w.heap.size _ _ (((([] ++ grp0.ops) ++ grp1.ops) ++ grp2.ops) ++ grp3.ops) grp4 h4 (Nat.le_refl _) b4.size (by decide) (by decide)).mono ?_; rintro e w5 ⟨rfl, h5, hb⟩; have b5 := Below.trans b4 hb; clear hb h4)) | fail)
  go_upto_region 9 with (first | (go_at_call 25; go_loud (refine (add_next w5 w.heap.size w.heap.size _ _ ((((([] ++ grp0.ops) ++ grp1.ops) ++ grp2.ops) ++ grp3.ops) ++ grp4.ops) grp5 h5 (Nat.le_refl _) b5.size (by decide) (by decide)).mono ?_; rintro e w6 ⟨rfl, h6, hb⟩; have b6 := Below.trans b5 hb; clear hb h5)) | fail)
  go_upto_region 10 with (first | (go_at_call 25; go_loud (refine (add_next w6 w.heap.size w.heap.size _ _ (((((([] ++ grp0.ops) ++ grp1.ops) ++ grp2.ops) ++ grp3.ops) ++ grp4.ops) ++ grp5.ops) grp6 h6 (Nat.le_refl _) b6.size (by decide) (by decide)).mono ?_; rintro e w7 ⟨rfl, h7, hb⟩; have b7 := Below.trans b6 hb; clear hb h6)) | fail)
  go_upto_region 11 with (first | (go_at_call 25; go_loud (refine (add_next w7 w.heap.size w.heap.size _ _ ((((((([] ++ grp0.ops) ++ grp1.ops) ++ grp2.ops) ++ grp3.ops) ++ grp4.ops) ++ grp5.ops) ++ grp6.ops) grp7 h7 (Nat.le_refl _) b7.size (by decide) (by decide)).mono ?_; rintro e w8 ⟨rfl, h8, hb⟩; have b8 := Below.trans b7 hb; clear hb h7)) | fail)
  go_upto_region 12 with (first | (go_at_call 25; go_loud (refine (add_next w8 w.heap.size w.heap.size _ _ (((((((([] ++ grp0.ops) ++ grp1.ops) ++ grp2.ops) ++ grp3.ops) ++ grp4.ops) ++ grp5.ops) ++ grp6.ops) ++ grp7.ops) grp8 h8 (Nat.le_refl _) b8.size (by decide) (by decide)).mono ?_; rintro e w9 ⟨rfl, h9, hb⟩; have b9 := Below.trans b8 hb; clear hb h8)) | fail)
  go_upto_region 13 with (first | (go_at_call 25; go_loud (refine (add_next w9 w.heap.size w.heap.size _ _ ((((((((([] ++ grp0.ops) ++ grp1.ops) ++ grp2.ops) ++ grp3.ops) ++ grp4.ops) ++ grp5.ops) ++ grp6.ops) ++ grp7.ops) ++ grp8.ops) grp9 h9 (Nat.le_refl _) b9.size (by decide) (by decide)).mono ?_; rintro e w10 ⟨rfl, h10, hb⟩; have b10 := Below.trans b9 hb; clear hb h9)) | fail)
  go_upto_region 14 with (first | (go_at_call 25; go_loud (refine (add_next w10 w.heap.size w.heap.size _ _ (((((((((([] ++ grp0.ops) ++ grp1.ops) ++ grp2.ops) ++ grp3.ops) ++ grp4.ops) ++ grp5.ops) ++ grp6.ops) ++ grp7.ops) ++ grp8.ops) ++ grp9.ops) grp10 h10 (Nat.le_refl _) b10.size (by decide) (by decide)).mono ?_; rintro e w11 ⟨rfl, h11, hb⟩; have b11 := Below.trans b10 hb; clear hb h10)) | fail)
  obtain ⟨v, c0, hv, _, _⟩ := h11
  go_wp2_with fail
  go_ret
  exact ⟨v, rfl, hv, b11⟩
end Go.Proofs.YtgaijgadeodoeaaDoor
