/-
  (*base.Base).Look where the base has one clause.
-/
import Derived.Test.YtgaijgadeodoeaaWA
namespace Go.Proofs.Ytgaijgadeodoeaa
open Go.RowKit Go.Maps Go.Lib

def RetLook (w : World) (e : Ending) (w' : World) : Prop := ∃ q c, e = .returned (.tuple #[.slice q 1 c, .int .i64 0]) ∧ Gr w w'

set_option maxHeartbeats 8000000 in
set_option maxRecDepth 100000 in
theorem look_calls (B M1 M2 : Nat) (G : Tm) (t u : T) (w : World) (hB : OneBase w B M1 M2 G.s G.l.length t u) (hG : G.In w) (fG : G.erase.formed = true) (cG : G.erase.callable = true) (aG : G.l = []) (ft : t.formed = true) (fu : u.formed = true) (hs : G.s.size ≤ 1000) :
    Calls Try.prog 80 #[.pointer (some ⟨B, 0, none⟩), G.val] w (RetLook w) := by
  have hR : Hid (∀ (q : Option Addr) (c : Nat) (w' : World), Gr w w' → RetLook w (.returned (.tuple #[.slice q 1 c, .int .i64 0])) w') := fun q c w' h => ⟨q, c, rfl, h⟩
  generalize hQ : RetLook w = Q at hR ⊢
  clear hQ
  have hview := Lib.hid (fun W (hg : Gr w W) => view_calls B M1 M2 G t u W (hB.gr hg) (Tm.In_below hg hG) fG cG aG ft fu hs)
  clear hB hG fG cG aG ft fu hs
  have Hgv := Lib.hid (show G.val = .agg #[.int .i64 G.k, .int .i64 G.n, .string G.s, .slice G.p G.l.length G.c] from rfl)
  rw [Hgv.out]
  go_enter Try.func80, Try.ntmps80
  try simp only [List.append_eq, List.cons_append, List.nil_append]
  go_upto_region 1 with fail
  have hN := Blk4.new w (.int .i64 G.k) (.int .i64 G.n) (.string G.s) (.slice G.p G.l.length G.c)
  have gA : Gr w (w.alloc (.cells #[.int .i64 G.k, .int .i64 G.n, .string G.s, .slice G.p G.l.length G.c] 28)) := by go_grown
  generalize w.alloc (.cells #[.int .i64 G.k, .int .i64 G.n, .string G.s, .slice G.p G.l.length G.c] 28) = wA at *
  have HT := Lib.hid hN
  clear hN
  obtain ⟨⟨t0, t1, t2, t3⟩, _, _⟩ := HT.out.parts
  go_wp2_with (first
    | (go_at_call 119; rewrite [← Hgv.out]; refine (hview.out _ gA).mono ?_; rintro e wB ⟨V, g, cap, G2, h, b, rfl, hone, hcap, hV, hb⟩; have gB := gA.trans hb; have hVw : w.heap.size ≤ V := Nat.le_trans gA.size hV; have HO := Lib.hid hone; clear hone hb t0 t1 t2 t3)
    | fail)
  go_loopg [8] 1 (fun n v wr => ∃ x : Value, x = v ∧ Gr w wr ∧ ((n = 1 ∧ x = .slice none 0 0 ∧ Hid (OneView wr V g cap G2 h b)) ∨ (n = 0 ∧ ∃ q c, x = .slice q 1 c ∧ Hid (∃ q' c' g0 g1 g2 g3, BlkT wr V 162 #[.slice q' 0 c', g0, g1, g2, g3]))))
  case atStart => exact ⟨_, rfl, gB, .inl ⟨rfl, rfl, HO⟩⟩
  case round =>
    obtain ⟨x, rfl, gr, ⟨rfl, rfl, hone⟩ | ⟨rfl, q, c, rfl, hend⟩⟩ := hrel
    · go_wp2_with (first
        | (go_at_call 120; refine (next_first V g cap G2 h b _ hone.out hcap).mono ?_; rintro e wC ⟨h2, b2, rfl, ⟨q', c', g0, g1, g2, g3, hblk⟩, hkp⟩; have gC : Gr w wC := Below.trans gr (hkp.below (B := w.heap.size) (fun x hx => by omega) gr.size); have HE := Lib.hid hblk; rewrite [clVal_four]; clear hblk hkp)
        | (refine wpList_append_one rfl _ _ 24 3 rfl Try.underlying24 infoInt rfl (by decide) w.heap.size (.slice none 0 0) 0 [] _ 1 [.int .i64 1] (by rfl) (by rfl) (World.ownsRow_nil _ _ _ 1) (by have := gC.size; simp; omega) rfl (by
             intro j u hu
             match j, hu with
             | 0, hu => cases hu; go_simp
             | j + 1, hu => simp at hu) (by
             intro u hu
             simp only [List.mem_cons, List.mem_nil_iff, or_false] at hu
             rw [hu]; rfl) (by decide) (by decide) ?_
           intro v' w' h2' h3 h4
           have gl := grownBy_below h3 (Nat.le_refl _) fun k hk => by cases hk
           have gw' : Gr wC w' := below_step gl (by go_grown)
           obtain ⟨q, cq, rfl, _⟩ := row_form h2'
           clear h2' h3 h4 gl)
        | fail)
      go_roundg 0
      case measure => omega
      case rel => exact ⟨_, rfl, gC.trans gw', .inr ⟨rfl, q, cq, rfl, ⟨q', c', g0, g1, g2, g3, HE.out.gr gw'⟩⟩⟩
    · obtain ⟨q', c', g0, g1, g2, g3, hblk⟩ := hend.out
      have HE := Lib.hid hblk
      clear hblk hend
      go_wp2_with (first
        | (go_at_call 120; refine (next_end V q' c' g0 g1 g2 g3 _ HE.out).mono ?_; rintro e wC ⟨rfl, hb⟩; have gC := gr.trans hb; rewrite [clVal_four]; clear hb)
        | fail)
      have gsz := gC.size
      exact hR.out _ _ _ (gC.trans (by go_grown))
end Go.Proofs.Ytgaijgadeodoeaa
