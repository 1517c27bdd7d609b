/-
  base.Body
-/
import Derived.Test.YtgaijgadeodoeaaVB
namespace Go.Proofs.Ytgaijgadeodoeaa
open Go.RowKit

/-- A term is handed back, and an error's number. -/
def RetTE (r : T × Int) (w : World) (e : Ending) (w' : World) : Prop := ∃ bm : Tm, e = .returned (.tuple #[bm.val, .int .i64 r.2]) ∧ bm.In w' ∧ bm.erase = r.1 ∧ Gr w w'

def bodyAns (t : T) : T × Int := if t.formed then (match T.body t with
  | some u => (u, 0)
  | none => (zeroT, 7)) else (zeroT, 2)
theorem bodyAns_bad {t : T} (h : t.formed = false) : bodyAns t = (zeroT, 2) := by rw [bodyAns, h]; rfl
theorem bodyAns_none {t : T} (h : t.formed = true) (hb : T.body t = none) : bodyAns t = (zeroT, 7) := by rw [bodyAns, if_pos h, hb]
theorem bodyAns_some {t u : T} (h : t.formed = true) (hb : T.body t = some u) : bodyAns t = (u, 0) := by rw [bodyAns, if_pos h, hb]

theorem zeroTm_val : zeroTm.val = .agg #[.int .i64 0, .int .i64 0, .string ⟨#[]⟩, .slice none 0 0] := rfl
theorem formedL_one (t : Tm) : T.formedL (Tm.eraseL [t]) = t.erase.formed := by rw [Tm.eraseL, Tm.eraseL, T.formedL, T.formedL, Bool.and_true]

set_option maxHeartbeats 2000000 in
set_option maxRecDepth 100000 in
theorem Body_calls (t : Tm) (w : World) (hin : t.In w) : Calls Try.prog 117 #[t.val] w (RetTE (bodyAns t.erase) w) := by
  have Hin := Lib.hid hin
  have hR0 : Hid (∀ E : Int, bodyAns t.erase = (zeroT, E) → ∀ w', Gr w w' → RetTE (bodyAns t.erase) w (.returned (.tuple #[zeroTm.val, .int .i64 E])) w') := fun E hE w' hg => by rw [hE]; exact ⟨zeroTm, rfl, zeroTm_in _, zeroTm_erase, hg⟩
  have hR1 : Hid (∀ (bm : Tm), bodyAns t.erase = (bm.erase, 0) → ∀ w', bm.In w' → Gr w w' → RetTE (bodyAns t.erase) w (.returned (.tuple #[bm.val, .int .i64 0])) w') := fun bm hb w' hi hg => by rw [hb]; exact ⟨bm, rfl, hi, rfl, hg⟩
  have hfl := Lib.hid (formedL_one t)
  have hA2 := Lib.hid (fun h => bodyAns_bad (t := t.erase) h)
  have hA7 := Lib.hid (fun h h2 => bodyAns_none (t := t.erase) h h2)
  have hA0 := Lib.hid (fun u h h2 => bodyAns_some (t := t.erase) (u := u) h h2)
  generalize bodyAns t.erase = r at *
  generalize hQ : RetTE r w = Q at *
  clear hQ hin
  have Hv := Lib.hid (show t.val = .agg #[.int .i64 t.k, .int .i64 t.n, .string t.s, .slice t.p t.l.length t.c] from rfl)
  rw [Hv.out]
  go_enter Try.func117, Try.ntmps117
  try simp only [List.append_eq, List.cons_append, List.nil_append]
  go_upto_region 1 with fail
  obtain ⟨HB, HR, gA⟩ := two_blocks w (.int .i64 t.k) (.int .i64 t.n) (.string t.s) (.slice t.p t.l.length t.c) (.int .i64 0) (.int .i64 0) (.string ⟨#[]⟩) (.slice none 0 0)
  generalize (w.alloc (.cells #[.int .i64 t.k, .int .i64 t.n, .string t.s, .slice t.p t.l.length t.c] 28)).alloc (.cells #[.int .i64 0, .int .i64 0, .string ⟨#[]⟩, .slice none 0 0] 28) = wA at *
  obtain ⟨⟨b0, b1, b2, b3⟩, _, _⟩ := HB.out.parts
  have hszA : w.heap.size + 1 < wA.heap.size := HR.out.parts.2.2
  cases hf : t.erase.formed with
  | false =>
    have hv := Lib.hid (hR0.out 2 (hA2.out hf))
    have hff := Lib.hid (hfl.out.trans hf)
    clear hf
    go_wp2_with (first
      | (go_at_call 42; refine (all_calls (one_new (t := t) (Tm.In_below gA Hin.out) (Gr.rfl' _))).mono ?_; rintro e w' ⟨rfl, hb⟩; rewrite [hff.out]; have g2 : Gr wA w' := below_step hb (by go_grown); obtain ⟨⟨y0, y1, y2, y3⟩, ⟨f0, f1, f2, f3⟩, hlt⟩ := (HR.out.gr g2).parts; clear hb b0 b1 b2 b3)
      | fail)
    exact bodyPost_ret (by simp (maxDischargeDepth := 9) [results, Try.results117, go_sem, zeroTm, Tm.val, Tm.k, Tm.n, Tm.s, Tm.p, Tm.c, Tm.l, y0, y1, y2, y3]) rfl (hv.out _ (by have := gA.trans g2; go_grown))
  | true =>
    have hff := Lib.hid (hfl.out.trans hf)
    have Hf := Lib.hid hf
    clear hf
    cases hb : T.body t.erase with
    | none =>
      have hv := Lib.hid (hR0.out 7 (hA7.out Hf.out hb))
      have Hb := Lib.hid hb
      clear hb
      go_wp2_with (first
        | (go_at_call 42; refine (all_calls (one_new (t := t) (Tm.In_below gA Hin.out) (Gr.rfl' _))).mono ?_; rintro e w' ⟨rfl, hb⟩; rewrite [hff.out]; have g2 : Gr wA w' := below_step hb (by go_grown); clear hb b0 b1 b2 b3; obtain ⟨⟨b0, b1, b2, b3⟩, _, _⟩ := (HB.out.gr g2).parts)
        | (go_at_call 86; rewrite [← Hv.out]; refine (copy_calls (t := t) (Tm.In_below (gA.trans g2) Hin.out) Hf.out).mono ?_; rintro e w2 ⟨cm, hci, hce, rfl, hcb, hco⟩; have hcf := Lib.hid (hce ▸ Hf.out); have Hci := Lib.hid hci; have Hce := Lib.hid hce; have Hco := Lib.hid (Tm.On.and hco hci.on); have g3 := g2.trans hcb; clear hci hce hco hcb b0 b1 b2 b3)
        | (go_at_call 82; refine (body_calls (t := cm) (S := fun b => w'.heap.size ≤ b ∧ b < w2.heap.size) Hci.out hcf.out Hco.out (fun b hb => hb.2)).mono ?_; rw [Hce.out, Hb.out]; rintro e w3 ⟨bm, ok, rfl, hbi, rfl, _, hbb, _⟩; obtain ⟨kb, nb, sb, pb, cb, lb⟩ := bm; rewrite [tm_val]; have g4 := g3.trans hbb; obtain ⟨⟨y0, y1, y2, y3⟩, ⟨f0, f1, f2, f3⟩, hlt⟩ := (HR.out.gr g4).parts; clear hbi hbb)
        | fail)
      exact bodyPost_ret (by simp (maxDischargeDepth := 9) [results, Try.results117, go_sem, hlt, zeroTm, Tm.val, Tm.k, Tm.n, Tm.s, Tm.p, Tm.c, Tm.l, y0, y1, y2, y3]) rfl (hv.out _ (by have := gA.trans g4; go_grown))
    | some u =>
      have hv := Lib.hid (hA0.out u Hf.out hb)
      have Hb := Lib.hid hb
      clear hb
      go_wp2_with (first
        | (go_at_call 42; refine (all_calls (one_new (t := t) (Tm.In_below gA Hin.out) (Gr.rfl' _))).mono ?_; rintro e w' ⟨rfl, hb⟩; rewrite [hff.out]; have g2 : Gr wA w' := below_step hb (by go_grown); clear hb b0 b1 b2 b3; obtain ⟨⟨b0, b1, b2, b3⟩, _, _⟩ := (HB.out.gr g2).parts)
        | (go_at_call 86; rewrite [← Hv.out]; refine (copy_calls (t := t) (Tm.In_below (gA.trans g2) Hin.out) Hf.out).mono ?_; rintro e w2 ⟨cm, hci, hce, rfl, hcb, hco⟩; have hcf := Lib.hid (hce ▸ Hf.out); have Hci := Lib.hid hci; have Hce := Lib.hid hce; have Hco := Lib.hid (Tm.On.and hco hci.on); have g3 := g2.trans hcb; clear hci hce hco hcb b0 b1 b2 b3)
        | (go_at_call 82; refine (body_calls (t := cm) (S := fun b => w'.heap.size ≤ b ∧ b < w2.heap.size) Hci.out hcf.out Hco.out (fun b hb => hb.2)).mono ?_; rw [Hce.out, Hb.out]; rintro e w3 ⟨bm, ok, rfl, hbi, rfl, hbu, hbb, hbo⟩; have Hbi := Lib.hid hbi; have Hbu := Lib.hid (hbu u rfl); have Hbo := Lib.hid hbo; have hs2 := g2.size; have hs3 := g3.size; obtain ⟨kb, nb, sb, pb, cb, lb⟩ := bm; rewrite [tm_val]; have g4 := g3.trans hbb; obtain ⟨⟨y0, y1, y2, y3⟩, ⟨f0, f1, f2, f3⟩, hlt⟩ := (HR.out.gr g4).parts; clear hbi hbb hbu hbo)
        | fail)
      refine bodyPost_ret (v := .tuple #[(Tm.mk kb nb sb pb cb lb).val, .int .i64 0]) (by simp (maxDischargeDepth := 9) [results, Try.results117, go_sem, hlt, Tm.val, Tm.k, Tm.n, Tm.s, Tm.p, Tm.c, Tm.l, y0, y1, y2, y3]) rfl ?_
      refine hR1.out (.mk kb nb sb pb cb lb) (by rw [Hbu.out]; exact hv.out) _ ?_ (by have := gA.trans g4; go_grown)
      exact in_after' Hbi.out Hbo.out fun b h1 h2 o => by
        have h3 : b ≠ w.heap.size + 1 := by
          rcases h1 with h1 | h1
          · omega
          · omega
        rw [World.cell?_alloc_past _ _ _ (by simpa using h2), cell_set_ne h3, cell_set_ne h3, cell_set_ne h3, cell_set_ne h3]
end Go.Proofs.Ytgaijgadeodoeaa
