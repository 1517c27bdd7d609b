/-
  hornref.Eval, whole
-/
import Derived.Test.YtgaijgadeodoeaaBA
import Derived.Test.YtgaijgadeodoeaaS1
namespace Go.Proofs.Ytgaijgadeodoeaa
open Go.RowKit

theorem toList_size {m : ByteArray} (h : m.size ≠ 0) : m.toList.isEmpty = false := by
  have := toList_length m
  cases hm : m.toList with
  | nil => rw [hm] at this; exact absurd this.symm h
  | cons x xs => rfl

theorem in_after {w2 W : World} {tb : Tm} {B : Nat} (hin : tb.In w2) (hon : tb.On (B ≤ ·)) (hc : ∀ b, B ≤ b → b < w2.heap.size → ∀ o, W.cell? ⟨b, o, none⟩ = w2.cell? ⟨b, o, none⟩) : tb.In W :=
  Tm.In.same (S := fun b => B ≤ b ∧ b < w2.heap.size) (fun b hb o => hc b hb.1 hb.2 o) hin (Tm.On.and hon (Tm.In.on hin))

def rEvalOf (t : Tm) : Prop := ∀ w : World, t.In w → Calls Try.prog 26 #[t.val] w (RetE (evalT t.erase) w)

set_option maxHeartbeats 2000000 in
set_option maxRecDepth 100000 in
theorem reval_one (k n : Int) (s : ByteArray) (p : Option Addr) (c : Nat) (x : Tm) (f : Int → Num) (w : World) (h : (Tm.mk k n s p c [x]).In w) (hk1 : k ≠ 1) (hk2 : k ≠ 2) (hf : prim1 s.toList = some f) (ih : rEvalOf x) :
    Calls Try.prog 26 #[(Tm.mk k n s p c [x]).val] w (RetE (evalT (Tm.mk k n s p c [x]).erase) w) := by
  have HT := Lib.hid h
  have HS := Lib.hid h.sl
  rw [Tm.In] at h
  obtain ⟨hk, hn, hs, hlc, hc, hp, hIn⟩ := h
  clear hp hIn
  have Hih := Lib.hid ih
  obtain ⟨b, o, rfl⟩ := HS.out.ptr (by simp)
  have hx := HS.out.elem 0 (by simp)
  simp only [List.getElem_cons_zero, Nat.zero_mul, Nat.add_zero] at hx
  obtain ⟨⟨c0, c1, c2, c3⟩, hxi, hbl⟩ := hx
  have Hx := Lib.hid hxi
  have Hf := Lib.hid hf
  have Hv : Hid (evaluable s.toList 1 = true) := by show _ = _; rw [evaluable_iff1 rfl, hf]; rfl
  simp only [Tm.val, Tm.k, Tm.n, Tm.s, Tm.p, Tm.c, Tm.l, Tm.erase, Tm.eraseL]
  generalize hr : evalT (.mk k n s.toList [x.erase]) = r
  rw [evalT_one hk1 hk2, hf] at hr
  have Hr := Lib.hid hr
  have hk1' : (k == 1) = false := beq_eq_false_iff_ne.2 hk1
  have hk2' : (k == 2) = false := beq_eq_false_iff_ne.2 hk2
  clear hk1 hk2 hf ih hxi hr
  go_enter Try.func26, Try.ntmps26
  go_wp2_with fail
  refine (evaluable_calls s 1 _).mono ?_
  rw [Hv.out]
  rintro e w1 ⟨rfl, hb1⟩
  have HR : Hid (Blk4 w1 (w.heap.size + 1) (.int .i64 0) (.int .i64 0) (.string ⟨#[]⟩) (.slice none 0 0)) := Blk4.gr (by have := Blk4.new (w.alloc (.cells #[.int .i64 k, .int .i64 n, .string s, .slice (some ⟨b, o, none⟩) 1 c] 28)) (.int .i64 0) (.int .i64 0) (.string ⟨#[]⟩) (.slice none 0 0); simpa only [World.size_alloc] using this) hb1
  have HB : Hid (Blk4 w1 w.heap.size (.int .i64 k) (.int .i64 n) (.string s) (.slice (some ⟨b, o, none⟩) 1 c)) := Blk4.gr (Blk4.old (Blk4.new w (.int .i64 k) (.int .i64 n) (.string s) (.slice (some ⟨b, o, none⟩) 1 c)) _) hb1
  have g1 : Gr w w1 := below_step hb1 (by go_grown)
  obtain ⟨⟨b0, b1, b2, b3⟩, _, _⟩ := HB.out.parts
  replace c0 := Gr.at g1 c0; replace c1 := Gr.at g1 c1; replace c2 := Gr.at g1 c2; replace c3 := Gr.at g1 c3
  clear hb1
  go_wp2_with fail
  refine (Hih.out _ (Tm.In_below (by go_grown) Hx.out)).mono ?_
  have hs1 : w.heap.size + 1 < w1.heap.size := HR.out.parts.2.2
  clear b0 b1 b2 b3 c0 c1 c2 c3
  cases hev : evalT x.erase with
  | bad bb =>
    rintro e w2 ⟨tb, hin, he, hon, rfl, hb2⟩
    have g2 : Gr w w2 := g1.trans hb2
    have HR2 : Hid _ := Lib.hid (Blk4.gr HR.out hb2)
    obtain ⟨⟨y0, y1, y2, y3⟩, ⟨f0, f1, f2, f3⟩, hlt⟩ := HR2.out.parts
    have e0 : Hid (r = .bad bb) := by show r = _; rw [← Hr.out, hev]
    have hs2 := hb2.size
    have Hin := Lib.hid hin
    have Hon := Lib.hid hon
    have He := Lib.hid he
    clear hin hon hb2 he hev
    obtain ⟨k', n', s', p', c', l'⟩ := tb
    simp only [Tm.val, Tm.k, Tm.n, Tm.s, Tm.p, Tm.c, Tm.l]
    go_wp2_with fail
    go_region
    all_goals
      go_wp2_with fail
      refine bodyPost_ret (v := .tuple #[.int .i64 0, (Tm.mk k' n' s' p' c' l').val, .bool false]) (by simp [results, Try.results26, go_sem, Tm.val, Tm.k, Tm.n, Tm.s, Tm.p, Tm.c, Tm.l, World.cell?_alloc_lt, hlt, y0, y1, y2, y3]) rfl ?_
      refine rete_bad e0.out _ ?_ He.out (Hon.out.mono fun b hb => by omega) rfl (by go_grown)
      exact in_after Hin.out Hon.out fun b h1 h2 o => by
        rw [World.cell?_drew, World.cell?_alloc_past _ _ _ (by simpa using h2), cell_set_ne (by omega), cell_set_ne (by omega), cell_set_ne (by omega), cell_set_ne (by omega)]
  | ok a =>
    rintro e w2 ⟨rfl, hb2, ha⟩
    have g2 : Gr w w2 := g1.trans hb2
    have HR2 : Hid _ := Lib.hid (Blk4.gr HR.out hb2)
    have HB2 : Hid _ := Lib.hid (Blk4.gr HB.out hb2)
    obtain ⟨⟨b0, b1, b2, b3⟩, _, _⟩ := HB2.out.parts
    have e0 : Hid (r = (f a).ev) := by show r = _; rw [← Hr.out, hev]
    have hs2 := hb2.size
    have Ha := Lib.hid ha
    clear hb2 hev ha
    simp only [zeroTm, Tm.val, Tm.k, Tm.n, Tm.s, Tm.p, Tm.c, Tm.l, List.length_nil]
    go_wp2_with fail
    refine (unary_calls s f a _ Hf.out Ha.out).mono ?_
    cases hq : f a with
    | ok m =>
      rintro e w3 ⟨rfl, hb3, hm⟩
      have g3 : Gr w w3 := g2.trans (below_step hb3 (by go_grown))
      have HR3 : Hid _ := Lib.hid (Blk4.gr HR2.out (below_step hb3 (by go_grown)))
      obtain ⟨⟨y0, y1, y2, y3⟩, ⟨f0, f1, f2, f3⟩, hlt⟩ := HR3.out.parts
      have Hm := Lib.hid hm
      have e1 : Hid (r = .ok m) := by show r = _; rw [e0.out, hq]; rfl
      clear hb3 hm hq e0 b0 b1 b2 b3
      go_wp2_with fail
      refine bodyPost_ret (v := .tuple #[.int .i64 m, zeroTm.val, .bool true]) (by simp [results, Try.results26, go_sem, zeroTm, Tm.val, Tm.k, Tm.n, Tm.s, Tm.p, Tm.c, Tm.l, hlt, y0, y1, y2, y3]) rfl ?_
      exact rete_ok e1.out rfl (by go_grown) Hm.out
    | bad sb =>
      rintro e w3 ⟨m, hms, hm100, hm0, rfl, hb3⟩
      have g3 : Gr w w3 := g2.trans (below_step hb3 (by go_grown))
      have HR3 : Hid _ := Lib.hid (Blk4.gr HR2.out (below_step hb3 (by go_grown)))
      have Hms := Lib.hid hms
      have Hm100 := Lib.hid hm100
      have e1 : Hid (r = .bad (atomT sb)) := by show r = _; rw [e0.out, hq]; rfl
      have hmt := mtest hm0
      have hmt2 := toList_size hm0
      clear hb3 hms hm0 hm100 hq e0 b0 b1 b2 b3
      go_wp2_with fail
      refine (rA_calls' _ _).mono ?_
      rintro e w4 ⟨rfl, hb4⟩
      have HR4 : Hid _ := Lib.hid (Blk4.gr HR3.out hb4)
      obtain ⟨⟨y0, y1, y2, y3⟩, ⟨f0, f1, f2, f3⟩, hlt⟩ := HR4.out.parts
      have g4 : Gr w w4 := g3.trans hb4
      clear hb4 hmt hmt2
      go_wp2_with fail
      refine bodyPost_ret (v := .tuple #[.int .i64 0, (atomTm m).val, .bool false]) (by simp [results, Try.results26, go_sem, atomTm, Tm.val, Tm.k, Tm.n, Tm.s, Tm.p, Tm.c, Tm.l, hlt, y0, y1, y2, y3]) rfl ?_
      exact rete_bad e1.out _ (atomTm_in (by have := Hm100.out; omega) _) (by rw [atomTm_erase, Hms.out]) (atomTm_on _) rfl (by go_grown)
end Go.Proofs.Ytgaijgadeodoeaa
