/-
  hornref.Eval of two, and whole
-/
import Derived.Test.YtgaijgadeodoeaaBC
namespace Go.Proofs.Ytgaijgadeodoeaa
open Go.RowKit

set_option maxHeartbeats 4000000 in
set_option maxRecDepth 100000 in
theorem reval_two (k n : Int) (s : ByteArray) (p : Option Addr) (c : Nat) (x y : Tm) (f : Int → Int → Num) (w : World) (h : (Tm.mk k n s p c [x, y]).In w) (hk1 : k ≠ 1) (hk2 : k ≠ 2) (hf : prim2 s.toList = some f) (ih : rEvalOf x) (ihy : rEvalOf y) :
    Calls Try.prog 26 #[(Tm.mk k n s p c [x, y]).val] w (RetE (evalT (Tm.mk k n s p c [x, y]).erase) w) := by
  have HT := Lib.hid h
  have HS := Lib.hid h.sl
  rw [Tm.In] at h
  obtain ⟨hk, hn, hs, hlc, hc, hp, hIn⟩ := h
  clear hp hIn
  have Hih := Lib.hid ih
  have Hihy := Lib.hid ihy
  obtain ⟨b, o, rfl⟩ := HS.out.ptr (by simp)
  have hx := HS.out.elem 0 (by simp)
  have hy := HS.out.elem 1 (by simp)
  simp only [List.getElem_cons_zero, List.getElem_cons_succ, Nat.zero_mul, Nat.add_zero, Nat.one_mul] at hx hy
  obtain ⟨⟨c0, c1, c2, c3⟩, hxi, hbl⟩ := hx
  obtain ⟨⟨d0, d1, d2, d3⟩, hyi, _⟩ := hy
  have Hx := Lib.hid hxi
  have Hy := Lib.hid hyi
  have Hf := Lib.hid hf
  have Hv : Hid (evaluable s.toList 2 = true) := by show _ = _; rw [evaluable_iff2 rfl, hf]; rfl
  simp only [Tm.val, Tm.k, Tm.n, Tm.s, Tm.p, Tm.c, Tm.l, Tm.erase, Tm.eraseL]
  generalize hr : evalT (.mk k n s.toList [x.erase, y.erase]) = r
  rw [evalT_two hk1 hk2, hf] at hr
  have Hr := Lib.hid hr
  have hk1' : (k == 1) = false := beq_eq_false_iff_ne.2 hk1
  have hk2' : (k == 2) = false := beq_eq_false_iff_ne.2 hk2
  clear hk1 hk2 hf ih ihy hxi hyi hr
  go_enter Try.func26, Try.ntmps26
  go_wp2_with fail
  refine (evaluable_calls s 2 _).mono ?_
  rw [Hv.out]
  rintro e w1 ⟨rfl, hb1⟩
  have HR : Hid (Blk4 w1 (w.heap.size + 1) (.int .i64 0) (.int .i64 0) (.string ⟨#[]⟩) (.slice none 0 0)) := Blk4.gr (by have := Blk4.new (w.alloc (.cells #[.int .i64 k, .int .i64 n, .string s, .slice (some ⟨b, o, none⟩) 2 c] 28)) (.int .i64 0) (.int .i64 0) (.string ⟨#[]⟩) (.slice none 0 0); simpa only [World.size_alloc] using this) hb1
  have HB : Hid (Blk4 w1 w.heap.size (.int .i64 k) (.int .i64 n) (.string s) (.slice (some ⟨b, o, none⟩) 2 c)) := Blk4.gr (Blk4.old (Blk4.new w (.int .i64 k) (.int .i64 n) (.string s) (.slice (some ⟨b, o, none⟩) 2 c)) _) hb1
  have g1 : Gr w w1 := below_step hb1 (by go_grown)
  obtain ⟨⟨b0, b1, b2, b3⟩, _, _⟩ := HB.out.parts
  replace c0 := Gr.at g1 c0; replace c1 := Gr.at g1 c1; replace c2 := Gr.at g1 c2; replace c3 := Gr.at g1 c3
  replace d0 := Gr.at g1 d0; replace d1 := Gr.at g1 d1; replace d2 := Gr.at g1 d2; replace d3 := Gr.at g1 d3
  clear hb1
  go_wp2_with fail
  refine (Hih.out _ (Tm.In_below (by go_grown) Hx.out)).mono ?_
  have hs1 : w.heap.size + 1 < w1.heap.size := HR.out.parts.2.2
  clear b0 b1 b2 b3 c0 c1 c2 c3
  cases hev : evalT x.erase with
  | bad bb =>
    rintro e w2 ⟨tb, hin, he, hon, rfl, hb2⟩
    have g2 : Gr w w2 := g1.trans hb2
    have HR2 : Hid _ := Lib.hid (Blk4.gr HR.out hb2)
    obtain ⟨⟨y0, y1, y2, y3⟩, ⟨f0, f1, f2, f3⟩, hlt⟩ := HR2.out.parts
    have e0 : Hid (r = .bad bb) := by show r = _; rw [← Hr.out, hev]
    have hs2 := hb2.size
    have Hin := Lib.hid hin
    have Hon := Lib.hid hon
    have He := Lib.hid he
    clear hin hon hb2 he hev d0 d1 d2 d3
    obtain ⟨k', n', s', p', c', l'⟩ := tb
    simp only [Tm.val, Tm.k, Tm.n, Tm.s, Tm.p, Tm.c, Tm.l]
    go_wp2_with fail
    go_region
    all_goals
      go_wp2_with fail
      refine bodyPost_ret (v := .tuple #[.int .i64 0, (Tm.mk k' n' s' p' c' l').val, .bool false]) (by simp [results, Try.results26, go_sem, Tm.val, Tm.k, Tm.n, Tm.s, Tm.p, Tm.c, Tm.l, hlt, y0, y1, y2, y3]) rfl ?_
      refine rete_bad e0.out _ ?_ He.out (Hon.out.mono fun b hb => by omega) rfl (by go_grown)
      exact in_after Hin.out Hon.out fun b h1 h2 o => by
        rw [World.cell?_drew, World.cell?_alloc_past _ _ _ (by simpa using h2), cell_set_ne (by omega), cell_set_ne (by omega), cell_set_ne (by omega), cell_set_ne (by omega)]
  | ok a =>
    rintro e w2 ⟨rfl, hb2, ha⟩
    have g2 : Gr w w2 := g1.trans hb2
    have HR2 : Hid _ := Lib.hid (Blk4.gr HR.out hb2)
    have HB2 : Hid _ := Lib.hid (Blk4.gr HB.out hb2)
    obtain ⟨⟨b0, b1, b2, b3⟩, _, hlt2⟩ := HB2.out.parts
    replace d0 := Gr.at hb2 d0; replace d1 := Gr.at hb2 d1; replace d2 := Gr.at hb2 d2; replace d3 := Gr.at hb2 d3
    have Hev := Lib.hid hev
    have hs2 := hb2.size
    have hbl2 : b < w2.heap.size := by have := g2.size; omega
    have Ha := Lib.hid ha
    clear hb2 hev ha
    simp only [zeroTm, Tm.val, Tm.k, Tm.n, Tm.s, Tm.p, Tm.c, Tm.l, List.length_nil]
    go_wp2_with fail
    refine (Hihy.out _ (Tm.In_below (by go_grown) Hy.out)).mono ?_
    clear b0 b1 b2 b3 d0 d1 d2 d3
    cases hevy : evalT y.erase with
    | bad bb =>
      rintro e w3 ⟨tb, hin, he, hon, rfl, hb3⟩
      have g3 : Gr w w3 := g2.trans (below_step hb3 (by go_grown))
      have HR3 : Hid _ := Lib.hid (Blk4.gr HR2.out (below_step hb3 (by go_grown)))
      obtain ⟨⟨y0, y1, y2, y3⟩, ⟨f0, f1, f2, f3⟩, hlt⟩ := HR3.out.parts
      have e0 : Hid (r = .bad bb) := by show r = _; rw [← Hr.out, Hev.out, hevy]
      have hs3 := hb3.size
      simp only [World.size_alloc, World.size_setCell] at hs3 hon
      have Hin := Lib.hid hin
      have Hon := Lib.hid hon
      have He := Lib.hid he
      clear hin hon hb3 he hevy
      obtain ⟨k', n', s', p', c', l'⟩ := tb
      simp only [Tm.val, Tm.k, Tm.n, Tm.s, Tm.p, Tm.c, Tm.l]
      go_wp2_with fail
      go_region
      all_goals
        go_wp2_with fail
        refine bodyPost_ret (v := .tuple #[.int .i64 0, (Tm.mk k' n' s' p' c' l').val, .bool false]) (by simp [results, Try.results26, go_sem, Tm.val, Tm.k, Tm.n, Tm.s, Tm.p, Tm.c, Tm.l, hlt, y0, y1, y2, y3]) rfl ?_
        refine rete_bad e0.out _ ?_ He.out (Hon.out.mono fun b hb => by omega) rfl (by go_grown)
        exact in_after Hin.out Hon.out fun b h1 h2 o => by
          rw [World.cell?_drew, World.cell?_alloc_past _ _ _ (by simpa using h2), cell_set_ne (by omega), cell_set_ne (by omega), cell_set_ne (by omega), cell_set_ne (by omega)]
    | ok a' =>
      rintro e w3 ⟨rfl, hb3, ha'⟩
      have g3 : Gr w w3 := g2.trans (below_step hb3 (by go_grown))
      have HR3 : Hid _ := Lib.hid (Blk4.gr HR2.out (below_step hb3 (by go_grown)))
      have HB3 : Hid _ := Lib.hid (Blk4.gr HB2.out (below_step hb3 (by go_grown)))
      obtain ⟨⟨b0, b1, b2, b3⟩, _, _⟩ := HB3.out.parts
      have e0 : Hid (r = (f a a').ev) := by show r = _; rw [← Hr.out, Hev.out, hevy]
      have Ha' := Lib.hid ha'
      clear hb3 hevy ha'
      simp only [zeroTm, Tm.val, Tm.k, Tm.n, Tm.s, Tm.p, Tm.c, Tm.l, List.length_nil]
      go_wp2_with fail
      refine (binary_calls s f a a' _ Hf.out Ha.out Ha'.out).mono ?_
      cases hq : f a a' with
      | ok m =>
        rintro e w4 ⟨rfl, hb4, hm⟩
        have g4 : Gr w w4 := g3.trans (below_step hb4 (by go_grown))
        have HR4 : Hid _ := Lib.hid (Blk4.gr HR3.out (below_step hb4 (by go_grown)))
        obtain ⟨⟨y0, y1, y2, y3⟩, ⟨f0, f1, f2, f3⟩, hlt⟩ := HR4.out.parts
        have Hm := Lib.hid hm
        have e1 : Hid (r = .ok m) := by show r = _; rw [e0.out, hq]; rfl
        clear hb4 hm hq e0 b0 b1 b2 b3
        go_wp2_with fail
        refine bodyPost_ret (v := .tuple #[.int .i64 m, zeroTm.val, .bool true]) (by simp [results, Try.results26, go_sem, zeroTm, Tm.val, Tm.k, Tm.n, Tm.s, Tm.p, Tm.c, Tm.l, hlt, y0, y1, y2, y3]) rfl ?_
        exact rete_ok e1.out rfl (by go_grown) Hm.out
      | bad sb =>
        rintro e w4 ⟨m, hms, hm100, hm0, rfl, hb4⟩
        have g4 : Gr w w4 := g3.trans (below_step hb4 (by go_grown))
        have HR4 : Hid _ := Lib.hid (Blk4.gr HR3.out (below_step hb4 (by go_grown)))
        have Hms := Lib.hid hms
        have Hm100 := Lib.hid hm100
        have e1 : Hid (r = .bad (atomT sb)) := by show r = _; rw [e0.out, hq]; rfl
        have hmt := mtest hm0
        have hmt2 := toList_size hm0
        clear hb4 hms hm0 hm100 hq e0 b0 b1 b2 b3
        go_wp2_with fail
        refine (rA_calls' _ _).mono ?_
        rintro e w5 ⟨rfl, hb5⟩
        have HR5 : Hid _ := Lib.hid (Blk4.gr HR4.out hb5)
        obtain ⟨⟨y0, y1, y2, y3⟩, ⟨f0, f1, f2, f3⟩, hlt⟩ := HR5.out.parts
        have g5 : Gr w w5 := g4.trans hb5
        clear hb5 hmt hmt2
        go_wp2_with fail
        refine bodyPost_ret (v := .tuple #[.int .i64 0, (atomTm m).val, .bool false]) (by simp [results, Try.results26, go_sem, atomTm, Tm.val, Tm.k, Tm.n, Tm.s, Tm.p, Tm.c, Tm.l, hlt, y0, y1, y2, y3]) rfl ?_
        exact rete_bad e1.out _ (atomTm_in (by have := Hm100.out; omega) _) (by rw [atomTm_erase, Hms.out]) (atomTm_on _) rfl (by go_grown)

theorem reval_any (N : Nat) : ∀ (t : Tm), SizeOf.sizeOf t ≤ N → rEvalOf t := by
  induction N with
  | zero => intro t h; cases t; simp at h
  | succ N ih =>
    intro t hN w h
    obtain ⟨k, n, s, p, c, l⟩ := t
    by_cases hk1 : k = 1
    · exact reval_leaf _ w h (.inl hk1)
    by_cases hk2 : k = 2
    · exact reval_leaf _ w h (.inr hk2)
    by_cases hv : evaluable s.toList l.length = false
    · have := reval_missing (.mk k n s p c l) w h hk1 hk2 hv
      rw [evalT_missing (t := (Tm.mk k n s p c l).erase) (by simpa [Tm.erase, T.k] using hk1) (by simpa [Tm.erase, T.k] using hk2) (by simpa [Tm.erase, T.s, T.l, Tm.eraseL_length] using hv)]
      simpa [Tm.erase, T.s, T.l, Tm.eraseL_length, Tm.s, Tm.l] using this
    have hsz := fun x (hx : x ∈ l) => Tm.sizeOf_mem hx k n s p c
    by_cases h1 : l.length = 1
    · obtain ⟨x, rfl⟩ := List.length_eq_one_iff.1 h1
      cases hp : prim1 s.toList with
      | none => rw [evaluable_iff1 h1, hp] at hv; exact absurd rfl hv
      | some f => exact reval_one k n s p c x f w h hk1 hk2 hp (ih x (by have := hsz x (by simp); omega))
    by_cases h2 : l.length = 2
    · obtain ⟨x, y, rfl⟩ := len_two h2
      cases hp : prim2 s.toList with
      | none => rw [evaluable_iff2 h2, hp] at hv; exact absurd rfl hv
      | some f => exact reval_two k n s p c x y f w h hk1 hk2 hp (ih x (by have := hsz x (by simp); omega)) (ih y (by have := hsz y (by simp); omega))
    · rw [evaluable_iff0 h1 h2] at hv; exact absurd rfl hv

/-- hornref.Eval, of whatever term. -/
theorem reval_calls {t : Tm} {w : World} (h : t.In w) : Calls Try.prog 26 #[t.val] w (RetE (evalT t.erase) w) := reval_any _ t (Nat.le_refl _) w h
end Go.Proofs.Ytgaijgadeodoeaa
