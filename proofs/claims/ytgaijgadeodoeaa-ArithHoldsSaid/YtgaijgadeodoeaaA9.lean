/-
  arith.eval
-/
import Derived.Test.YtgaijgadeodoeaaA8
namespace Go.Proofs.Ytgaijgadeodoeaa
open Go.RowKit

theorem EvIs.gr {ty : TypeId} {r : Ev} {w w1 : World} {e : Ending} {w' : World} (hg : Gr w w1) (h : EvIs ty r w1 e w') : EvIs ty r w e w' := by
  cases r with
  | ok n => exact ⟨h.1, hg.trans h.2.1, h.2.2⟩
  | bad b => obtain ⟨t, h1, h2, h3, h4⟩ := h; exact ⟨t, h1, h2, h3, hg.trans h4⟩

theorem evalT_one {k n : Int} {s : Str} {x : T} (h1 : k ≠ 1) (h2 : k ≠ 2) : evalT (.mk k n s [x]) = match prim1 s with
        | some f => match evalT x with
          | .ok a => (f a).ev
          | .bad b => .bad b
        | none => .bad (missingT s 1) := by
  rw [evalT, if_neg h1, if_neg h2]
  rfl

theorem evalT_two {k n : Int} {s : Str} {x y : T} (h1 : k ≠ 1) (h2 : k ≠ 2) : evalT (.mk k n s [x, y]) = match prim2 s with
        | some f => match evalT x with
          | .ok a => match evalT y with
            | .ok c => (f a c).ev
            | .bad b => .bad b
          | .bad b => .bad b
        | none => .bad (missingT s 2) := by
  rw [evalT, if_neg h1, if_neg h2]
  rfl

theorem evalT_more {k n : Int} {s : Str} {l : List T} (h1 : k ≠ 1) (h2 : k ≠ 2) (h3 : l.length ≠ 1) (h4 : l.length ≠ 2) : evalT (.mk k n s l) = .bad (missingT s l.length) := by
  rw [evalT, if_neg h1, if_neg h2]
  · rintro x rfl; exact h3 rfl
  · rintro x y rfl; exact h4 rfl

theorem evalT_var (n : Int) (s : Str) (l : List T) : evalT (.mk 1 n s l) = .bad (atomT sUnbound) := by
  match l with
  | [] => rw [evalT, if_pos rfl] <;> (intros; contradiction)
  | [_] => rw [evalT, if_pos rfl]
  | [_, _] => rw [evalT, if_pos rfl]
  | _ :: _ :: _ :: _ => rw [evalT, if_pos rfl] <;> (intros; simp at *)

theorem evalT_int (n : Int) (s : Str) (l : List T) : evalT (.mk 2 n s l) = .ok n := by
  match l with
  | [] => rw [evalT, if_neg (by decide), if_pos rfl] <;> (intros; contradiction)
  | [_] => rw [evalT, if_neg (by decide), if_pos rfl]
  | [_, _] => rw [evalT, if_neg (by decide), if_pos rfl]
  | _ :: _ :: _ :: _ => rw [evalT, if_neg (by decide), if_pos rfl] <;> (intros; simp at *)

theorem len_two {α : Type} {l : List α} (h : l.length = 2) : ∃ x y, l = [x, y] := by
  match l, h with
  | [x, y], _ => exact ⟨x, y, rfl⟩

theorem enter_if {c : Prop} [Decidable c] {a b v : Value} {p : Prop} (h : (if c then a else b) = v) (h1 : a = v → p) (h2 : b = v → p) : p := by
  by_cases hc : c
  · rw [if_pos hc] at h; exact h1 h
  · rw [if_neg hc] at h; exact h2 h

theorem fn1_enter {s : Str} {f : FuncId} (h : fn1 s = .func (.func f) #[] #[]) (args : Array Value) (w : World) : (callFunc f args).run Try.prog w = .ok (.enter f args) w := by
  unfold fn1 at h
  refine enter_if h (fun h => ?_) fun h => ?_
  · cases h; kernel_rfl
  refine enter_if h (fun h => ?_) fun h => ?_
  · cases h; kernel_rfl
  refine enter_if h (fun h => ?_) fun h => ?_
  · cases h; kernel_rfl
  refine enter_if h (fun h => ?_) fun h => ?_
  · cases h; kernel_rfl
  refine enter_if h (fun h => ?_) fun h => ?_
  · cases h; kernel_rfl
  cases h

theorem fn2_enter {s : Str} {f : FuncId} (h : fn2 s = .func (.func f) #[] #[]) (args : Array Value) (w : World) : (callFunc f args).run Try.prog w = .ok (.enter f args) w := by
  unfold fn2 at h
  refine enter_if h (fun h => ?_) fun h => ?_
  · cases h; kernel_rfl
  refine enter_if h (fun h => ?_) fun h => ?_
  · cases h; kernel_rfl
  refine enter_if h (fun h => ?_) fun h => ?_
  · cases h; kernel_rfl
  refine enter_if h (fun h => ?_) fun h => ?_
  · cases h; kernel_rfl
  refine enter_if h (fun h => ?_) fun h => ?_
  · cases h; kernel_rfl
  refine enter_if h (fun h => ?_) fun h => ?_
  · cases h; kernel_rfl
  refine enter_if h (fun h => ?_) fun h => ?_
  · cases h; kernel_rfl
  refine enter_if h (fun h => ?_) fun h => ?_
  · cases h; kernel_rfl
  refine enter_if h (fun h => ?_) fun h => ?_
  · cases h; kernel_rfl
  refine enter_if h (fun h => ?_) fun h => ?_
  · cases h; kernel_rfl
  refine enter_if h (fun h => ?_) fun h => ?_
  · cases h; kernel_rfl
  refine enter_if h (fun h => ?_) fun h => ?_
  · cases h; kernel_rfl
  refine enter_if h (fun h => ?_) fun h => ?_
  · cases h; kernel_rfl
  refine enter_if h (fun h => ?_) fun h => ?_
  · cases h; kernel_rfl
  refine enter_if h (fun h => ?_) fun h => ?_
  · cases h; kernel_rfl
  refine enter_if h (fun h => ?_) fun h => ?_
  · cases h; kernel_rfl
  refine enter_if h (fun h => ?_) fun h => ?_
  · cases h; kernel_rfl
  cases h

theorem neq1_yes (f : FuncId) (w : World) : (binOp .neq 126 (.func (.func f) #[] #[]) .nilFunc).run Try.prog w = .ok (.bool true) w := by kernel_rfl
theorem neq1_no (w : World) : (binOp .neq 126 .nilFunc .nilFunc).run Try.prog w = .ok (.bool false) w := by kernel_rfl
theorem neq2_yes (f : FuncId) (w : World) : (binOp .neq 128 (.func (.func f) #[] #[]) .nilFunc).run Try.prog w = .ok (.bool true) w := by kernel_rfl
theorem neq2_no (w : World) : (binOp .neq 128 .nilFunc .nilFunc).run Try.prog w = .ok (.bool false) w := by kernel_rfl


set_option maxHeartbeats 2000000 in
set_option maxRecDepth 100000 in
theorem eval_any (N : Nat) : ∀ (t : Tm) (w : World), SizeOf.sizeOf t ≤ N → t.In w →
    Calls Try.prog 54 #[t.val] w (EvIs wr (evalT t.erase) w) := by
  induction N with
  | zero => intro t w h _; cases t; simp at h
  | succ N ih =>
    intro t w hN h
    obtain ⟨k, n, s, p, c, l⟩ := t
    have hsz := fun x (hx : x ∈ l) => Tm.sizeOf_mem hx k n s p c
    have HT := Lib.hid h
    have HS := Lib.hid h.sl
    rw [Tm.In] at h
    obtain ⟨hk, hn, hs, hl, hc, hp, hIn⟩ := h
    have Hn := Lib.hid hn
    have Hih := Lib.hid ih
    have Hsz := Lib.hid hsz
    have q1y := neq1_yes
    have q1n := neq1_no
    have q2y := neq2_yes
    have q2n := neq2_no
    clear hp hIn ih hn hs hsz
    simp only [Tm.val, Tm.k, Tm.n, Tm.s, Tm.p, Tm.c, Tm.l, Tm.erase]
    generalize hr : evalT (.mk k n s.toList (Tm.eraseL l)) = r
    have Hr := Lib.hid hr
    clear hr
    by_cases hk1 : k = 1
    · subst hk1
      go_enter Try.func54, Try.ntmps54
      go_wp2_with fail
      refine (throw_calls _ _).mono ?_
      rintro e w1 ⟨rfl, hb1⟩
      go_wp2_with fail
      have e0 : r = .bad (atomT sUnbound) := by rw [← Hr.out, evalT_var]
      rw [e0]
      exact ⟨rfl, atomTm ⟨#[117, 110, 98, 111, 117, 110, 100]⟩, atomTm_in (by decide) _, by rw [atomTm_erase, unboundL], rfl, below_step hb1 (by go_grown)⟩
    by_cases hk2 : k = 2
    · subst hk2
      go_enter Try.func54, Try.ntmps54
      go_wp2_with fail
      go_ret
      have e0 : r = .ok n := by rw [← Hr.out, evalT_int]
      rw [e0]
      exact ⟨rfl, by go_grown, Hn.out⟩
    have hk1' : (k == 1) = false := beq_eq_false_iff_ne.2 hk1
    have hk2' : (k == 2) = false := beq_eq_false_iff_ne.2 hk2
    by_cases h1 : l.length = 1
    · obtain ⟨x, rfl⟩ := List.length_eq_one_iff.1 h1
      obtain ⟨b, o, rfl⟩ := HS.out.ptr (by simp)
      have hx := HS.out.elem 0 (by simp)
      simp only [List.getElem_cons_zero, Nat.zero_mul, Nat.add_zero] at hx
      obtain ⟨⟨c0, c1, c2, c3⟩, hxi, hbl⟩ := hx
      have Hx := Lib.hid hxi
      have hxs := Hsz.out x (List.mem_cons_self ..)
      rw [Tm.eraseL, Tm.eraseL, evalT_one hk1 hk2] at Hr
      clear hxi Hsz
      go_enter Try.func54, Try.ntmps54
      go_wp2_with fail
      refine (one_yes (t := (.mk k n s (some ⟨b, o, none⟩) c [x])) (Tm.In_below (by go_grown) HT.out) rfl).mono ?_
      rintro e w1 ⟨rfl, hb1⟩
      have b0 : w1.cell? ⟨w.heap.size, 0, none⟩ = some (.int .i64 k) := Gr.at hb1 (by go_cell)
      have b1 : w1.cell? ⟨w.heap.size, 1, none⟩ = some (.int .i64 n) := Gr.at hb1 (by go_cell)
      have b2 : w1.cell? ⟨w.heap.size, 2, none⟩ = some (.string s) := Gr.at hb1 (by go_cell)
      have b3 : w1.cell? ⟨w.heap.size, 3, none⟩ = some (.slice (some ⟨b, o, none⟩) 1 c) := Gr.at hb1 (by go_cell)
      have g1 : Gr w w1 := below_step hb1 (by go_grown)
      replace c0 := Gr.at g1 c0; replace c1 := Gr.at g1 c1; replace c2 := Gr.at g1 c2; replace c3 := Gr.at g1 c3
      clear hb1
      simp only [Tm.s]
      rcases fn1_calls (s := s.toList) with ⟨h2, h3⟩ | ⟨f, q, h2, h3, h4⟩
      · rw [h2]
        have H3 := Lib.hid h3
        clear h2 h3
        go_wp2_with fail
        refine (two_no (t := (.mk k n s (some ⟨b, o, none⟩) c [x])) (Tm.In_below (by go_grown) HT.out) (show 1 ≠ 2 by decide)).mono ?_
        rintro e w2 ⟨rfl, hb2⟩
        replace b0 := Gr.at hb2 b0; replace b1 := Gr.at hb2 b1; replace b2 := Gr.at hb2 b2; replace b3 := Gr.at hb2 b3
        have g2 : Gr w w2 := g1.trans hb2
        clear hb2
        go_wp2_with fail
        refine (missing_calls (t := (.mk k n s (some ⟨b, o, none⟩) c [x])) ⟨#[110, 111, 116, 95, 101, 118, 97, 108, 117, 97, 98, 108, 101]⟩ (Tm.In_below (by go_grown) HT.out) (by decide) (by rw [ByteArray.toList_mk]; rfl)).mono ?_
        rintro e w3 ⟨bm, hin, he, rfl, hb3, hon⟩
        have Hin := Lib.hid hin
        have g3 : Gr w w3 := g2.trans hb3
        clear hin hon hb3
        simp only [Tm.val]
        go_wp2_with fail
        have e0 : r = .bad (missingT s.toList 1) := by rw [← Hr.out, H3.out]
        rw [e0]
        exact ⟨rfl, bm, Hin.out, he, rfl, g3⟩
      · rw [h2]
        have H3 := Lib.hid h3
        have H4 := Lib.hid h4
        have q3 := fn1_enter h2
        clear h2 h3 h4
        go_wp2_with fail
        refine (Hih.out x _ (by omega) (Tm.In_below (by go_grown) Hx.out)).mono ?_
        cases hev : evalT x.erase with
        | bad bb =>
          rintro e w2 ⟨tb, hin, he, rfl, hb2⟩
          have Hin := Lib.hid hin
          have g2 : Gr w w2 := g1.trans hb2
          have e0 : Hid (r = .bad bb) := by show r = _; rw [← Hr.out, H3.out, hev]
          clear hin hb2 hev
          go_wp2_with fail
          rw [e0.out]
          exact ⟨rfl, tb, Hin.out, he, rfl, g2⟩
        | ok a =>
          rintro e w2 ⟨rfl, hb2, ha⟩
          have g2 : Gr w w2 := g1.trans hb2
          have e0 : Hid (r = (q a).ev) := by show r = _; rw [← Hr.out, H3.out, hev]
          have Ha := Lib.hid ha
          clear hb2 hev ha
          go_wp2_with fail
          refine (H4.out a _ Ha.out).mono ?_
          cases hq : q a with
          | ok m =>
            rintro e w3 ⟨rfl, hb3, hm⟩
            have g3 : Gr w w3 := g2.trans hb3
            have Hm := Lib.hid hm
            have e1 : Hid (r = .ok m) := by show r = _; rw [e0.out, hq]; rfl
            clear hb3 hm hq e0
            go_wp2_with fail
            go_ret
            rw [e1.out]
            exact ⟨rfl, g3, Hm.out⟩
          | bad sb =>
            rintro e w3 ⟨tb, hin, he, rfl, hb3⟩
            have g3 : Gr w w3 := g2.trans hb3
            have Hin := Lib.hid hin
            have e1 : Hid (r = .bad (atomT sb)) := by show r = _; rw [e0.out, hq]; rfl
            clear hb3 hin hq e0
            go_wp2_with fail
            rw [e1.out]
            exact ⟨rfl, tb, Hin.out, he, rfl, g3⟩
    by_cases h2 : l.length = 2
    · obtain ⟨x, y, rfl⟩ := len_two h2
      obtain ⟨b, o, rfl⟩ := HS.out.ptr (by simp)
      have hx := HS.out.elem 0 (by simp)
      have hy := HS.out.elem 1 (by simp)
      simp only [List.getElem_cons_zero, List.getElem_cons_succ, Nat.zero_mul, Nat.add_zero, Nat.one_mul] at hx hy
      obtain ⟨⟨c0, c1, c2, c3⟩, hxi, hbl⟩ := hx
      obtain ⟨⟨d0, d1, d2, d3⟩, hyi, _⟩ := hy
      have Hx := Lib.hid hxi
      have Hy := Lib.hid hyi
      have hxs := Hsz.out x (List.mem_cons_self ..)
      have hys := Hsz.out y (List.mem_cons_of_mem _ (List.mem_cons_self ..))
      rw [Tm.eraseL, Tm.eraseL, Tm.eraseL, evalT_two hk1 hk2] at Hr
      clear hxi hyi Hsz
      go_enter Try.func54, Try.ntmps54
      go_wp2_with fail
      refine (one_no (t := (.mk k n s (some ⟨b, o, none⟩) c [x, y])) (Tm.In_below (by go_grown) HT.out) (show 2 ≠ 1 by decide)).mono ?_
      rintro e w1 ⟨rfl, hb1⟩
      have b0 : w1.cell? ⟨w.heap.size, 0, none⟩ = some (.int .i64 k) := Gr.at hb1 (by go_cell)
      have b1 : w1.cell? ⟨w.heap.size, 1, none⟩ = some (.int .i64 n) := Gr.at hb1 (by go_cell)
      have b2 : w1.cell? ⟨w.heap.size, 2, none⟩ = some (.string s) := Gr.at hb1 (by go_cell)
      have b3 : w1.cell? ⟨w.heap.size, 3, none⟩ = some (.slice (some ⟨b, o, none⟩) 2 c) := Gr.at hb1 (by go_cell)
      have g1 : Gr w w1 := below_step hb1 (by go_grown)
      replace c0 := Gr.at g1 c0; replace c1 := Gr.at g1 c1; replace c2 := Gr.at g1 c2; replace c3 := Gr.at g1 c3
      replace d0 := Gr.at g1 d0; replace d1 := Gr.at g1 d1; replace d2 := Gr.at g1 d2; replace d3 := Gr.at g1 d3
      clear hb1
      go_wp2_with fail
      refine (two_yes (t := (.mk k n s (some ⟨b, o, none⟩) c [x, y])) (Tm.In_below (by go_grown) HT.out) rfl).mono ?_
      rintro e w2 ⟨rfl, hb2⟩
      replace b0 := Gr.at hb2 b0; replace b1 := Gr.at hb2 b1; replace b2 := Gr.at hb2 b2; replace b3 := Gr.at hb2 b3
      replace c0 := Gr.at hb2 c0; replace c1 := Gr.at hb2 c1; replace c2 := Gr.at hb2 c2; replace c3 := Gr.at hb2 c3
      replace d0 := Gr.at hb2 d0; replace d1 := Gr.at hb2 d1; replace d2 := Gr.at hb2 d2; replace d3 := Gr.at hb2 d3
      have g2 : Gr w w2 := g1.trans hb2
      clear hb2
      simp only [Tm.s]
      rcases fn2_calls (s := s.toList) with ⟨h2, h3⟩ | ⟨f, q, h2, h3, h4⟩
      · rw [h2]
        have H3 := Lib.hid h3
        clear h2 h3
        go_wp2_with fail
        refine (missing_calls (t := (.mk k n s (some ⟨b, o, none⟩) c [x, y])) ⟨#[110, 111, 116, 95, 101, 118, 97, 108, 117, 97, 98, 108, 101]⟩ (Tm.In_below (by go_grown) HT.out) (by decide) (by rw [ByteArray.toList_mk]; rfl)).mono ?_
        rintro e w3 ⟨bm, hin, he, rfl, hb3, hon⟩
        have Hin := Lib.hid hin
        have g3 : Gr w w3 := g2.trans hb3
        clear hin hon hb3
        simp only [Tm.val]
        go_wp2_with fail
        have e0 : r = .bad (missingT s.toList 2) := by rw [← Hr.out, H3.out]
        rw [e0]
        exact ⟨rfl, bm, Hin.out, he, rfl, g3⟩
      · rw [h2]
        have H3 := Lib.hid h3
        have H4 := Lib.hid h4
        have q3 := fn2_enter h2
        clear h2 h3 h4
        go_wp2_with fail
        refine (Hih.out x _ (by omega) (Tm.In_below (by go_grown) Hx.out)).mono ?_
        cases hev : evalT x.erase with
        | bad bb =>
          rintro e w3 ⟨tb, hin, he, rfl, hb3⟩
          have Hin := Lib.hid hin
          have g3 : Gr w w3 := g2.trans hb3
          have e0 : Hid (r = .bad bb) := by show r = _; rw [← Hr.out, H3.out, hev]
          clear hin hb3 hev
          go_wp2_with fail
          rw [e0.out]
          exact ⟨rfl, tb, Hin.out, he, rfl, g3⟩
        | ok a =>
          rintro e w3 ⟨rfl, hb3, ha⟩
          replace b0 := Gr.at hb3 b0; replace b1 := Gr.at hb3 b1; replace b2 := Gr.at hb3 b2; replace b3 := Gr.at hb3 b3
          replace d0 := Gr.at hb3 d0; replace d1 := Gr.at hb3 d1; replace d2 := Gr.at hb3 d2; replace d3 := Gr.at hb3 d3
          clear c0 c1 c2 c3
          have g3 : Gr w w3 := g2.trans hb3
          have Hev := Lib.hid hev
          have Ha := Lib.hid ha
          clear hb3 hev ha
          go_wp2_with fail
          refine (Hih.out y _ (by omega) (Tm.In_below (by go_grown) Hy.out)).mono ?_
          cases hev : evalT y.erase with
          | bad bb =>
            rintro e w4 ⟨tb, hin, he, rfl, hb4⟩
            have Hin := Lib.hid hin
            have g4 : Gr w w4 := g3.trans hb4
            have e0 : Hid (r = .bad bb) := by show r = _; rw [← Hr.out, H3.out, Hev.out, hev]
            clear hin hb4 hev
            go_wp2_with fail
            rw [e0.out]
            exact ⟨rfl, tb, Hin.out, he, rfl, g4⟩
          | ok a2 =>
            rintro e w4 ⟨rfl, hb4, ha2⟩
            have g4 : Gr w w4 := g3.trans hb4
            have e0 : Hid (r = (q a a2).ev) := by show r = _; rw [← Hr.out, H3.out, Hev.out, hev]
            have Ha2 := Lib.hid ha2
            clear hb4 hev ha2
            go_wp2_with fail
            refine (H4.out a a2 _ Ha.out Ha2.out).mono ?_
            cases hq : q a a2 with
            | ok m =>
              rintro e w5 ⟨rfl, hb5, hm⟩
              have g5 : Gr w w5 := g4.trans hb5
              have Hm := Lib.hid hm
              have e1 : Hid (r = .ok m) := by show r = _; rw [e0.out, hq]; rfl
              clear hb5 hm hq e0
              go_wp2_with fail
              go_ret
              rw [e1.out]
              exact ⟨rfl, g5, Hm.out⟩
            | bad sb =>
              rintro e w5 ⟨tb, hin, he, rfl, hb5⟩
              have g5 : Gr w w5 := g4.trans hb5
              have Hin := Lib.hid hin
              have e1 : Hid (r = .bad (atomT sb)) := by show r = _; rw [e0.out, hq]; rfl
              clear hb5 hin hq e0
              go_wp2_with fail
              rw [e1.out]
              exact ⟨rfl, tb, Hin.out, he, rfl, g5⟩
    · have e0 : Hid (r = .bad (missingT s.toList l.length)) := by
        show r = _
        rw [← Hr.out, evalT_more hk1 hk2 (by rw [Tm.eraseL_length]; exact h1) (by rw [Tm.eraseL_length]; exact h2), Tm.eraseL_length]
      have H1 := Lib.hid h1
      have H2 := Lib.hid h2
      clear h1 h2 Hr
      go_enter Try.func54, Try.ntmps54
      go_wp2_with fail
      refine (one_no (t := .mk k n s p c l) (Tm.In_below (by go_grown) HT.out) H1.out).mono ?_
      rintro e w1 ⟨rfl, hb1⟩
      have b0 : w1.cell? ⟨w.heap.size, 0, none⟩ = some (.int .i64 k) := Gr.at hb1 (by go_cell)
      have b1 : w1.cell? ⟨w.heap.size, 1, none⟩ = some (.int .i64 n) := Gr.at hb1 (by go_cell)
      have b2 : w1.cell? ⟨w.heap.size, 2, none⟩ = some (.string s) := Gr.at hb1 (by go_cell)
      have b3 : w1.cell? ⟨w.heap.size, 3, none⟩ = some (.slice p l.length c) := Gr.at hb1 (by go_cell)
      have g1 : Gr w w1 := below_step hb1 (by go_grown)
      clear hb1
      go_wp2_with fail
      refine (two_no (t := .mk k n s p c l) (Tm.In_below (by go_grown) HT.out) H2.out).mono ?_
      rintro e w2 ⟨rfl, hb2⟩
      replace b0 := Gr.at hb2 b0; replace b1 := Gr.at hb2 b1; replace b2 := Gr.at hb2 b2; replace b3 := Gr.at hb2 b3
      have g2 : Gr w w2 := g1.trans hb2
      clear hb2
      go_wp2_with fail
      refine (missing_calls (t := .mk k n s p c l) ⟨#[110, 111, 116, 95, 101, 118, 97, 108, 117, 97, 98, 108, 101]⟩ (Tm.In_below (by go_grown) HT.out) (by decide) (by rw [ByteArray.toList_mk]; rfl)).mono ?_
      rintro e w3 ⟨bm, hin, he, rfl, hb3, hon⟩
      have Hin := Lib.hid hin
      have g3 : Gr w w3 := g2.trans hb3
      clear hin hon hb3
      simp only [Tm.val]
      go_wp2_with fail
      rw [e0.out]
      exact ⟨rfl, bm, Hin.out, he, rfl, g3⟩

/-- arith.eval, of whatever term. -/
theorem eval_calls {t : Tm} {w : World} (h : t.In w) : Calls Try.prog 54 #[t.val] w (EvIs wr (evalT t.erase) w) :=
  eval_any _ t w (Nat.le_refl _) h
end Go.Proofs.Ytgaijgadeodoeaa
