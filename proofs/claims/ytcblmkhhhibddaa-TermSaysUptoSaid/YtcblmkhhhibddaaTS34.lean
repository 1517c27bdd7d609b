/-
  term.General and hornlaw.two, of what are not two terms.
-/
import Derived.Test.YtcblmkhhhibddaaTS26
import Derived.Test.YtcblmkhhhibddaaTS30
import Derived.Test.YtcblmkhhhibddaaTS33
import Derived.Test.YtcblmkhhhibddaaTS31
import Derived.Test.YtcblmkhhhibddaaTS28
namespace Go.Proofs.Ytcblmkhhhibddaa
open Go.RowKit Go.Maps Go.Lib

set_option maxHeartbeats 4000000 in
set_option maxRecDepth 100000 in
theorem general_bad (a b : Tm) (w : World) (ia : a.In w) (ib : b.In w) (hff : (a.erase.formed && b.erase.formed) = false) : Calls Try.prog 30 #[.agg #[.int .i64 a.k, .int .i64 a.n, .string a.s, .slice a.p a.l.length a.c], .agg #[.int .i64 b.k, .int .i64 b.n, .string b.s, .slice b.p b.l.length b.c]] w (fun e w' => e = .returned (.tuple #[.agg #[.int .i64 0, .int .i64 0, .string ⟨#[]⟩, .slice none 0 0], .int .i64 2]) ∧ Gr w w') := by
  have hall : ∀ (w0 w' : World), Gr w w0 → Gr (w0.alloc (.cells #[.int .i64 a.k, .int .i64 a.n, .string a.s, .slice a.p a.l.length a.c, .int .i64 b.k, .int .i64 b.n, .string b.s, .slice b.p b.l.length b.c] 25)) w' → Calls Try.prog 79 #[.slice (some ⟨w0.heap.size, 0, none⟩) 2 2] w' (Ret (.bool false) w') := fun w0 w' h0 h1 => by
    have h2 := all_calls (two_new (Tm.In_below h0 ia) (Tm.In_below h0 ib) h1)
    rw [show T.formedL (Tm.eraseL [a, b]) = false by rw [← hff]; simp [Tm.eraseL, T.formedL]] at h2
    exact h2
  have Hall := Lib.hid hall
  have hQ0 : Hid (∀ w', Gr w w' → (fun (e : Ending) (w' : World) => e = .returned (.tuple #[.agg #[.int .i64 0, .int .i64 0, .string ⟨#[]⟩, .slice none 0 0], .int .i64 2]) ∧ Gr w w') (.returned (.tuple #[.agg #[.int .i64 0, .int .i64 0, .string ⟨#[]⟩, .slice none 0 0], .int .i64 2])) w') := fun w' h => ⟨rfl, h⟩
  generalize (fun (e : Ending) (w' : World) => e = .returned (.tuple #[.agg #[.int .i64 0, .int .i64 0, .string ⟨#[]⟩, .slice none 0 0], .int .i64 2]) ∧ Gr w w') = Q at hQ0 ⊢
  have HQ := hQ0
  clear ia ib hff hQ0 hall
  go_enter Try.func30, Try.ntmps30
  try simp only [List.append_eq, List.cons_append, List.nil_append]
  go_upto_region 1 with fail
  obtain ⟨h3, h4, h5, gA⟩ := three_blocks w (.int .i64 a.k) (.int .i64 a.n) (.string a.s) (.slice a.p a.l.length a.c) (.int .i64 b.k) (.int .i64 b.n) (.string b.s) (.slice b.p b.l.length b.c) (.int .i64 0) (.int .i64 0) (.string ⟨#[]⟩) (.slice none 0 0)
  generalize (((w.alloc (.cells #[.int .i64 a.k, .int .i64 a.n, .string a.s, .slice a.p a.l.length a.c] 25)).alloc (.cells #[.int .i64 b.k, .int .i64 b.n, .string b.s, .slice b.p b.l.length b.c] 25)).alloc (.cells #[.int .i64 0, .int .i64 0, .string ⟨#[]⟩, .slice none 0 0] 25)) = wA at *
  obtain ⟨⟨x0, x1, x2, x3⟩, _, _⟩ := h3.out.parts
  obtain ⟨⟨y0, y1, y2, y3⟩, _, _⟩ := h4.out.parts
  go_wp2_with fail
  refine (Hall.out _ _ gA (Gr.rfl' _)).mono ?_
  rintro e w1 ⟨rfl, g1⟩
  have gA1 : Gr wA w1 := Gr.trans (show Gr wA _ by go_grown) g1
  have gw1 : Gr w w1 := gA.trans gA1
  clear x0 x1 x2 x3 y0 y1 y2 y3 g1
  obtain ⟨⟨z0, z1, z2, z3⟩, ⟨f0, f1, f2, f3⟩, s5⟩ := (h5.out.gr gA1).parts
  have k := Kp.sets (C := (· = w.heap.size + 2)) (w := w1) (b := w.heap.size + 2) rfl (.int .i64 0) (.int .i64 0) (.string ⟨#[]⟩) (.slice none 0 0)
  have Hb := Lib.hid (HQ.out _ (Below.trans gw1 (k.below (fun b hb => by omega) gw1.size)))
  clear k
  go_wp2_with fail
  exact bodyPost_ret (v := .tuple #[.agg #[.int .i64 0, .int .i64 0, .string ⟨#[]⟩, .slice none 0 0], .int .i64 2]) (by simp (maxDischargeDepth := 9) [results, Try.results30, go_sem, z0, z1, z2, z3]) rfl Hb.out

set_option maxHeartbeats 8000000 in
set_option maxRecDepth 100000 in
theorem two_bad (a b : Tm) (p : Option Addr) (c : Nat) (L : List Int) (w : World) (ia : a.In w) (ib : b.In w) (hL : IntSl w p c L) (hff : (a.erase.formed && b.erase.formed) = false) :
    Calls Try.prog 35 #[a.val, b.val, .slice p L.length c, .bool false] w (Ret (.bool true) w) := by
  have hcmp : Hid (∀ W, Gr w W → Calls Try.prog 103 #[.agg #[.int .i64 a.k, .int .i64 a.n, .string a.s, .slice a.p a.l.length a.c], .agg #[.int .i64 b.k, .int .i64 b.n, .string b.s, .slice b.p b.l.length b.c]] W (fun e W' => e = .returned (.tuple #[.int .i64 0, .int .i64 2]) ∧ Gr W W')) := fun W g => (compare_calls a b W (Tm.In_below g ia) (Tm.In_below g ib)).mono fun e W' h => ⟨by rw [h.1, hff]; rfl, h.2⟩
  have hvar : Hid (∀ W, Gr w W → Calls Try.prog 32 #[.agg #[.int .i64 a.k, .int .i64 a.n, .string a.s, .slice a.p a.l.length a.c], .agg #[.int .i64 b.k, .int .i64 b.n, .string b.s, .slice b.p b.l.length b.c]] W (fun e W' => e = .returned (.tuple #[.bool false, .int .i64 2]) ∧ Gr W W')) := fun W g => (variant_calls a b W (Tm.In_below g ia) (Tm.In_below g ib)).mono fun e W' ⟨v, h1, h2, h3⟩ => by
    rw [hff] at h1 h2
    obtain rfl : v = false := by
      cases v with
      | false => rfl
      | true => exact absurd (h2.1 rfl).1 (by decide)
    exact ⟨h1, h3⟩
  have hgen : Hid (∀ W, Gr w W → Calls Try.prog 30 #[.agg #[.int .i64 a.k, .int .i64 a.n, .string a.s, .slice a.p a.l.length a.c], .agg #[.int .i64 b.k, .int .i64 b.n, .string b.s, .slice b.p b.l.length b.c]] W (fun e W' => e = .returned (.tuple #[.agg #[.int .i64 0, .int .i64 0, .string ⟨#[]⟩, .slice none 0 0], .int .i64 2]) ∧ Gr W W')) := fun W g => general_bad a b W (Tm.In_below g ia) (Tm.In_below g ib) hff
  have hput : Hid (∀ W, Gr w W → Calls Try.prog 48 #[.agg #[.int .i64 a.k, .int .i64 a.n, .string a.s, .slice a.p a.l.length a.c], .slice p L.length c, .agg #[.int .i64 b.k, .int .i64 b.n, .string b.s, .slice b.p b.l.length b.c]] W (fun e W' => e = .returned (.tuple #[.agg #[.int .i64 0, .int .i64 0, .string ⟨#[]⟩, .slice none 0 0], .int .i64 2]) ∧ Gr W W')) := fun W g => (put_calls a p c L b W (Tm.In_below g ia) (hL.mono g) (Tm.In_below g ib)).mono fun e W' ⟨h3, h4⟩ => by
    rw [hff] at h4
    rcases h4 with ⟨_, h⟩ | ⟨h, _⟩ | ⟨h, _⟩
    · exact ⟨h, h3⟩
    all_goals cases h
  have hmat : Hid (∀ W, Gr w W → Calls Try.prog 31 #[.agg #[.int .i64 a.k, .int .i64 a.n, .string a.s, .slice a.p a.l.length a.c], .agg #[.int .i64 b.k, .int .i64 b.n, .string b.s, .slice b.p b.l.length b.c]] W (fun e W' => ∃ (pp : Option Addr) (cc : Nat), e = .returned (.tuple #[.slice pp 0 cc, .bool false, .int .i64 2]) ∧ Gr W W')) := fun W g => (tmatch_calls a b W (Tm.In_below g ia) (Tm.In_below g ib)).mono fun e W' ⟨pp, cc, l, v, h1, _, _, h4, h5⟩ => by
    rw [hff] at h1 h5
    rcases h5 with ⟨rfl, rfl, _⟩ | ⟨_, h, _⟩
    · exact ⟨pp, cc, h1, h4⟩
    · cases h
  have hR : Hid (∀ w', Gr w w' → Ret (.bool true) w (.returned (.bool true)) w') := fun w' g => ⟨rfl, g⟩
  generalize Ret (.bool true) w = Q at hR ⊢
  have HR := hR
  have hnone := Lib.hid noneZ
  clear ia ib hL hR hff
  rw [show a.val = .agg #[.int .i64 a.k, .int .i64 a.n, .string a.s, .slice a.p a.l.length a.c] from rfl, show b.val = .agg #[.int .i64 b.k, .int .i64 b.n, .string b.s, .slice b.p b.l.length b.c] from rfl]
  go_enter Try.func35, Try.ntmps35
  try simp only [List.append_eq, List.cons_append, List.nil_append]
  go_upto_region 1 with fail
  obtain ⟨h4, k4, gA⟩ := two_blocks w (.int .i64 a.k) (.int .i64 a.n) (.string a.s) (.slice a.p a.l.length a.c) (.int .i64 b.k) (.int .i64 b.n) (.string b.s) (.slice b.p b.l.length b.c)
  generalize ((w.alloc (.cells #[.int .i64 a.k, .int .i64 a.n, .string a.s, .slice a.p a.l.length a.c] 25)).alloc (.cells #[.int .i64 b.k, .int .i64 b.n, .string b.s, .slice b.p b.l.length b.c] 25)) = wA at *
  obtain ⟨⟨x0, x1, x2, x3⟩, _, _⟩ := h4.out.parts
  obtain ⟨⟨y0, y1, y2, y3⟩, _, _⟩ := k4.out.parts
  go_wp2_with fail
  refine (hcmp.out _ gA).mono ?_
  rintro e w1 ⟨rfl, gg⟩
  have h21 := Lib.hid (h4.out.gr gg)
  have k21 := Lib.hid (k4.out.gr gg)
  have gw1 : Gr w w1 := Gr.trans gA gg
  clear x0 x1 x2 x3 y0 y1 y2 y3 h4 k4 hcmp gg
  go_upto_region 2 with fail
  obtain ⟨⟨x0, x1, x2, x3⟩, _, _⟩ := h21.out.parts
  obtain ⟨⟨y0, y1, y2, y3⟩, _, _⟩ := k21.out.parts
  go_wp2_with fail
  refine (hvar.out _ gw1).mono ?_
  rintro e w2 ⟨rfl, gg⟩
  have h22 := Lib.hid (h21.out.gr gg)
  have k22 := Lib.hid (k21.out.gr gg)
  have gw2 : Gr w w2 := Gr.trans gw1 gg
  clear x0 x1 x2 x3 y0 y1 y2 y3 h21 k21 hvar gg
  go_upto_region 3 with fail
  obtain ⟨⟨x0, x1, x2, x3⟩, _, _⟩ := h22.out.parts
  obtain ⟨⟨y0, y1, y2, y3⟩, _, _⟩ := k22.out.parts
  go_wp2_with fail
  refine (hgen.out _ gw2).mono ?_
  rintro e w3 ⟨rfl, gg⟩
  have h23 := Lib.hid (h22.out.gr gg)
  have k23 := Lib.hid (k22.out.gr gg)
  have gw3 : Gr w w3 := Gr.trans gw2 gg
  clear x0 x1 x2 x3 y0 y1 y2 y3 h22 k22 hgen gg
  go_upto_region 4 with fail
  obtain ⟨hb, gg⟩ := set_new w3 (.int .i64 0) (.int .i64 0) (.string ⟨#[]⟩) (.slice none 0 0)
  generalize (w3.alloc (.cells #[.int .i64 0, .int .i64 0, .string ⟨#[]⟩, .slice none 0 0] 25)) = w4 at *
  have h24 := Lib.hid (h23.out.gr gg)
  have k24 := Lib.hid (k23.out.gr gg)
  have gw4 : Gr w w4 := Gr.trans gw3 gg
  have Hhb := Lib.hid hb
  clear h23 k23 gg hb
  have gk4 := gw4
  obtain ⟨⟨x0, x1, x2, x3⟩, _, _⟩ := h24.out.parts
  obtain ⟨⟨y0, y1, y2, y3⟩, _, _⟩ := k24.out.parts
  go_wp2_with fail
  refine (hput.out _ gw4).mono ?_
  rintro e w5 ⟨rfl, gg⟩
  have HB5 := Lib.hid (Hhb.out.gr gg)
  have gw5 : Gr w w5 := Gr.trans gw4 gg
  have h30 := Lib.hid (h24.out.gr gg)
  have k30 := Lib.hid (k24.out.gr gg)
  clear x0 x1 x2 x3 y0 y1 y2 y3 gg
  go_upto_region 5 with fail
  obtain ⟨hc, gg⟩ := set_new w5 (.int .i64 0) (.int .i64 0) (.string ⟨#[]⟩) (.slice none 0 0)
  generalize (w5.alloc (.cells #[.int .i64 0, .int .i64 0, .string ⟨#[]⟩, .slice none 0 0] 25)) = w6 at *
  have h25 := Lib.hid (h30.out.gr gg)
  have k25 := Lib.hid (k30.out.gr gg)
  have gw6 : Gr w w6 := Gr.trans gw5 gg
  have Hhc := Lib.hid hc
  have HB6 := Lib.hid (HB5.out.gr gg)
  clear h30 k30 gg hc
  obtain ⟨⟨x0, x1, x2, x3⟩, _, _⟩ := h25.out.parts
  obtain ⟨⟨y0, y1, y2, y3⟩, _, _⟩ := k25.out.parts
  go_wp2_with fail
  refine (hmat.out _ gw6).mono ?_
  rintro e w7 ⟨pp, cc, rfl, gg⟩
  have HC7 := Lib.hid (Hhc.out.gr gg)
  have gw7 : Gr w w7 := Gr.trans gw6 gg
  have HB7 := Lib.hid (HB6.out.gr gg)
  obtain ⟨⟨z0, z1, z2, z3⟩, _, _⟩ := Blk4.parts HB7.out
  clear x0 x1 x2 x3 y0 y1 y2 y3 gg
  go_wp2_with fail
  refine (hnone.out _).mono ?_
  rintro e w8 ⟨rfl, gg⟩
  replace gg : Gr w7 w8 := gg
  have gw8 : Gr w w8 := gw7.trans gg
  clear z0 z1 z2 z3
  obtain ⟨⟨z0, z1, z2, z3⟩, _, _⟩ := Blk4.parts (HC7.out.gr gg)
  go_wp2_with fail
  refine (hnone.out _).mono ?_
  rintro e w9 ⟨rfl, g9⟩
  replace g9 : Gr w8 w9 := g9
  have Hb := Lib.hid (HR.out w9 (gw8.trans g9))
  clear z0 z1 z2 z3
  go_wp2_with fail
  exact Hb.out
end Go.Proofs.Ytcblmkhhhibddaa
