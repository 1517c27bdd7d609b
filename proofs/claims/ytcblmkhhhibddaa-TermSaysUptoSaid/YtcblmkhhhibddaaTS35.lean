/-
  hornlaw.one, of a term.
-/
import Derived.Test.YtcblmkhhhibddaaTS26
namespace Go.Proofs.Ytcblmkhhhibddaa
open Go.RowKit Go.Maps Go.Lib

theorem at_both (a : Tm) (L : List Int) : ∃ (xr : Tm) (is : Bool), Tm.atD a L = xr ∧ (Tm.at a L).isSome = is ∧ (is = true → T.at a.erase L = some xr.erase) ∧ (is = false → T.at a.erase L = none) ∧ (∀ w : World, a.In w → xr.In w) := by
  refine ⟨_, _, rfl, rfl, fun h => ?_, fun h => ?_, fun w hw => ?_⟩
  · obtain ⟨x, hx⟩ := Option.isSome_iff_exists.1 h
    rw [tmat_erase, Tm.atD, hx]; rfl
  · have : Tm.at a L = none := by
      cases hx : Tm.at a L with
      | none => rfl
      | some x => rw [hx] at h; cases h
    rw [tmat_erase, this]; rfl
  · rw [Tm.atD]
    cases hx : Tm.at a L with
    | none => exact zeroTm_in w
    | some x => exact tmat_in L a x hw hx

set_option maxHeartbeats 16000000 in
set_option maxRecDepth 100000 in
theorem one_good (a : Tm) (d : Int) (p : Option Addr) (c : Nat) (L : List Int) (w : World) (ia : a.In w) (hd : In64 d) (hL : IntSl w p c L) (sz : T.sz a.erase ≤ 1048576) (hff : a.erase.formed = true) :
    Calls Try.prog 34 #[a.val, .int .i64 d, .slice p L.length c, .bool true] w (Ret (.bool true) w) := by
  have hVok : VarsOk (T.varsL [a.erase] []) := VarsOk.varsL [a.erase] VarsOk.nil (by rw [T.formedL, T.formedL, hff]; rfl)
  have hVl := hVok.len
  have hrv : Hid (∀ B W, Tm.Sl W (some ⟨B, 0, none⟩) 1 [a] → Calls Try.prog 100 #[.slice (some ⟨B, 0, none⟩) 1 1] W (RetInts (T.varsL [a.erase] []) W)) := fun B W h => by
    have := rvars_calls (some ⟨B, 0, none⟩) 1 [a] W h (fun x hx => by rw [List.mem_singleton] at hx; rw [hx]; exact hff)
    rwa [erase_one] at this
  have hone : Hid (∀ w0 w', Gr w w0 → Gr (w0.alloc (.cells #[.int .i64 a.k, .int .i64 a.n, .string a.s, .slice a.p a.l.length a.c] 25)) w' → Tm.Sl w' (some ⟨w0.heap.size, 0, none⟩) 1 [a]) := fun w0 w' h0 h1 => one_new (Tm.In_below h0 ia) h1
  have hmea : Hid (∀ W, Gr w W → Calls Try.prog 96 #[.agg #[.int .i64 a.k, .int .i64 a.n, .string a.s, .slice a.p a.l.length a.c]] W (fun e W' => e = .returned (.tuple #[.int .i64 (T.sz a.erase : Nat), .int .i64 (T.depth a.erase : Nat), .int .i64 0]) ∧ Gr W W')) := fun W g => (measure_calls a W (Tm.In_below g ia) sz).mono fun e W' h => ⟨by rw [h.1, hff]; rfl, h.2⟩
  have hvar : Hid (∀ W, Gr w W → Calls Try.prog 51 #[.agg #[.int .i64 a.k, .int .i64 a.n, .string a.s, .slice a.p a.l.length a.c]] W (fun e W' => ∃ (pv : Option Addr) (c : Nat), e = .returned (.tuple #[.slice pv (T.varsL [a.erase] []).length c, .int .i64 0]) ∧ IntSl W' pv c (T.varsL [a.erase] []) ∧ Gr W W')) := fun W g => (vars_calls a W (Tm.In_below g ia)).mono fun e W' ⟨pv, c, V, h1, h2, h3, h4⟩ => by
    rw [hff] at h4 h1
    obtain rfl : V = T.varsL [a.erase] [] := h4
    exact ⟨pv, c, h1, h2, h3⟩
  have hren : Hid (∀ W, Gr w W → Calls Try.prog 41 #[.agg #[.int .i64 a.k, .int .i64 a.n, .string a.s, .slice a.p a.l.length a.c], .int .i64 d] W (fun e W' => ∃ (u : Tm) (n err : Int), e = .returned (.tuple #[.agg #[.int .i64 u.k, .int .i64 u.n, .string u.s, .slice u.p u.l.length u.c], .int .i64 n, .int .i64 err]) ∧ u.In W' ∧ Gr W W' ∧ ((¬ (0 ≤ d ∧ d ≤ 1099511627776) ∧ u = zeroTm ∧ n = 0 ∧ err = 1) ∨ ((0 ≤ d ∧ d ≤ 1099511627776) ∧ 1099511627776 - d + 1 < ((T.varsL [a.erase] []).length : Int) ∧ u = zeroTm ∧ n = 0 ∧ err = 9) ∨ ((0 ≤ d ∧ d ≤ 1099511627776) ∧ ((T.varsL [a.erase] []).length : Int) ≤ 1099511627776 - d + 1 ∧ u.erase = T.map (swapF d (T.varsL [a.erase] [])) a.erase ∧ n = d + ((T.varsL [a.erase] []).length : Int) ∧ err = 0)))) := fun W g => (rename_calls a d W (Tm.In_below g ia) hd).mono fun e W' ⟨u, n, err, h1, h2, _, h3, h4⟩ => by
    refine ⟨u, n, err, h1, h2, h3, ?_⟩
    rw [hff] at h4
    rcases h4 with ⟨h, _⟩ | ⟨_, h⟩ | ⟨_, h⟩ | ⟨_, h⟩
    · cases h
    · exact .inl h
    · exact .inr (.inl h)
    · exact .inr (.inr h)
  obtain ⟨xr, is, exr, eis, hat1, hat0, hxin⟩ := at_both a L
  have hat : Hid (∀ W, Gr w W → Calls Try.prog 46 #[.agg #[.int .i64 a.k, .int .i64 a.n, .string a.s, .slice a.p a.l.length a.c], .slice p L.length c] W (fun e W' => ∃ (g : Tm) (h : Int), e = .returned (.tuple #[.agg #[.int .i64 g.k, .int .i64 g.n, .string g.s, .slice g.p g.l.length g.c], .int .i64 h]) ∧ g.In W' ∧ Gr W W' ∧ (is = true → g.erase = xr.erase ∧ h = 0) ∧ (is = false → g = zeroTm ∧ h = 8))) := fun W g => (at_calls a p c L W (Tm.In_below g ia) (hL.mono g)).mono fun e W' ⟨h3, h4⟩ => by
    rw [hff] at h4
    rcases h4 with ⟨h, _⟩ | ⟨_, h5, h6⟩ | ⟨_, x, g1, h5, h6, h7, h8, _⟩
    · cases h
    · refine ⟨zeroTm, 8, h6, zeroTm_in _, h3, fun h => ?_, fun _ => ⟨rfl, rfl⟩⟩
      rw [hat1 h] at h5; cases h5
    · refine ⟨g1, 0, h6, h7, h3, fun h => ⟨?_, rfl⟩, fun h => ?_⟩
      · rw [hat1 h] at h5; cases h5; exact h8
      · rw [hat0 h] at h5; cases h5
  have hfla : Hid (∀ W, Gr w W → Calls Try.prog 98 #[.agg #[.int .i64 a.k, .int .i64 a.n, .string a.s, .slice a.p a.l.length a.c]] W (fun e W' => ∃ pf cf, e = .returned (.slice pf (T.sz a.erase) cf) ∧ Gr W W')) := fun W g => (flat_calls (t := a) (Tm.In_below g ia) sz).mono fun e W' ⟨pf, cf, h1, _, h3⟩ => ⟨pf, cf, by rw [h1, tmflat_len], h3⟩
  have hdep := Lib.hid (fun W (g : Gr w W) => show Calls Try.prog 99 #[.agg #[.int .i64 a.k, .int .i64 a.n, .string a.s, .slice a.p a.l.length a.c]] W (Ret (.int .i64 (T.depth a.erase : Nat)) W) from rdepth_calls (t := a) (Tm.In_below g ia) sz)
  have hrat : Hid (∀ W, Gr w W → Calls Try.prog 101 #[.agg #[.int .i64 a.k, .int .i64 a.n, .string a.s, .slice a.p a.l.length a.c], .slice p L.length c] W (Ret (.tuple #[.agg #[.int .i64 xr.k, .int .i64 xr.n, .string xr.s, .slice xr.p xr.l.length xr.c], .bool is]) W)) := fun W g => by
    have := rat_calls (t := a) (Tm.In_below g ia) (hL.mono g)
    rw [exr, eis] at this
    exact this
  have hrr := Lib.hid (fun W (g : Gr w W) (h : 0 ≤ d ∧ d ≤ 1099511627777) => show Calls Try.prog 102 #[.agg #[.int .i64 a.k, .int .i64 a.n, .string a.s, .slice a.p a.l.length a.c], .int .i64 d] W (RetTm (W.heap.size ≤ ·) (T.map (swapF d (T.varsL [a.erase] [])) a.erase) W) from rrename_calls a d W (Tm.In_below g ia) hff h)
  have hR : Hid (∀ w', Gr w w' → Ret (.bool true) w (.returned (.bool true)) w') := fun w' g => ⟨rfl, g⟩
  generalize Ret (.bool true) w = Q at hR ⊢
  have HR := hR
  have hnone := Lib.hid noneZ
  have hxi : Hid (∀ W, Gr w W → xr.In W) := fun W g => Tm.In_below g (hxin w ia)
  have hsz := sz
  have hd1 := hd.1
  have hd2 := hd.2
  generalize T.varsL [a.erase] [] = V at *
  generalize T.sz a.erase = N at *
  generalize T.depth a.erase = DD at *
  clear ia hd hL sz hR hff hat1 hat0 exr eis hxin hVok
  rw [show a.val = .agg #[.int .i64 a.k, .int .i64 a.n, .string a.s, .slice a.p a.l.length a.c] from rfl]
  go_enter Try.func34, Try.ntmps34
  try simp only [List.append_eq, List.cons_append, List.nil_append]
  go_upto_region 1 with fail
  have h4 := Lib.hid (Blk4.new w (.int .i64 a.k) (.int .i64 a.n) (.string a.s) (.slice a.p a.l.length a.c))
  have gA : Gr w (w.alloc (.cells #[.int .i64 a.k, .int .i64 a.n, .string a.s, .slice a.p a.l.length a.c] 25)) := by go_grown
  generalize (w.alloc (.cells #[.int .i64 a.k, .int .i64 a.n, .string a.s, .slice a.p a.l.length a.c] 25)) = wA at *
  obtain ⟨⟨x0, x1, x2, x3⟩, _, s4⟩ := h4.out.parts
  go_wp2_with fail
  refine (hmea.out _ gA).mono ?_
  rintro e w1 ⟨rfl, g1⟩
  have H4 := Lib.hid (h4.out.gr g1)
  replace g1 : Gr w w1 := gA.trans g1
  clear x0 x1 x2 x3 h4 hmea gA
  obtain ⟨⟨x0, x1, x2, x3⟩, _, s5⟩ := H4.out.parts
  go_upto_region 2 with fail
  go_wp2_with fail
  refine (hvar.out _ g1).mono ?_
  rintro e w2 ⟨pv, cv, rfl, hi2, g2⟩
  have Hi2 := Lib.hid hi2
  have h4 := Lib.hid (H4.out.gr g2)
  have gz2 := g2
  replace g2 : Gr w w2 := g1.trans g2
  clear x0 x1 x2 x3 H4 hvar g1 hi2
  obtain ⟨⟨x0, x1, x2, x3⟩, _, s5⟩ := h4.out.parts
  go_upto_region 3 with fail
  go_wp2_with fail
  refine (hren.out _ g2).mono ?_
  rintro e w3 ⟨u, n, err, rfl, iu, g3, hD⟩
  have HD := Lib.hid hD
  have H4 := Lib.hid (h4.out.gr g3)
  have g23 := g3
  replace g3 : Gr w w3 := g2.trans g3
  clear x0 x1 x2 x3 h4 hren g2 hD
  go_upto_region 4 with fail
  obtain ⟨hb, g4⟩ := set_new w3 (.int .i64 u.k) (.int .i64 u.n) (.string u.s) (.slice u.p u.l.length u.c)
  generalize (w3.alloc (.cells #[.int .i64 u.k, .int .i64 u.n, .string u.s, .slice u.p u.l.length u.c] 25)) = w4 at *
  have h4 := Lib.hid (H4.out.gr g4)
  have iu4 := Lib.hid (Tm.In_below g4 iu)
  have g24 := g23.trans g4
  replace g4 : Gr w w4 := g3.trans g4
  clear H4 iu g23 g3
  obtain ⟨⟨x0, x1, x2, x3⟩, _, s5⟩ := h4.out.parts
  go_wp2_with fail
  refine (hat.out _ g4).mono ?_
  rintro e w5 ⟨gg, hh, rfl, ig, g5, hg1, hg0⟩
  have Hg1 := Lib.hid hg1
  have Hg0 := Lib.hid hg0
  have HB := Lib.hid (hb.gr g5)
  have H4 := Lib.hid (h4.out.gr g5)
  have iu5 := Lib.hid (Tm.In_below g5 iu4.out)
  have g25 := g24.trans g5
  replace g5 : Gr w w5 := g4.trans g5
  clear x0 x1 x2 x3 h4 hat g4 hg1 hg0 iu4 g24
  go_upto_region 5 with fail
  obtain ⟨hc, g6⟩ := set_new w5 (.int .i64 gg.k) (.int .i64 gg.n) (.string gg.s) (.slice gg.p gg.l.length gg.c)
  generalize (w5.alloc (.cells #[.int .i64 gg.k, .int .i64 gg.n, .string gg.s, .slice gg.p gg.l.length gg.c] 25)) = w6 at *
  have HB6 := Lib.hid (HB.out.gr g6)
  have h4 := Lib.hid (H4.out.gr g6)
  have HC := Lib.hid hc
  have iu6 := Lib.hid (Tm.In_below g6 iu5.out)
  have ig6 := Lib.hid (Tm.In_below g6 ig)
  have g26 := g25.trans g6
  replace g6 : Gr w w6 := g5.trans g6
  obtain ⟨⟨x0, x1, x2, x3⟩, _, s5⟩ := h4.out.parts
  clear hb hc HB H4 iu5 g25 g5 ig
  have hne : ((N : Int) != (N : Int)) = false := by simp
  go_wp2_with fail
  refine (hfla.out _ g6).mono ?_
  rintro e w7 ⟨pf, cf, rfl, g7⟩
  have H4 := Lib.hid (h4.out.gr g7)
  have g67 := g7
  replace g7 : Gr w w7 := g6.trans g7
  clear x0 x1 x2 x3 h4
  obtain ⟨⟨x0, x1, x2, x3⟩, _, s5⟩ := H4.out.parts
  have hne2 : ((DD : Int) != (DD : Int)) = false := by simp
  go_wp2_with fail
  refine (hdep.out _ g7).mono ?_
  rintro e w8 ⟨rfl, g8⟩
  replace g8 : Gr w7 w8 := g8
  have h4 := Lib.hid (H4.out.gr g8)
  have g68 := g67.trans g8
  replace g8 : Gr w w8 := g7.trans g8
  clear x0 x1 x2 x3 H4 g67 g7
  obtain ⟨⟨x0, x1, x2, x3⟩, _, s5⟩ := h4.out.parts
  go_wp2_with fail
  refine (hrv.out _ _ (hone.out w8 _ g8 (Gr.rfl' _))).mono ?_
  rintro e w9 ⟨pv2, cv2, rfl, hi9, g9⟩
  have gz9 : Gr w8 w9 := Gr.trans (show Gr w8 _ by go_grown) g9
  have H4 := Lib.hid (h4.out.gr gz9)
  have Hsame := Lib.hid (sameInts_calls pv pv2 cv cv2 V w9 (((Hi2.out.mono g26).mono g68).mono gz9) hi9)
  have g69 := g68.trans gz9
  replace g9 : Gr w w9 := g8.trans gz9
  clear x0 x1 x2 x3 h4 hi9 gz9 g68 g8
  obtain ⟨⟨x0, x1, x2, x3⟩, _, s5⟩ := H4.out.parts
  go_wp2_with fail
  refine Hsame.out.mono ?_
  rintro e w10 ⟨rfl, g10⟩
  replace g10 : Gr w9 w10 := g10
  have h4 := Lib.hid (H4.out.gr g10)
  have g610 := g69.trans g10
  replace g10 : Gr w w10 := g9.trans g10
  clear x0 x1 x2 x3 H4 Hsame g69 g9
  obtain ⟨⟨x0, x1, x2, x3⟩, _, s5⟩ := h4.out.parts
  go_upto_region 9 with fail
  go_wp2_with fail
  refine (hrat.out _ g10).mono ?_
  rintro e w11 ⟨rfl, g11⟩
  replace g11 : Gr w10 w11 := g11
  have H4 := Lib.hid (h4.out.gr g11)
  have g611 := g610.trans g11
  replace g11 : Gr w w11 := g10.trans g11
  clear x0 x1 x2 x3 h4 g610 g10
  go_upto_region 10 with fail
  obtain ⟨hx, g12⟩ := set_new w11 (.int .i64 xr.k) (.int .i64 xr.n) (.string xr.s) (.slice xr.p xr.l.length xr.c)
  generalize (w11.alloc (.cells #[.int .i64 xr.k, .int .i64 xr.n, .string xr.s, .slice xr.p xr.l.length xr.c] 25)) = w12 at *
  have h4 := Lib.hid (H4.out.gr g12)
  have g612 := g611.trans g12
  replace g12 : Gr w w12 := g11.trans g12
  have IX := Lib.hid (hxi.out w12 g12)
  have IG := Lib.hid (Tm.In_below g612 ig6.out)
  have HC2 := Lib.hid (HC.out.gr g612)
  have HX2 := Lib.hid hx
  clear H4 g611 g11 hx
  cases is with
  | true =>
    obtain ⟨egg, rfl⟩ := Hg1.out rfl
    obtain ⟨⟨y0, y1, y2, y3⟩, _, _⟩ := Blk4.parts HC2.out
    obtain ⟨⟨z0, z1, z2, z3⟩, _, _⟩ := Blk4.parts HX2.out
    have hs := same_calls (t := gg) (u := xr) IG.out IX.out
    rw [egg, (same_iff _ _).2 rfl] at hs
    have Hs := Lib.hid (show Calls Try.prog 26 #[.agg #[.int .i64 gg.k, .int .i64 gg.n, .string gg.s, .slice gg.p gg.l.length gg.c], .agg #[.int .i64 xr.k, .int .i64 xr.n, .string xr.s, .slice xr.p xr.l.length xr.c]] w12 (Ret (.bool true) w12) from hs)
    clear hs egg
    go_wp2_with fail
    refine Hs.out.mono ?_
    rintro e w13 ⟨rfl, g13⟩
    replace g13 : Gr w12 w13 := g13
    clear y0 y1 y2 y3 z0 z1 z2 z3 Hs
    have H4 := Lib.hid (h4.out.gr g13)
    have HB13 := Lib.hid ((HB6.out.gr g612).gr g13)
    have IU13 := Lib.hid (Tm.In_below g13 (Tm.In_below g612 iu6.out))
    have g13w : Gr w w13 := g12.trans g13
    obtain ⟨⟨x0, x1, x2, x3⟩, _, s5⟩ := H4.out.parts
    clear h4 g13
    rcases HD.out with ⟨hr, rfl, rfl, rfl⟩ | ⟨hr, hbig, rfl, rfl, rfl⟩ | ⟨hr, hle, eu, rfl, rfl⟩
    · by_cases n0 : d < 0
      · obtain ⟨⟨b0, b1, b2, b3⟩, _, _⟩ := Blk4.parts (show Blk4 w13 w3.heap.size (.int .i64 0) (.int .i64 0) (.string ⟨#[]⟩) (.slice none 0 0) from HB13.out)
        go_wp2_with fail
        refine (hnone.out _).mono ?_
        rintro e w16 ⟨rfl, g16⟩
        have Hb := Lib.hid (HR.out w16 (g13w.trans g16))
        clear b0 b1 b2 b3
        go_wp2_with fail
        exact Hb.out
      · have n1 : 1099511627776 < d := by omega
        obtain ⟨⟨b0, b1, b2, b3⟩, _, _⟩ := Blk4.parts (show Blk4 w13 w3.heap.size (.int .i64 0) (.int .i64 0) (.string ⟨#[]⟩) (.slice none 0 0) from HB13.out)
        go_wp2_with fail
        refine (hnone.out _).mono ?_
        rintro e w16 ⟨rfl, g16⟩
        have Hb := Lib.hid (HR.out w16 (g13w.trans g16))
        clear b0 b1 b2 b3
        go_wp2_with fail
        exact Hb.out
    · have n0 : ¬ d < 0 := by omega
      have n1 : ¬ 1099511627776 < d := by omega
      go_wp2_with fail
      refine (hrv.out _ _ (hone.out w13 _ g13w (Gr.rfl' _))).mono ?_
      rintro e w14 ⟨pv3, cv3, rfl, -, g14⟩
      have gz14 : Gr w13 w14 := Gr.trans (show Gr w13 _ by go_grown) g14
      have g14w := g13w.trans gz14
      have nb : 1099511627777 < d + (V.length : Int) := by omega
      clear x0 x1 x2 x3 g14
      obtain ⟨⟨b0, b1, b2, b3⟩, _, _⟩ := Blk4.parts (show Blk4 w14 w3.heap.size (.int .i64 0) (.int .i64 0) (.string ⟨#[]⟩) (.slice none 0 0) from (HB13.out.gr gz14))
      go_wp2_with fail
      refine (hnone.out _).mono ?_
      rintro e w16 ⟨rfl, g16⟩
      have Hb := Lib.hid (HR.out w16 (g14w.trans g16))
      clear b0 b1 b2 b3
      go_wp2_with fail
      exact Hb.out
    · have n0 : ¬ d < 0 := by omega
      have n1 : ¬ 1099511627776 < d := by omega
      go_wp2_with fail
      refine (hrv.out _ _ (hone.out w13 _ g13w (Gr.rfl' _))).mono ?_
      rintro e w14 ⟨pv3, cv3, rfl, -, g14⟩
      have gz14 : Gr w13 w14 := Gr.trans (show Gr w13 _ by go_grown) g14
      have g14w := g13w.trans gz14
      have nb : ¬ 1099511627777 < d + (V.length : Int) := by omega
      have IU14 := Lib.hid (Tm.In_below gz14 IU13.out)
      have EU := Lib.hid eu
      clear x0 x1 x2 x3 g14 eu
      obtain ⟨⟨x0, x1, x2, x3⟩, _, _⟩ := (H4.out.gr gz14).parts
      obtain ⟨⟨b0, b1, b2, b3⟩, _, _⟩ := Blk4.parts (HB13.out.gr gz14)
      go_upto_region 17 with fail
      refine wp_region_rely [fx (.int .i64 0), fx (.bool true), fx (.bool true), fx (.int .i64 (d + (V.length : Int))), fx (.int .i64 (d + (V.length : Int))), fx (.bool true), fx (.bool true), fx (.bool true), fx (.agg #[.int .i64 u.k, .int .i64 u.n, .string u.s, .slice u.p u.l.length u.c]), fx (.agg #[.int .i64 a.k, .int .i64 a.n, .string a.s, .slice a.p a.l.length a.c]), fx (.int .i64 d), tmIs (fun _ => True) (T.map (swapF d V) a.erase), fx (.bool true), fx (.bool true), fx (.bool true)]
        (by kernel_rfl) (by kernel_rfl) (by repeat (first | exact Stable.nil | refine Stable.fix ?_ | refine Stable.cons tmIs_stable ?_)) ?_ ?_
      · refine ⟨?_, ?_, ?_, ?_, ?_, ?_, ?_, ?_, ?_, ?_, ?_, ?a11, ?a12, ?_, ?_, trivial⟩
        case a12 =>
          intro fr wz hg hold
          have h16 : fr.tmps[16]?.getD undef = .int .i64 0 := hold 16 rfl
          have h15 : fr.tmps[15]?.getD undef = .int .i64 (d + (V.length : Int)) := hold 15 rfl
          have h21 : fr.tmps[21]?.getD undef = .int .i64 (d + (V.length : Int)) := hold 21 rfl
          have h14 : fr.tmps[14]?.getD undef = .pointer (some ⟨w3.heap.size, 0, none⟩) := hold 14 rfl
          have h4' : fr.tmps[4]?.getD undef = .pointer (some ⟨w.heap.size, 0, none⟩) := hold 4 rfl
          have h1 : fr.tmps[1]?.getD undef = .int .i64 d := hold 1 rfl
          have zx0 := Gr.at hg x0
          have zx1 := Gr.at hg x1
          have zx2 := Gr.at hg x2
          have zx3 := Gr.at hg x3
          have zb0 := Gr.at hg b0
          have zb1 := Gr.at hg b1
          have zb2 := Gr.at hg b2
          have zb3 := Gr.at hg b3
          have Hg := Lib.hid (show Gr w14 wz from hg)
          clear hold x0 x1 x2 x3 b0 b1 b2 b3
          simp [predsImp, Region.binds, dstAt, fx, wantedE, Act.eval]
          intros
          obtain ⟨bm, hbm, i1, i2, -⟩ := ‹tmIs _ _ _ _›
          rw [if_pos (by simp [*])]
          intro K hK
          go_simp
          have hs := same_calls (t := u) (u := bm) (Tm.In_below Hg.out IU14.out) i1
          rw [EU.out, i2, (same_iff _ _).2 rfl] at hs
          refine (show Calls Try.prog 26 #[.agg #[.int .i64 u.k, .int .i64 u.n, .string u.s, .slice u.p u.l.length u.c], bm.val] wz _ from hs).mono ?_
          rintro e w20 ⟨rfl, ib⟩
          exact hK _ _ rfl ib
        all_goals
          intro fr wz hg hold
          have h16 : fr.tmps[16]?.getD undef = .int .i64 0 := hold 16 rfl
          have h15 : fr.tmps[15]?.getD undef = .int .i64 (d + (V.length : Int)) := hold 15 rfl
          have h21 : fr.tmps[21]?.getD undef = .int .i64 (d + (V.length : Int)) := hold 21 rfl
          have h14 : fr.tmps[14]?.getD undef = .pointer (some ⟨w3.heap.size, 0, none⟩) := hold 14 rfl
          have h4' : fr.tmps[4]?.getD undef = .pointer (some ⟨w.heap.size, 0, none⟩) := hold 4 rfl
          have h1 : fr.tmps[1]?.getD undef = .int .i64 d := hold 1 rfl
          have zx0 := Gr.at hg x0
          have zx1 := Gr.at hg x1
          have zx2 := Gr.at hg x2
          have zx3 := Gr.at hg x3
          have zb0 := Gr.at hg b0
          have zb1 := Gr.at hg b1
          have zb2 := Gr.at hg b2
          have zb3 := Gr.at hg b3
          have Hg := Lib.hid (show Gr w14 wz from hg)
          clear hold x0 x1 x2 x3 b0 b1 b2 b3
          simp [predsImp, Region.binds, dstAt, fx, wantedE, Act.eval]
          intros
          first
            | (rw [if_pos (by simp [*])]
               intro K hK)
            | (rename_i K hK)
          go_simp
        case a11 =>
          refine (hrr.out wz (g14w.trans Hg.out) ⟨by omega, by omega⟩).mono ?_
          rintro e w20 ⟨bm, i1, i2, rfl, g20, o20⟩
          exact hK _ _ ⟨bm, rfl, i1, i2, o20.mono fun _ _ => trivial⟩ g20
        all_goals exact hK _ _ rfl (Gr.rfl' _)
      · intro w20 hg
        rintro _ rfl _ rfl _ rfl _ rfl _ rfl _ rfl _ rfl _ rfl _ rfl _ rfl _ rfl _ - _ rfl _ rfl _ rfl
        simp only [finAll, Act.put, Exit.then, List.setIfInBounds_toArray, List.set_cons_succ, List.set_cons_zero]
        have Hb := Lib.hid (HR.out w20 (g14w.trans hg))
        clear x0 x1 x2 x3 b0 b1 b2 b3
        go_wp2_with fail
        exact Hb.out
  | false =>
    obtain ⟨rfl, rfl⟩ := Hg0.out rfl
    obtain ⟨⟨y0, y1, y2, y3⟩, _, _⟩ := Blk4.parts (show Blk4 w12 w5.heap.size (.int .i64 0) (.int .i64 0) (.string ⟨#[]⟩) (.slice none 0 0) from HC2.out)
    go_wp2_with fail
    refine (hnone.out _).mono ?_
    rintro e w13 ⟨rfl, g13⟩
    replace g13 : Gr w12 w13 := g13
    clear y0 y1 y2 y3
    have H4 := Lib.hid (h4.out.gr g13)
    have HB13 := Lib.hid ((HB6.out.gr g612).gr g13)
    have IU13 := Lib.hid (Tm.In_below g13 (Tm.In_below g612 iu6.out))
    have g13w : Gr w w13 := g12.trans g13
    obtain ⟨⟨x0, x1, x2, x3⟩, _, s5⟩ := H4.out.parts
    clear h4 g13
    rcases HD.out with ⟨hr, rfl, rfl, rfl⟩ | ⟨hr, hbig, rfl, rfl, rfl⟩ | ⟨hr, hle, eu, rfl, rfl⟩
    · by_cases n0 : d < 0
      · obtain ⟨⟨b0, b1, b2, b3⟩, _, _⟩ := Blk4.parts (show Blk4 w13 w3.heap.size (.int .i64 0) (.int .i64 0) (.string ⟨#[]⟩) (.slice none 0 0) from HB13.out)
        go_wp2_with fail
        refine (hnone.out _).mono ?_
        rintro e w16 ⟨rfl, g16⟩
        have Hb := Lib.hid (HR.out w16 (g13w.trans g16))
        clear b0 b1 b2 b3
        go_wp2_with fail
        exact Hb.out
      · have n1 : 1099511627776 < d := by omega
        obtain ⟨⟨b0, b1, b2, b3⟩, _, _⟩ := Blk4.parts (show Blk4 w13 w3.heap.size (.int .i64 0) (.int .i64 0) (.string ⟨#[]⟩) (.slice none 0 0) from HB13.out)
        go_wp2_with fail
        refine (hnone.out _).mono ?_
        rintro e w16 ⟨rfl, g16⟩
        have Hb := Lib.hid (HR.out w16 (g13w.trans g16))
        clear b0 b1 b2 b3
        go_wp2_with fail
        exact Hb.out
    · have n0 : ¬ d < 0 := by omega
      have n1 : ¬ 1099511627776 < d := by omega
      go_wp2_with fail
      refine (hrv.out _ _ (hone.out w13 _ g13w (Gr.rfl' _))).mono ?_
      rintro e w14 ⟨pv3, cv3, rfl, -, g14⟩
      have gz14 : Gr w13 w14 := Gr.trans (show Gr w13 _ by go_grown) g14
      have g14w := g13w.trans gz14
      have nb : 1099511627777 < d + (V.length : Int) := by omega
      clear x0 x1 x2 x3 g14
      obtain ⟨⟨b0, b1, b2, b3⟩, _, _⟩ := Blk4.parts (show Blk4 w14 w3.heap.size (.int .i64 0) (.int .i64 0) (.string ⟨#[]⟩) (.slice none 0 0) from (HB13.out.gr gz14))
      go_wp2_with fail
      refine (hnone.out _).mono ?_
      rintro e w16 ⟨rfl, g16⟩
      have Hb := Lib.hid (HR.out w16 (g14w.trans g16))
      clear b0 b1 b2 b3
      go_wp2_with fail
      exact Hb.out
    · have n0 : ¬ d < 0 := by omega
      have n1 : ¬ 1099511627776 < d := by omega
      go_wp2_with fail
      refine (hrv.out _ _ (hone.out w13 _ g13w (Gr.rfl' _))).mono ?_
      rintro e w14 ⟨pv3, cv3, rfl, -, g14⟩
      have gz14 : Gr w13 w14 := Gr.trans (show Gr w13 _ by go_grown) g14
      have g14w := g13w.trans gz14
      have nb : ¬ 1099511627777 < d + (V.length : Int) := by omega
      have IU14 := Lib.hid (Tm.In_below gz14 IU13.out)
      have EU := Lib.hid eu
      clear x0 x1 x2 x3 g14 eu
      obtain ⟨⟨x0, x1, x2, x3⟩, _, _⟩ := (H4.out.gr gz14).parts
      obtain ⟨⟨b0, b1, b2, b3⟩, _, _⟩ := Blk4.parts (HB13.out.gr gz14)
      go_upto_region 17 with fail
      refine wp_region_rely [fx (.int .i64 0), fx (.bool true), fx (.bool true), fx (.int .i64 (d + (V.length : Int))), fx (.int .i64 (d + (V.length : Int))), fx (.bool true), fx (.bool true), fx (.bool true), fx (.agg #[.int .i64 u.k, .int .i64 u.n, .string u.s, .slice u.p u.l.length u.c]), fx (.agg #[.int .i64 a.k, .int .i64 a.n, .string a.s, .slice a.p a.l.length a.c]), fx (.int .i64 d), tmIs (fun _ => True) (T.map (swapF d V) a.erase), fx (.bool true), fx (.bool true), fx (.bool true)]
        (by kernel_rfl) (by kernel_rfl) (by repeat (first | exact Stable.nil | refine Stable.fix ?_ | refine Stable.cons tmIs_stable ?_)) ?_ ?_
      · refine ⟨?_, ?_, ?_, ?_, ?_, ?_, ?_, ?_, ?_, ?_, ?_, ?a11, ?a12, ?_, ?_, trivial⟩
        case a12 =>
          intro fr wz hg hold
          have h16 : fr.tmps[16]?.getD undef = .int .i64 0 := hold 16 rfl
          have h15 : fr.tmps[15]?.getD undef = .int .i64 (d + (V.length : Int)) := hold 15 rfl
          have h21 : fr.tmps[21]?.getD undef = .int .i64 (d + (V.length : Int)) := hold 21 rfl
          have h14 : fr.tmps[14]?.getD undef = .pointer (some ⟨w3.heap.size, 0, none⟩) := hold 14 rfl
          have h4' : fr.tmps[4]?.getD undef = .pointer (some ⟨w.heap.size, 0, none⟩) := hold 4 rfl
          have h1 : fr.tmps[1]?.getD undef = .int .i64 d := hold 1 rfl
          have zx0 := Gr.at hg x0
          have zx1 := Gr.at hg x1
          have zx2 := Gr.at hg x2
          have zx3 := Gr.at hg x3
          have zb0 := Gr.at hg b0
          have zb1 := Gr.at hg b1
          have zb2 := Gr.at hg b2
          have zb3 := Gr.at hg b3
          have Hg := Lib.hid (show Gr w14 wz from hg)
          clear hold x0 x1 x2 x3 b0 b1 b2 b3
          simp [predsImp, Region.binds, dstAt, fx, wantedE, Act.eval]
          intros
          obtain ⟨bm, hbm, i1, i2, -⟩ := ‹tmIs _ _ _ _›
          rw [if_pos (by simp [*])]
          intro K hK
          go_simp
          have hs := same_calls (t := u) (u := bm) (Tm.In_below Hg.out IU14.out) i1
          rw [EU.out, i2, (same_iff _ _).2 rfl] at hs
          refine (show Calls Try.prog 26 #[.agg #[.int .i64 u.k, .int .i64 u.n, .string u.s, .slice u.p u.l.length u.c], bm.val] wz _ from hs).mono ?_
          rintro e w20 ⟨rfl, ib⟩
          exact hK _ _ rfl ib
        all_goals
          intro fr wz hg hold
          have h16 : fr.tmps[16]?.getD undef = .int .i64 0 := hold 16 rfl
          have h15 : fr.tmps[15]?.getD undef = .int .i64 (d + (V.length : Int)) := hold 15 rfl
          have h21 : fr.tmps[21]?.getD undef = .int .i64 (d + (V.length : Int)) := hold 21 rfl
          have h14 : fr.tmps[14]?.getD undef = .pointer (some ⟨w3.heap.size, 0, none⟩) := hold 14 rfl
          have h4' : fr.tmps[4]?.getD undef = .pointer (some ⟨w.heap.size, 0, none⟩) := hold 4 rfl
          have h1 : fr.tmps[1]?.getD undef = .int .i64 d := hold 1 rfl
          have zx0 := Gr.at hg x0
          have zx1 := Gr.at hg x1
          have zx2 := Gr.at hg x2
          have zx3 := Gr.at hg x3
          have zb0 := Gr.at hg b0
          have zb1 := Gr.at hg b1
          have zb2 := Gr.at hg b2
          have zb3 := Gr.at hg b3
          have Hg := Lib.hid (show Gr w14 wz from hg)
          clear hold x0 x1 x2 x3 b0 b1 b2 b3
          simp [predsImp, Region.binds, dstAt, fx, wantedE, Act.eval]
          intros
          first
            | (rw [if_pos (by simp [*])]
               intro K hK)
            | (rename_i K hK)
          go_simp
        case a11 =>
          refine (hrr.out wz (g14w.trans Hg.out) ⟨by omega, by omega⟩).mono ?_
          rintro e w20 ⟨bm, i1, i2, rfl, g20, o20⟩
          exact hK _ _ ⟨bm, rfl, i1, i2, o20.mono fun _ _ => trivial⟩ g20
        all_goals exact hK _ _ rfl (Gr.rfl' _)
      · intro w20 hg
        rintro _ rfl _ rfl _ rfl _ rfl _ rfl _ rfl _ rfl _ rfl _ rfl _ rfl _ rfl _ - _ rfl _ rfl _ rfl
        simp only [finAll, Act.put, Exit.then, List.setIfInBounds_toArray, List.set_cons_succ, List.set_cons_zero]
        have Hb := Lib.hid (HR.out w20 (g14w.trans hg))
        clear x0 x1 x2 x3 b0 b1 b2 b3
        go_wp2_with fail
        exact Hb.out
end Go.Proofs.Ytcblmkhhhibddaa
