/-
  hornlaw.two, of two terms.
-/
import Derived.Test.YtcblmkhhhibddaaTS34
import Derived.Test.YtcblmkhhhibddaaTS35
import Derived.Test.YtcblmkhhhibddaaTS42
import Derived.Test.YtcblmkhhhibddaaTS38
import Derived.Test.YtcblmkhhhibddaaTS40
import Derived.Test.YtcblmkhhhibddaaTS46
import Derived.Test.YtcblmkhhhibddaaTS47
import Derived.Test.YtcblmkhhhibddaaTS48
namespace Go.Proofs.Ytcblmkhhhibddaa
open Go.RowKit Go.Maps Go.Lib

set_option maxHeartbeats 16000000 in
set_option maxRecDepth 100000 in
theorem two_good (a b : Tm) (p : Option Addr) (c : Nat) (L : List Int) (w : World) (ia : a.In w) (ib : b.In w) (hL : IntSl w p c L) (sa : T.sz a.erase ≤ 1048576) (sb : T.sz b.erase ≤ 1048576) (fa : a.erase.formed = true) (fb : b.erase.formed = true) :
    Calls Try.prog 35 #[a.val, b.val, .slice p L.length c, .bool true] w (Ret (.bool true) w) := by
  have hff : (a.erase.formed && b.erase.formed) = true := by rw [fa, fb]; rfl
  obtain ⟨vv, hvv⟩ : ∃ vv : Bool, vv = true ↔ a.erase.norm = b.erase.norm := by classical exact ⟨decide (a.erase.norm = b.erase.norm), by simp⟩
  have hcmp : Hid (∀ W, Gr w W → Calls Try.prog 103 #[.agg #[.int .i64 a.k, .int .i64 a.n, .string a.s, .slice a.p a.l.length a.c], .agg #[.int .i64 b.k, .int .i64 b.n, .string b.s, .slice b.p b.l.length b.c]] W (fun e W' => e = .returned (.tuple #[.int .i64 (T.order a.erase b.erase), .int .i64 0]) ∧ Gr W W')) := fun W g => (compare_calls a b W (Tm.In_below g ia) (Tm.In_below g ib)).mono fun e W' h => ⟨by rw [h.1, hff]; rfl, h.2⟩
  have hrc := Lib.hid (fun W (g : Gr w W) => show Calls Try.prog 104 #[.agg #[.int .i64 a.k, .int .i64 a.n, .string a.s, .slice a.p a.l.length a.c], .agg #[.int .i64 b.k, .int .i64 b.n, .string b.s, .slice b.p b.l.length b.c]] W (Ret (.int .i64 (T.order a.erase b.erase)) W) from rcompare_calls (a := a) (b := b) (Tm.In_below g ia) (Tm.In_below g ib) fa fb)
  have hvar : Hid (∀ W, Gr w W → Calls Try.prog 32 #[.agg #[.int .i64 a.k, .int .i64 a.n, .string a.s, .slice a.p a.l.length a.c], .agg #[.int .i64 b.k, .int .i64 b.n, .string b.s, .slice b.p b.l.length b.c]] W (fun e W' => e = .returned (.tuple #[.bool vv, .int .i64 0]) ∧ Gr W W')) := fun W g => (variant_calls a b W (Tm.In_below g ia) (Tm.In_below g ib)).mono fun e W' ⟨v, h1, h2, h3⟩ => by
    rw [hff] at h1 h2
    obtain rfl : v = vv := by
      rw [Bool.eq_iff_iff, h2, hvv]
      simp
    exact ⟨h1, h3⟩
  have hrva : Hid (∀ W, Gr w W → Calls Try.prog 105 #[.agg #[.int .i64 a.k, .int .i64 a.n, .string a.s, .slice a.p a.l.length a.c], .agg #[.int .i64 b.k, .int .i64 b.n, .string b.s, .slice b.p b.l.length b.c]] W (Ret (.bool vv) W)) := fun W g => (rvariant_calls a b W (Tm.In_below g ia) (Tm.In_below g ib) sa sb).mono fun e W' ⟨r, h1, h2, h3⟩ => by
    obtain rfl : r = vv := by rw [Bool.eq_iff_iff, h2, hvv, fitall_iff fa fb]
    exact ⟨h1, h3⟩
  have hgen : Hid (∀ W, Gr w W → Calls Try.prog 30 #[.agg #[.int .i64 a.k, .int .i64 a.n, .string a.s, .slice a.p a.l.length a.c], .agg #[.int .i64 b.k, .int .i64 b.n, .string b.s, .slice b.p b.l.length b.c]] W (fun e W' => ∃ g : Tm, e = .returned (.tuple #[.agg #[.int .i64 g.k, .int .i64 g.n, .string g.s, .slice g.p g.l.length g.c], .int .i64 0]) ∧ g.In W' ∧ Gr W W' ∧ g.erase = T.lgg a.erase b.erase)) := fun W g => (general_says gen_says a b W (Tm.In_below g ia) (Tm.In_below g ib) fa fb sa sb).mono fun e W' ⟨g, h1, h2, h3, h4⟩ => ⟨g, h1, h2, h4, h3⟩
  have hrg := Lib.hid (fun W (g : Gr w W) => show Calls Try.prog 106 #[.agg #[.int .i64 a.k, .int .i64 a.n, .string a.s, .slice a.p a.l.length a.c], .agg #[.int .i64 b.k, .int .i64 b.n, .string b.s, .slice b.p b.l.length b.c]] W (RetTm (fun _ => True) (T.lgg a.erase b.erase) W) from rgeneral_calls a b W (Tm.In_below g ia) (Tm.In_below g ib) fa fb sa)
  obtain ⟨xr, is, exr, eis, hat1, hat0, hxin⟩ := at_both a L
  have hput : Hid (∀ W, Gr w W → Calls Try.prog 48 #[.agg #[.int .i64 a.k, .int .i64 a.n, .string a.s, .slice a.p a.l.length a.c], .slice p L.length c, .agg #[.int .i64 b.k, .int .i64 b.n, .string b.s, .slice b.p b.l.length b.c]] W (fun e W' => ∃ (g : Tm) (h : Int), e = .returned (.tuple #[.agg #[.int .i64 g.k, .int .i64 g.n, .string g.s, .slice g.p g.l.length g.c], .int .i64 h]) ∧ g.In W' ∧ Gr W W' ∧ (is = true → g.erase = T.put a.erase L b.erase ∧ h = 0) ∧ (is = false → g = zeroTm ∧ h = 8))) := fun W g => (put_calls a p c L b W (Tm.In_below g ia) (hL.mono g) (Tm.In_below g ib)).mono fun e W' ⟨h3, h4⟩ => by
    rw [hff] at h4
    rcases h4 with ⟨h, _⟩ | ⟨_, h5, h6⟩ | ⟨_, h5, g1, h6, h7, h8, _⟩
    · cases h
    · refine ⟨zeroTm, 8, h6, zeroTm_in _, h3, fun h => ?_, fun _ => ⟨rfl, rfl⟩⟩
      rw [hat1 h] at h5; cases h5
    · refine ⟨g1, 0, h6, h7, h3, fun h => ⟨h8, rfl⟩, fun h => ?_⟩
      rw [hat0 h] at h5; cases h5
  have hrat : Hid (∀ W, Gr w W → Calls Try.prog 101 #[.agg #[.int .i64 a.k, .int .i64 a.n, .string a.s, .slice a.p a.l.length a.c], .slice p L.length c] W (Ret (.tuple #[.agg #[.int .i64 xr.k, .int .i64 xr.n, .string xr.s, .slice xr.p xr.l.length xr.c], .bool is]) W)) := fun W g => by
    have := rat_calls (t := a) (Tm.In_below g ia) (hL.mono g)
    rw [exr, eis] at this
    exact this
  have hrp : Hid (∀ W, Gr w W → is = true → Calls Try.prog 108 #[.agg #[.int .i64 a.k, .int .i64 a.n, .string a.s, .slice a.p a.l.length a.c], .slice p L.length c, .agg #[.int .i64 b.k, .int .i64 b.n, .string b.s, .slice b.p b.l.length b.c]] W (RetTm (fun b => b < W.heap.size ∨ W.heap.size ≤ b) (T.put a.erase L b.erase) W)) := fun W g h => rput_any L (· < W.heap.size) a b p c W (Tm.In_below g ia) (Tm.In_below g ib) (Tm.In_below g ia).on (Tm.In_below g ib).on (fun _ h => h) (hL.mono g) (by rw [eis]; exact h)
  have hmat : Hid (∀ W, Gr w W → Calls Try.prog 31 #[.agg #[.int .i64 a.k, .int .i64 a.n, .string a.s, .slice a.p a.l.length a.c], .agg #[.int .i64 b.k, .int .i64 b.n, .string b.s, .slice b.p b.l.length b.c]] W (fun e W' => ∃ (pp : Option Addr) (cc : Nat) (l : List Bd) (m : Bool), e = .returned (.tuple #[.slice pp l.length cc, .bool m, .int .i64 0]) ∧ (Bds.mk pp cc l).In W' ∧ Gr W W' ∧
      ((m = false ∧ l = [] ∧ T.mat a.erase b.erase (fun _ => none) = none) ∨ (m = true ∧ ∃ g, T.mat a.erase b.erase (fun _ => none) = some g ∧ IsAll g l)))) := fun W g => (tmatch_calls a b W (Tm.In_below g ia) (Tm.In_below g ib)).mono fun e W' ⟨pp, cc, l, v, h1, h2, _, h4, h5⟩ => by
    rw [hff] at h1 h5
    refine ⟨pp, cc, l, v, h1, h2, h4, ?_⟩
    rcases h5 with ⟨e1, e2, e3⟩ | ⟨e1, _, e3⟩
    · exact .inl ⟨e1, e2, e3 rfl⟩
    · exact .inr ⟨e1, e3⟩
  have hrm := Lib.hid (fun W (g : Gr w W) => show Calls Try.prog 107 #[.agg #[.int .i64 a.k, .int .i64 a.n, .string a.s, .slice a.p a.l.length a.c], .agg #[.int .i64 b.k, .int .i64 b.n, .string b.s, .slice b.p b.l.length b.c]] W (RetRM a b W) from rmatch_calls a b W (Tm.In_below g ia) (Tm.In_below g ib) fa sa)
  have Hfa := Lib.hid fa
  have Hfb := Lib.hid fb
  have hR : Hid (∀ w', Gr w w' → Ret (.bool true) w (.returned (.bool true)) w') := fun w' g => ⟨rfl, g⟩
  generalize Ret (.bool true) w = Q at hR ⊢
  have HR := hR
  have hnone := Lib.hid noneZ
  have hxi : Hid (∀ W, Gr w W → xr.In W) := fun W g => Tm.In_below g (hxin w ia)
  generalize T.order a.erase b.erase = oo at *
  generalize T.put a.erase L b.erase = pu at *
  generalize T.lgg a.erase b.erase = lg at *
  clear ia ib hL hR hff hvv sa sb fa fb hat1 hat0 exr eis hxin
  rw [show a.val = .agg #[.int .i64 a.k, .int .i64 a.n, .string a.s, .slice a.p a.l.length a.c] from rfl, show b.val = .agg #[.int .i64 b.k, .int .i64 b.n, .string b.s, .slice b.p b.l.length b.c] from rfl]
  go_enter Try.func35, Try.ntmps35
  try simp only [List.append_eq, List.cons_append, List.nil_append]
  go_upto_region 1 with fail
  obtain ⟨h4, k4, gA⟩ := two_blocks w (.int .i64 a.k) (.int .i64 a.n) (.string a.s) (.slice a.p a.l.length a.c) (.int .i64 b.k) (.int .i64 b.n) (.string b.s) (.slice b.p b.l.length b.c)
  generalize ((w.alloc (.cells #[.int .i64 a.k, .int .i64 a.n, .string a.s, .slice a.p a.l.length a.c] 25)).alloc (.cells #[.int .i64 b.k, .int .i64 b.n, .string b.s, .slice b.p b.l.length b.c] 25)) = wA at *
  have gw0 : Gr w wA := gA
  obtain ⟨⟨x0, x1, x2, x3⟩, _, _⟩ := h4.out.parts
  obtain ⟨⟨y0, y1, y2, y3⟩, _, _⟩ := k4.out.parts
  go_wp2_with fail
  refine (hcmp.out _ gw0).mono ?_
  rintro e w1 ⟨rfl, gg⟩
  clear x0 x1 x2 x3 y0 y1 y2 y3
  replace gg : Gr wA w1 := gg
  have h21 := Lib.hid (h4.out.gr gg)
  have k21 := Lib.hid (k4.out.gr gg)
  have gw1 : Gr w w1 := Gr.trans gw0 gg
  clear h4 k4 gg 
  go_upto_region 2 with fail
  obtain ⟨⟨x0, x1, x2, x3⟩, _, _⟩ := h21.out.parts
  obtain ⟨⟨y0, y1, y2, y3⟩, _, _⟩ := k21.out.parts
  go_wp2_with fail
  refine (hvar.out _ gw1).mono ?_
  rintro e w2 ⟨rfl, gg⟩
  clear x0 x1 x2 x3 y0 y1 y2 y3
  have h22 := Lib.hid (h21.out.gr gg)
  have k22 := Lib.hid (k21.out.gr gg)
  have gw2 : Gr w w2 := Gr.trans gw1 gg
  clear h21 k21 gg 
  go_upto_region 3 with fail
  obtain ⟨⟨x0, x1, x2, x3⟩, _, _⟩ := h22.out.parts
  obtain ⟨⟨y0, y1, y2, y3⟩, _, _⟩ := k22.out.parts
  go_wp2_with fail
  refine (hgen.out _ gw2).mono ?_
  rintro e w3 ⟨g, rfl, ig0, gg, eg⟩
  clear x0 x1 x2 x3 y0 y1 y2 y3
  have Eg := Lib.hid eg
  have IG0 := Lib.hid ig0
  clear eg ig0
  have h23 := Lib.hid (h22.out.gr gg)
  have k23 := Lib.hid (k22.out.gr gg)
  have gw3 : Gr w w3 := Gr.trans gw2 gg
  clear h22 k22 gg 
  go_upto_region 4 with fail
  obtain ⟨hb0, gg⟩ := set_new w3 (.int .i64 g.k) (.int .i64 g.n) (.string g.s) (.slice g.p g.l.length g.c)
  generalize (w3.alloc (.cells #[.int .i64 g.k, .int .i64 g.n, .string g.s, .slice g.p g.l.length g.c] 25)) = w4 at *
  have HB0 := Lib.hid hb0
  clear hb0
  have h24 := Lib.hid (h23.out.gr gg)
  have k24 := Lib.hid (k23.out.gr gg)
  have gw4 : Gr w w4 := Gr.trans gw3 gg
  have IG0_4 := Lib.hid (Tm.In_below gg IG0.out)
  clear h23 k23 gg IG0
  obtain ⟨⟨x0, x1, x2, x3⟩, _, _⟩ := h24.out.parts
  obtain ⟨⟨y0, y1, y2, y3⟩, _, _⟩ := k24.out.parts
  go_wp2_with fail
  refine (hput.out _ gw4).mono ?_
  rintro e w5 ⟨pg, hh, rfl, ip0, gg, hp1, hp0⟩
  clear x0 x1 x2 x3 y0 y1 y2 y3
  have Hp1 := Lib.hid hp1
  have Hp0 := Lib.hid hp0
  have IP0 := Lib.hid ip0
  clear hp1 hp0 ip0
  have h25 := Lib.hid (h24.out.gr gg)
  have k25 := Lib.hid (k24.out.gr gg)
  have gw5 : Gr w w5 := Gr.trans gw4 gg
  have IG0_5 := Lib.hid (Tm.In_below gg IG0_4.out)
  have HB0_5 := Lib.hid (HB0.out.gr gg)
  clear h24 k24 gg IG0_4 HB0
  go_upto_region 5 with fail
  obtain ⟨hc0, gg⟩ := set_new w5 (.int .i64 pg.k) (.int .i64 pg.n) (.string pg.s) (.slice pg.p pg.l.length pg.c)
  generalize (w5.alloc (.cells #[.int .i64 pg.k, .int .i64 pg.n, .string pg.s, .slice pg.p pg.l.length pg.c] 25)) = w6 at *
  have HC0 := Lib.hid hc0
  clear hc0
  have h26 := Lib.hid (h25.out.gr gg)
  have k26 := Lib.hid (k25.out.gr gg)
  have gw6 : Gr w w6 := Gr.trans gw5 gg
  have IG0_6 := Lib.hid (Tm.In_below gg IG0_5.out)
  have HB0_6 := Lib.hid (HB0_5.out.gr gg)
  have IP0_6 := Lib.hid (Tm.In_below gg IP0.out)
  clear h25 k25 gg IG0_5 HB0_5 IP0
  obtain ⟨⟨x0, x1, x2, x3⟩, _, _⟩ := h26.out.parts
  obtain ⟨⟨y0, y1, y2, y3⟩, _, _⟩ := k26.out.parts
  go_wp2_with fail
  refine (hmat.out _ gw6).mono ?_
  rintro e w7 ⟨pp, cc, l1, m, rfl, is0, gg, hm⟩
  clear x0 x1 x2 x3 y0 y1 y2 y3
  have Hm := Lib.hid hm
  have IS0 := Lib.hid is0
  clear hm is0
  have h27 := Lib.hid (h26.out.gr gg)
  have k27 := Lib.hid (k26.out.gr gg)
  have gw7 : Gr w w7 := Gr.trans gw6 gg
  have IG0_7 := Lib.hid (Tm.In_below gg IG0_6.out)
  have HB0_7 := Lib.hid (HB0_6.out.gr gg)
  have IP0_7 := Lib.hid (Tm.In_below gg IP0_6.out)
  have HC0_7 := Lib.hid (HC0.out.gr gg)
  clear h26 k26 gg IG0_6 HB0_6 IP0_6 HC0
  obtain ⟨⟨x0, x1, x2, x3⟩, _, _⟩ := h27.out.parts
  obtain ⟨⟨y0, y1, y2, y3⟩, _, _⟩ := k27.out.parts
  obtain ⟨⟨b0, b1, b2, b3⟩, _, _⟩ := Blk4.parts HB0_7.out
  have HBx := Lib.hid HB0_7.out
  go_upto_region 8 with fail
  refine wp_region_rely [fx (.int .i64 oo), fx (.agg #[.int .i64 a.k, .int .i64 a.n, .string a.s, .slice a.p a.l.length a.c]), fx (.agg #[.int .i64 b.k, .int .i64 b.n, .string b.s, .slice b.p b.l.length b.c]), fx (.int .i64 oo), fx (.bool false), fx (.bool false), fx (.int .i64 0), fx (.bool false), fx (.bool false), fx (.bool false), fx (.bool vv), fx (.agg #[.int .i64 a.k, .int .i64 a.n, .string a.s, .slice a.p a.l.length a.c]), fx (.agg #[.int .i64 b.k, .int .i64 b.n, .string b.s, .slice b.p b.l.length b.c]), fx (.bool vv), fx (.bool false), fx (.bool false), fx (.bool false), fx (.int .i64 0), fx (.bool false), fx (.bool false), fx (.bool false), fx (.agg #[.int .i64 g.k, .int .i64 g.n, .string g.s, .slice g.p g.l.length g.c]), fx (.agg #[.int .i64 a.k, .int .i64 a.n, .string a.s, .slice a.p a.l.length a.c]), fx (.agg #[.int .i64 b.k, .int .i64 b.n, .string b.s, .slice b.p b.l.length b.c]), tmIs (fun _ => True) lg, fx (.bool true), fx (.bool false), fx (.bool false), fx (.bool false), fx (.int .i64 0), fx (.bool false), fx (.bool false)]
    (by kernel_rfl) (by kernel_rfl) (by repeat (first | exact Stable.nil | refine Stable.fix ?_ | refine Stable.cons tmIs_stable ?_)) ?_ ?_
  · refine ⟨?_, ?_, ?_, ?a3, ?_, ?_, ?_, ?_, ?_, ?_, ?_, ?_, ?_, ?a13, ?_, ?_, ?_, ?_, ?_, ?_, ?_, ?_, ?_, ?_, ?a24, ?a25, ?_, ?_, ?_, ?_, ?_, ?_, trivial⟩
    case a25 =>
      intro fr wz hg hold
      have h9 : fr.tmps[9]?.getD undef = .int .i64 oo := hold 9 rfl
      have h10 : fr.tmps[10]?.getD undef = .int .i64 0 := hold 10 rfl
      have h11 : fr.tmps[11]?.getD undef = .bool vv := hold 11 rfl
      have h12 : fr.tmps[12]?.getD undef = .int .i64 0 := hold 12 rfl
      have h13 : fr.tmps[13]?.getD undef = .pointer (some ⟨w3.heap.size, 0, none⟩) := hold 13 rfl
      have h14 : fr.tmps[14]?.getD undef = .int .i64 0 := hold 14 rfl
      have h4' : fr.tmps[4]?.getD undef = .pointer (some ⟨w.heap.size, 0, none⟩) := hold 4 rfl
      have h5' : fr.tmps[5]?.getD undef = .pointer (some ⟨w.heap.size + 1, 0, none⟩) := hold 5 rfl
      have zx0 := Gr.at hg x0
      have zx1 := Gr.at hg x1
      have zx2 := Gr.at hg x2
      have zx3 := Gr.at hg x3
      have zy0 := Gr.at hg y0
      have zy1 := Gr.at hg y1
      have zy2 := Gr.at hg y2
      have zy3 := Gr.at hg y3
      have zb0 := Gr.at hg b0
      have zb1 := Gr.at hg b1
      have zb2 := Gr.at hg b2
      have zb3 := Gr.at hg b3
      have Hg := Lib.hid (show Gr w7 wz from hg)
      clear hold x0 x1 x2 x3 y0 y1 y2 y3 b0 b1 b2 b3
      simp [predsImp, Region.binds, dstAt, fx, wantedE, Act.eval]
      intros
      obtain ⟨bm, hbm, i1, i2, -⟩ := ‹tmIs _ _ _ _›
      rw [if_pos (by simp [*])]
      intro K hK
      go_simp
      have hs := same_calls (t := g) (u := bm) (Tm.In_below Hg.out IG0_7.out) i1
      rw [Eg.out, i2, (same_iff _ _).2 rfl] at hs
      refine (show Calls Try.prog 26 #[.agg #[.int .i64 g.k, .int .i64 g.n, .string g.s, .slice g.p g.l.length g.c], bm.val] wz _ from hs).mono ?_
      rintro e w20 ⟨rfl, ib⟩
      exact hK _ _ rfl ib
    all_goals
      intro fr wz hg hold
      have h9 : fr.tmps[9]?.getD undef = .int .i64 oo := hold 9 rfl
      have h10 : fr.tmps[10]?.getD undef = .int .i64 0 := hold 10 rfl
      have h11 : fr.tmps[11]?.getD undef = .bool vv := hold 11 rfl
      have h12 : fr.tmps[12]?.getD undef = .int .i64 0 := hold 12 rfl
      have h13 : fr.tmps[13]?.getD undef = .pointer (some ⟨w3.heap.size, 0, none⟩) := hold 13 rfl
      have h14 : fr.tmps[14]?.getD undef = .int .i64 0 := hold 14 rfl
      have h4' : fr.tmps[4]?.getD undef = .pointer (some ⟨w.heap.size, 0, none⟩) := hold 4 rfl
      have h5' : fr.tmps[5]?.getD undef = .pointer (some ⟨w.heap.size + 1, 0, none⟩) := hold 5 rfl
      have zx0 := Gr.at hg x0
      have zx1 := Gr.at hg x1
      have zx2 := Gr.at hg x2
      have zx3 := Gr.at hg x3
      have zy0 := Gr.at hg y0
      have zy1 := Gr.at hg y1
      have zy2 := Gr.at hg y2
      have zy3 := Gr.at hg y3
      have zb0 := Gr.at hg b0
      have zb1 := Gr.at hg b1
      have zb2 := Gr.at hg b2
      have zb3 := Gr.at hg b3
      have Hg := Lib.hid (show Gr w7 wz from hg)
      clear hold x0 x1 x2 x3 y0 y1 y2 y3 b0 b1 b2 b3
      simp [predsImp, Region.binds, dstAt, fx, wantedE, Act.eval]
      intros
      first
        | (rw [if_pos (by simp [*])]
           intro K hK)
        | (rename_i K hK)
      go_simp
    case a3 =>
      refine (hrc.out wz (gw7.trans Hg.out)).mono ?_
      rintro e w20 ⟨rfl, g20⟩
      exact hK _ _ rfl g20
    case a13 =>
      refine (hrva.out wz (gw7.trans Hg.out)).mono ?_
      rintro e w20 ⟨rfl, g20⟩
      exact hK _ _ rfl g20
    case a24 =>
      refine (hrg.out wz (gw7.trans Hg.out)).mono ?_
      rintro e w20 ⟨bm, i1, i2, rfl, g20, o20⟩
      exact hK _ _ ⟨bm, rfl, i1, i2, o20⟩ g20
    all_goals exact hK _ _ rfl (Gr.rfl' _)
  · intro w8 gg
    rintro _ rfl _ rfl _ rfl _ rfl _ rfl _ rfl _ rfl _ rfl _ rfl _ rfl _ rfl _ rfl _ rfl _ rfl _ rfl _ rfl _ rfl _ rfl _ rfl _ rfl _ rfl _ rfl _ rfl _ rfl _ - _ rfl _ rfl _ rfl _ rfl _ rfl _ rfl _ rfl
    simp only [finAll, Act.put, Exit.then, List.setIfInBounds_toArray, List.set_cons_succ, List.set_cons_zero]
    clear x0 x1 x2 x3 y0 y1 y2 y3 b0 b1 b2 b3 HBx
    have h28 := Lib.hid (h27.out.gr gg)
    have k28 := Lib.hid (k27.out.gr gg)
    have gw8 : Gr w w8 := Gr.trans gw7 gg
    have IG0_8 := Lib.hid (Tm.In_below gg IG0_7.out)
    have HB0_8 := Lib.hid (HB0_7.out.gr gg)
    have IP0_8 := Lib.hid (Tm.In_below gg IP0_7.out)
    have HC0_8 := Lib.hid (HC0_7.out.gr gg)
    have IS0_8 := Lib.hid (IS0.out.mono gg)
    clear h27 k27 gg IG0_7 HB0_7 IP0_7 HC0_7 IS0
    obtain ⟨⟨x0, x1, x2, x3⟩, _, _⟩ := h28.out.parts
    obtain ⟨⟨y0, y1, y2, y3⟩, _, _⟩ := k28.out.parts
    go_wp2_with fail
    refine (hrm.out _ gw8).mono ?_
    rintro e w9 ⟨qq, cd, l2, d2, rfl, ib0, gg, hd1, hd2⟩
    clear x0 x1 x2 x3 y0 y1 y2 y3
    obtain ⟨emd, esb⟩ := match_agree Hfa.out Hfb.out Hm.out hd1 hd2
    subst emd
    have Hsb := Lib.hid (fun ww (gz : Gr w9 ww) => sameBinds_calls pp qq cc cd l1 l2 ww ((IS0_8.out.mono gg).mono gz) (ib0.mono gz) esb)
    clear hd1 hd2 esb ib0
    have h29 := Lib.hid (h28.out.gr gg)
    have k29 := Lib.hid (k28.out.gr gg)
    have gw9 : Gr w w9 := Gr.trans gw8 gg
    have IG0_9 := Lib.hid (Tm.In_below gg IG0_8.out)
    have HB0_9 := Lib.hid (HB0_8.out.gr gg)
    have IP0_9 := Lib.hid (Tm.In_below gg IP0_8.out)
    have HC0_9 := Lib.hid (HC0_8.out.gr gg)
    have IS0_9 := Lib.hid (IS0_8.out.mono gg)
    clear h28 k28 gg IG0_8 HB0_8 IP0_8 HC0_8 IS0_8
    go_upto_region 11 with fail
    have hmm : (m != m) = false := by simp
    go_wp2_with fail
    refine (Hsb.out _ (Gr.rfl' _)).mono ?_
    rintro e w10 ⟨rfl, gg⟩
    replace gg : Gr w9 w10 := gg
    clear Hsb
    have h30 := Lib.hid (h29.out.gr gg)
    have k30 := Lib.hid (k29.out.gr gg)
    have gw10 : Gr w w10 := Gr.trans gw9 gg
    have IG0_10 := Lib.hid (Tm.In_below gg IG0_9.out)
    have HB0_10 := Lib.hid (HB0_9.out.gr gg)
    have IP0_10 := Lib.hid (Tm.In_below gg IP0_9.out)
    have HC0_10 := Lib.hid (HC0_9.out.gr gg)
    have IS0_10 := Lib.hid (IS0_9.out.mono gg)
    clear h29 k29 gg IG0_9 HB0_9 IP0_9 HC0_9 IS0_9
    go_upto_region 13 with fail
    obtain ⟨⟨x0, x1, x2, x3⟩, _, _⟩ := h30.out.parts
    obtain ⟨⟨y0, y1, y2, y3⟩, _, _⟩ := k30.out.parts
    go_wp2_with fail
    refine (hrat.out _ gw10).mono ?_
    rintro e w11 ⟨rfl, gg⟩
    clear x0 x1 x2 x3 y0 y1 y2 y3
    replace gg : Gr w10 w11 := gg
    have h31 := Lib.hid (h30.out.gr gg)
    have k31 := Lib.hid (k30.out.gr gg)
    have gw11 : Gr w w11 := Gr.trans gw10 gg
    have IG0_11 := Lib.hid (Tm.In_below gg IG0_10.out)
    have HB0_11 := Lib.hid (HB0_10.out.gr gg)
    have IP0_11 := Lib.hid (Tm.In_below gg IP0_10.out)
    have HC0_11 := Lib.hid (HC0_10.out.gr gg)
    have IS0_11 := Lib.hid (IS0_10.out.mono gg)
    clear h30 k30 gg IG0_10 HB0_10 IP0_10 HC0_10 IS0_10
    go_upto_region 14 with fail
    obtain ⟨-, gg⟩ := set_new w11 (.int .i64 xr.k) (.int .i64 xr.n) (.string xr.s) (.slice xr.p xr.l.length xr.c)
    generalize (w11.alloc (.cells #[.int .i64 xr.k, .int .i64 xr.n, .string xr.s, .slice xr.p xr.l.length xr.c] 25)) = w12 at *
    have h32 := Lib.hid (h31.out.gr gg)
    have k32 := Lib.hid (k31.out.gr gg)
    have gw12 : Gr w w12 := Gr.trans gw11 gg
    have IG0_12 := Lib.hid (Tm.In_below gg IG0_11.out)
    have HB0_12 := Lib.hid (HB0_11.out.gr gg)
    have IP0_12 := Lib.hid (Tm.In_below gg IP0_11.out)
    have HC0_12 := Lib.hid (HC0_11.out.gr gg)
    have IS0_12 := Lib.hid (IS0_11.out.mono gg)
    clear h31 k31 gg IG0_11 HB0_11 IP0_11 HC0_11 IS0_11
    obtain ⟨⟨x0, x1, x2, x3⟩, _, _⟩ := h32.out.parts
    obtain ⟨⟨y0, y1, y2, y3⟩, _, _⟩ := k32.out.parts
    cases is with
    | false =>
      obtain ⟨rfl, rfl⟩ := Hp0.out rfl
      obtain ⟨⟨b0, b1, b2, b3⟩, _, _⟩ := Blk4.parts (show Blk4 w12 w5.heap.size (.int .i64 0) (.int .i64 0) (.string ⟨#[]⟩) (.slice none 0 0) from HC0_12.out)
      go_wp2_with fail
      refine (hnone.out _).mono ?_
      rintro e w13 ⟨rfl, gg⟩
      have Hb := Lib.hid (HR.out w13 (gw12.trans gg))
      clear b0 b1 b2 b3
      go_wp2_with fail
      exact Hb.out
    | true =>
      obtain ⟨epg, rfl⟩ := Hp1.out rfl
      have Epg := Lib.hid epg
      obtain ⟨⟨b0, b1, b2, b3⟩, _, _⟩ := Blk4.parts HC0_12.out
      clear epg
      go_upto_region 16 with fail
      refine wp_region_rely [fx (.int .i64 0), fx (.bool true), fx (.bool true), fx (.agg #[.int .i64 pg.k, .int .i64 pg.n, .string pg.s, .slice pg.p pg.l.length pg.c]), fx (.agg #[.int .i64 a.k, .int .i64 a.n, .string a.s, .slice a.p a.l.length a.c]), fx (.slice p L.length c), fx (.agg #[.int .i64 b.k, .int .i64 b.n, .string b.s, .slice b.p b.l.length b.c]), tmIs (fun _ => True) pu, fx (.bool true), fx (.bool true), fx (.bool true)]
        (by kernel_rfl) (by kernel_rfl) (by repeat (first | exact Stable.nil | refine Stable.fix ?_ | refine Stable.cons tmIs_stable ?_)) ?_ ?_
      · refine ⟨?_, ?_, ?_, ?_, ?_, ?_, ?_, ?a7, ?a8, ?_, ?_, trivial⟩
        case a8 =>
          intro fr wz hg hold
          have h16 : fr.tmps[16]?.getD undef = .int .i64 0 := hold 16 rfl
          have h15 : fr.tmps[15]?.getD undef = .pointer (some ⟨w5.heap.size, 0, none⟩) := hold 15 rfl
          have h2 : fr.tmps[2]?.getD undef = .slice p L.length c := hold 2 rfl
          have h4' : fr.tmps[4]?.getD undef = .pointer (some ⟨w.heap.size, 0, none⟩) := hold 4 rfl
          have h5' : fr.tmps[5]?.getD undef = .pointer (some ⟨w.heap.size + 1, 0, none⟩) := hold 5 rfl
          have zx0 := Gr.at hg x0
          have zx1 := Gr.at hg x1
          have zx2 := Gr.at hg x2
          have zx3 := Gr.at hg x3
          have zy0 := Gr.at hg y0
          have zy1 := Gr.at hg y1
          have zy2 := Gr.at hg y2
          have zy3 := Gr.at hg y3
          have zb0 := Gr.at hg b0
          have zb1 := Gr.at hg b1
          have zb2 := Gr.at hg b2
          have zb3 := Gr.at hg b3
          have Hg := Lib.hid (show Gr w12 wz from hg)
          clear hold x0 x1 x2 x3 y0 y1 y2 y3 b0 b1 b2 b3
          simp [predsImp, Region.binds, dstAt, fx, wantedE, Act.eval]
          intros
          obtain ⟨bm, hbm, i1, i2, -⟩ := ‹tmIs _ _ _ _›
          rw [if_pos (by simp [*])]
          intro K hK
          go_simp
          have hs := same_calls (t := pg) (u := bm) (Tm.In_below Hg.out IP0_12.out) i1
          rw [Epg.out, i2, (same_iff _ _).2 rfl] at hs
          refine (show Calls Try.prog 26 #[.agg #[.int .i64 pg.k, .int .i64 pg.n, .string pg.s, .slice pg.p pg.l.length pg.c], bm.val] wz _ from hs).mono ?_
          rintro e w20 ⟨rfl, ib⟩
          exact hK _ _ rfl ib
        all_goals
          intro fr wz hg hold
          have h16 : fr.tmps[16]?.getD undef = .int .i64 0 := hold 16 rfl
          have h15 : fr.tmps[15]?.getD undef = .pointer (some ⟨w5.heap.size, 0, none⟩) := hold 15 rfl
          have h2 : fr.tmps[2]?.getD undef = .slice p L.length c := hold 2 rfl
          have h4' : fr.tmps[4]?.getD undef = .pointer (some ⟨w.heap.size, 0, none⟩) := hold 4 rfl
          have h5' : fr.tmps[5]?.getD undef = .pointer (some ⟨w.heap.size + 1, 0, none⟩) := hold 5 rfl
          have zx0 := Gr.at hg x0
          have zx1 := Gr.at hg x1
          have zx2 := Gr.at hg x2
          have zx3 := Gr.at hg x3
          have zy0 := Gr.at hg y0
          have zy1 := Gr.at hg y1
          have zy2 := Gr.at hg y2
          have zy3 := Gr.at hg y3
          have zb0 := Gr.at hg b0
          have zb1 := Gr.at hg b1
          have zb2 := Gr.at hg b2
          have zb3 := Gr.at hg b3
          have Hg := Lib.hid (show Gr w12 wz from hg)
          clear hold x0 x1 x2 x3 y0 y1 y2 y3 b0 b1 b2 b3
          simp [predsImp, Region.binds, dstAt, fx, wantedE, Act.eval]
          intros
          first
            | (rw [if_pos (by simp [*])]
               intro K hK)
            | (rename_i K hK)
          go_simp
        case a7 =>
          refine (hrp.out wz (gw12.trans Hg.out) rfl).mono ?_
          rintro e w20 ⟨bm, i1, i2, rfl, g20, o20⟩
          exact hK _ _ ⟨bm, rfl, i1, i2, o20.mono fun _ _ => trivial⟩ g20
        all_goals exact hK _ _ rfl (Gr.rfl' _)
      · intro w20 hg
        rintro _ rfl _ rfl _ rfl _ rfl _ rfl _ rfl _ rfl _ - _ rfl _ rfl _ rfl
        simp only [finAll, Act.put, Exit.then, List.setIfInBounds_toArray, List.set_cons_succ, List.set_cons_zero]
        have Hb := Lib.hid (HR.out w20 (gw12.trans hg))
        clear x0 x1 x2 x3 y0 y1 y2 y3 b0 b1 b2 b3
        go_wp2_with fail
        exact Hb.out
end Go.Proofs.Ytcblmkhhhibddaa
