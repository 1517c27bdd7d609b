/-
  hornkeep.TermActs: the walk.
-/
import Derived.Test.YtmecghjnghhhkaaTA05
import Derived.Test.YtmecghjnghhhkaaUO28
import Derived.Test.YtmecghjnghhhkaaUO12
import Derived.Test.YtmecghjnghhhkaaTA06
import Derived.Test.YtmecghjnghhhkaaUO26
namespace Go.Proofs.Ytmecghjnghhhkaa
open Go.RowKit Go.Maps Go.Lib

set_option maxHeartbeats 4000000 in
set_option maxRecDepth 100000 in
theorem termActs_walk (t : Tm) (xs xu xv : Bds) (w : World) (ht : t.In w) (hs : xs.In w) (hu : xu.In w) (hv : xv.In w) :
    Calls Try.prog 9 #[t.val, xs.val, xu.val, xv.val] w (Ret (.bool true) w) := by
  obtain ⟨p, c, s⟩ := xs
  obtain ⟨q, d, u⟩ := xu
  obtain ⟨r, m, v⟩ := xv
  simp only [Bds.val]
  have HI := Lib.hid ht
  have HS := Lib.hid hs
  have HU := Lib.hid hu
  have HV := Lib.hid hv
  clear ht hs hu hv
  have HQ0 : Hid (∀ w', Gr w w' → Ret (.bool true) w (.returned (.bool true)) w') := fun w' g => ⟨rfl, g⟩
  generalize Ret (.bool true) w = Q at HQ0 ⊢
  have HQ := HQ0
  clear HQ0
  have Hfo := Lib.hid (fun (W : World) (g : Gr w W) => show Calls Try.prog 34 #[.agg #[.int .i64 t.k, .int .i64 t.n, .string t.s, .slice t.p t.l.length t.c]] W (Ret (.bool t.erase.formed) W) from rformed_calls (t := t) (Tm.In_below g HI.out))
  have Hbs := Lib.hid (fun (W : World) (g : Gr w W) => rbindsF_calls p c s W (HS.out.mono g))
  have Hbu := Lib.hid (fun (W : World) (g : Gr w W) => rbindsF_calls q d u W (HU.out.mono g))
  have Hbv := Lib.hid (fun (W : World) (g : Gr w W) => rbindsF_calls r m v W (HV.out.mono g))
  obtain ⟨ff, hff⟩ : ∃ a, t.erase.formed = a := ⟨_, rfl⟩
  obtain ⟨es, hes⟩ : ∃ a, bindsErr s = a := ⟨_, rfl⟩
  obtain ⟨eu, heu⟩ : ∃ a, bindsErr u = a := ⟨_, rfl⟩
  obtain ⟨ev, hev⟩ : ∃ a, bindsErr v = a := ⟨_, rfl⟩
  rw [hff] at Hfo
  rw [hes] at Hbs
  rw [heu] at Hbu
  rw [hev] at Hbv
  have Hff := Lib.hid hff
  have Hes := Lib.hid hes
  have Heu := Lib.hid heu
  have Hev := Lib.hid hev
  clear hff hes heu hev
  rw [show t.val = .agg #[.int .i64 t.k, .int .i64 t.n, .string t.s, .slice t.p t.l.length t.c] from rfl]
  go_enter Try.func9, Try.ntmps9
  try simp only [List.append_eq, List.cons_append, List.nil_append]
  go_upto_region 1 with fail
  have hT := Blk4.new w (.int .i64 t.k) (.int .i64 t.n) (.string t.s) (.slice t.p t.l.length t.c)
  have gA : Gr w (w.alloc (.cells #[.int .i64 t.k, .int .i64 t.n, .string t.s, .slice t.p t.l.length t.c] 27)) := by go_grown
  generalize w.alloc (.cells #[.int .i64 t.k, .int .i64 t.n, .string t.s, .slice t.p t.l.length t.c] 27) = wA at *
  obtain ⟨⟨t0, t1, t2, t3⟩, _, hTs⟩ := hT.parts
  have HT := Lib.hid hT
  clear hT
  cases ff with
  | false =>
    go_wp2_with fail
    refine (Hfo.out _ gA).mono ?_
    rintro e w1 ⟨rfl, g1⟩
    have Hb := Lib.hid (HQ.out w1 (gA.trans g1))
    clear t0 t1 t2 t3
    go_wp2_with fail
    exact Hb.out
  | true =>
  go_wp2_with fail
  refine (Hfo.out _ gA).mono ?_
  rintro e w1 ⟨rfl, g1⟩
  have gA1 : Gr wA w1 := g1
  clear t0 t1 t2 t3 g1
  go_wp2_with fail
  refine (Hbs.out w1 (gA.trans gA1)).mono ?_
  rintro e w2 ⟨rfl, g2⟩
  have gA2 : Gr wA w2 := gA1.trans g2
  clear g2
  by_cases h0 : ¬ es = 0
  · have Hb := Lib.hid (HQ.out w2 (gA.trans gA2))
    go_wp2_with fail
    exact Hb.out
  obtain rfl : es = 0 := Decidable.not_not.1 h0
  clear h0
  go_wp2_with fail
  refine (Hbu.out w2 (gA.trans gA2)).mono ?_
  rintro e w3 ⟨rfl, g3⟩
  have gA3 : Gr wA w3 := gA2.trans g3
  clear g3
  by_cases h0 : ¬ eu = 0
  · have Hb := Lib.hid (HQ.out w3 (gA.trans gA3))
    go_wp2_with fail
    exact Hb.out
  obtain rfl : eu = 0 := Decidable.not_not.1 h0
  clear h0
  go_wp2_with fail
  refine (Hbv.out w3 (gA.trans gA3)).mono ?_
  rintro e w4 ⟨rfl, g4⟩
  have gA4 : Gr wA w4 := gA3.trans g4
  clear g4
  by_cases h0 : ¬ ev = 0
  · have Hb := Lib.hid (HQ.out w4 (gA.trans gA4))
    go_wp2_with fail
    exact Hb.out
  obtain rfl : ev = 0 := Decidable.not_not.1 h0
  clear h0
  have hap : ∀ (x : Tm) (p' : Option Addr) (c' : Nat) (l' : List Bd) (W : World), x.In W → (Bds.mk p' c' l').In W → Calls Try.prog 40 #[.agg #[.int .i64 x.k, .int .i64 x.n, .string x.s, .slice x.p x.l.length x.c], .slice p' l'.length c'] W (RetAp x.erase l' W) := fun x p' c' l' W h1 h2 => apply_calls x p' c' l' W h1 h2
  have Hap := Lib.hid hap
  have hsm : ∀ (x y : Tm) (W : World), x.In W → y.In W → Calls Try.prog 32 #[.agg #[.int .i64 x.k, .int .i64 x.n, .string x.s, .slice x.p x.l.length x.c], .agg #[.int .i64 y.k, .int .i64 y.n, .string y.s, .slice y.p y.l.length y.c]] W (Ret (.bool (T.same x.erase y.erase)) W) := fun x y W h1 h2 => same_calls h1 h2
  have Hsm := Lib.hid hsm
  have hmt : ∀ (x y : Tm) (W : World), x.In W → y.In W → Calls Try.prog 36 #[.agg #[.int .i64 x.k, .int .i64 x.n, .string x.s, .slice x.p x.l.length x.c], .agg #[.int .i64 y.k, .int .i64 y.n, .string y.s, .slice y.p y.l.length y.c]] W (RetMatch W.heap.size x.erase y.erase W) := fun x y W h1 h2 => tmatch_calls x y W h1 h2
  have Hmt := Lib.hid hmt
  have hok : ∀ (l : List Bd) (x : T), x.formed = true → bindsErr l = 0 → applyErr x l = 0 := fun l x h1 h2 => by rw [applyErr, if_pos h1, h2]
  have Hok := Lib.hid hok
  have hce : ∀ (a b : List Bd), bindsErr a = 0 → bindsErr b = 0 → compErr a b = 0 := fun a b h1 h2 => by rw [compErr, h1, h2]; rfl
  have Hce := Lib.hid hce
  clear hap hsm hmt hok hce Hfo Hbs Hbu Hbv
  obtain ⟨⟨t0, t1, t2, t3⟩, _, _⟩ := (HT.out.gr gA4).parts
  have gw4 : Gr w w4 := gA.trans gA4
  go_wp2_with fail
  refine (Hap.out t p c s w4 (Tm.In_below gw4 HI.out) (HS.out.mono gw4)).mono ?_
  rintro e w5 ⟨x1, rfl, xin1, xe1, g5, -⟩
  rw [Hok.out _ _ Hff.out Hes.out] at xe1 ⊢
  rw [if_pos rfl] at xe1
  rw [show x1.val = .agg #[.int .i64 x1.k, .int .i64 x1.n, .string x1.s, .slice x1.p x1.l.length x1.c] from rfl]
  have gA5 : Gr wA w5 := gA4.trans g5
  have hAs : wA.heap.size ≤ w5.heap.size := gA5.size
  clear t0 t1 t2 t3 g5
  go_upto_region 4 with fail
  have hX := Blk4.new w5 (.int .i64 x1.k) (.int .i64 x1.n) (.string x1.s) (.slice x1.p x1.l.length x1.c)
  have gX : Gr w5 (w5.alloc (.cells #[.int .i64 x1.k, .int .i64 x1.n, .string x1.s, .slice x1.p x1.l.length x1.c] 27)) := by go_grown
  have hXs := hX.parts.2.2
  generalize w5.alloc (.cells #[.int .i64 x1.k, .int .i64 x1.n, .string x1.s, .slice x1.p x1.l.length x1.c] 27) = w6 at *
  have gA6 : Gr wA w6 := gA5.trans gX
  have gw6 : Gr w w6 := gA.trans gA6
  have hf1 : x1.erase.formed = true := by rw [xe1]; exact map_lookup_formed Hes.out Hff.out
  have Hxe1 := Lib.hid xe1
  have Hf1 := Lib.hid hf1
  have HX := Lib.hid hX
  have hxin1 := Tm.In_below gX xin1
  obtain ⟨⟨x0, y1, y2, y3⟩, _, _⟩ := hX.parts
  clear xe1 hf1 hX xin1
  go_wp2_with fail
  refine (Hap.out x1 q d u w6 hxin1 (HU.out.mono gw6)).mono ?_
  rintro e w7 ⟨x2, rfl, xin2, xe2, g7, on2⟩
  rw [Hok.out _ _ Hf1.out Heu.out] at xe2 ⊢
  rw [if_pos rfl, Hxe1.out] at xe2
  rw [show x2.val = .agg #[.int .i64 x2.k, .int .i64 x2.n, .string x2.s, .slice x2.p x2.l.length x2.c] from rfl]
  have k7 := HX.out.gr g7
  have gA7 : Gr wA w7 := gA6.trans g7
  have Hxe2 := Lib.hid xe2
  clear x0 y1 y2 y3 xe2 hxin1
  obtain ⟨_, ⟨z0, z1, z2, z3⟩, _⟩ := k7.parts
  go_upto_region 5 with fail
  have k8 := Blk4.sets k7 (.int .i64 x2.k) (.int .i64 x2.n) (.string x2.s) (.slice x2.p x2.l.length x2.c)
  have kk := Kp.sets (C := (· = w5.heap.size)) (w := w7) (b := w5.heap.size) rfl (.int .i64 x2.k) (.int .i64 x2.n) (.string x2.s) (.slice x2.p x2.l.length x2.c)
  generalize ((((w7.setCell ⟨w5.heap.size, 0, none⟩ (.int .i64 x2.k)).setCell ⟨w5.heap.size, 1, none⟩ (.int .i64 x2.n)).setCell ⟨w5.heap.size, 2, none⟩ (.string x2.s)).setCell ⟨w5.heap.size, 3, none⟩ (.slice x2.p x2.l.length x2.c)) = w8 at *
  have gA8 : Gr wA w8 := Below.trans gA7 (kk.below (fun b hb => by omega) gA7.size)
  have hin2 : x2.In w8 := kp_in xin2 on2 (fun b hb e => by omega) kk
  have gw8 : Gr w w8 := gA.trans gA8
  have Hin2 := Lib.hid hin2
  have K8 := Lib.hid k8
  have Hco := Lib.hid (compose_calls p q c d s u w8 (HS.out.mono gw8) (HU.out.mono gw8))
  clear z0 z1 z2 z3 k7 k8 kk on2 xin2 hin2

  go_wp2_with fail
  refine Hco.out.mono ?_
  rintro e w9 ⟨p1, c1, su, rfl, sin, g9, -, hsu⟩
  rw [Hce.out _ _ Hes.out Heu.out]
  have Hsu := Lib.hid (hsu (Hce.out _ _ Hes.out Heu.out))
  have Esu := Lib.hid (comp_list Hes.out Heu.out Hsu.out).err
  have Sin := Lib.hid sin
  have gA9 : Gr wA w9 := gA8.trans g9
  have gw9 : Gr w w9 := gA.trans gA9
  have K9 := Lib.hid (K8.out.gr g9)
  have In29 := Lib.hid (Tm.In_below g9 Hin2.out)
  clear hsu sin g9 Hco K8 Hin2
  obtain ⟨⟨t0, t1, t2, t3⟩, _, _⟩ := (HT.out.gr gA9).parts
  go_wp2_with fail
  refine (Hap.out t p1 c1 su w9 (Tm.In_below gw9 HI.out) Sin.out).mono ?_
  rintro e w10 ⟨y, rfl, yin, ye, g10, -⟩
  rw [Hok.out _ _ Hff.out Esu.out] at ye ⊢
  rw [if_pos rfl] at ye
  rw [show y.val = .agg #[.int .i64 y.k, .int .i64 y.n, .string y.s, .slice y.p y.l.length y.c] from rfl]
  have gA10 : Gr wA w10 := gA9.trans g10
  have K10 := Lib.hid (K9.out.gr g10)
  have In210 := Lib.hid (Tm.In_below g10 In29.out)
  have Sin10 := Lib.hid (Sin.out.mono g10)
  clear t0 t1 t2 t3 g10 K9 In29 Sin
  go_upto_region 7 with fail
  have hY := Blk4.new w10 (.int .i64 y.k) (.int .i64 y.n) (.string y.s) (.slice y.p y.l.length y.c)
  have gY : Gr w10 (w10.alloc (.cells #[.int .i64 y.k, .int .i64 y.n, .string y.s, .slice y.p y.l.length y.c] 27)) := by go_grown
  have hYs := hY.parts.2.2
  generalize w10.alloc (.cells #[.int .i64 y.k, .int .i64 y.n, .string y.s, .slice y.p y.l.length y.c] 27) = w11 at *
  have gA11 : Gr wA w11 := gA10.trans gY
  have gw11 : Gr w w11 := gA.trans gA11
  have hye : y.erase = x2.erase := by rw [ye, Hxe2.out, comp_apply Hes.out Heu.out Hsu.out]
  have Hye := Lib.hid hye
  have Hyt := Lib.hid ye
  have HY := Lib.hid hY
  have Yin := Lib.hid (Tm.In_below gY yin)
  have K11 := Lib.hid (K10.out.gr gY)
  have Sin11 := Lib.hid (Sin10.out.mono gY)
  have hsm := Hsm.out x2 y w11 (Tm.In_below gY In210.out) Yin.out
  rw [Hye.out, T.same_self] at hsm
  have Hs1 := Lib.hid hsm
  obtain ⟨⟨a0, a1, a2, a3⟩, _, _⟩ := K11.out.parts
  obtain ⟨⟨b0, b1, b2, b3⟩, _, _⟩ := hY.parts
  clear hye ye hY yin hsm K10 In210 Sin10
  go_wp2_with fail
  refine Hs1.out.mono ?_
  rintro e w12 ⟨rfl, g12⟩
  have g1112 : Gr w11 w12 := g12
  have gA12 : Gr wA w12 := gA11.trans g1112
  have gw12 : Gr w w12 := gA.trans gA12
  have Hc1 := Lib.hid (compose_calls p1 r c1 m su v w12 (Sin11.out.mono g1112) (HV.out.mono gw12))
  clear a0 a1 a2 a3 b0 b1 b2 b3 g12 K11 Hs1
  go_wp2_with fail
  refine Hc1.out.mono ?_
  rintro e w13 ⟨p2, c2, la, rfl, ain, g13, -, hla⟩
  have Hla := Lib.hid (hla (Hce.out _ _ Esu.out Hev.out))
  have g1113 : Gr w11 w13 := g1112.trans g13
  have gw13 : Gr w w13 := gw11.trans g1113
  have Ain := Lib.hid ain
  have Hc2 := Lib.hid (compose_calls q r d m u v w13 (HU.out.mono gw13) (HV.out.mono gw13))
  clear hla ain g13 Hc1
  go_wp2_with fail
  refine Hc2.out.mono ?_
  rintro e w14 ⟨p3, c3, uv, rfl, uvin, g14, -, huv⟩
  have Huv := Lib.hid (huv (Hce.out _ _ Heu.out Hev.out))
  have Euv := Lib.hid (comp_list Heu.out Hev.out Huv.out).err
  have g1114 : Gr w11 w14 := g1113.trans g14
  have gw14 : Gr w w14 := gw11.trans g1114
  have Ain14 := Lib.hid (Ain.out.mono g14)
  have Hc3 := Lib.hid (compose_calls p p3 c c3 s uv w14 (HS.out.mono gw14) uvin)
  clear huv uvin g14 Hc2 Ain
  go_wp2_with fail
  refine Hc3.out.mono ?_
  rintro e w15 ⟨p4, c4, lb, rfl, bin, g15, -, hlb⟩
  have hlb' := hlb (Hce.out _ _ Hes.out Euv.out)
  have g1115 : Gr w11 w15 := g1114.trans g15
  have gw15 : Gr w w15 := gw11.trans g1115
  have Hsb := Lib.hid (sameBinds_calls p2 p4 c2 c4 la lb w15 (Ain14.out.mono g15) bin (comp_assoc Hes.out Heu.out Hev.out Hsu.out Huv.out Hla.out hlb'))
  clear hlb hlb' bin g15 Hc3 Ain14
  go_wp2_with fail
  refine Hsb.out.mono ?_
  rintro e w16 ⟨rfl, g16⟩
  have g1116 : Gr w11 w16 := g1115.trans g16
  have gA16 : Gr wA w16 := gA11.trans g1116
  have gw16 : Gr w w16 := gw11.trans g1116
  clear g16 Hsb
  obtain ⟨⟨t0, t1, t2, t3⟩, _, _⟩ := (HT.out.gr gA16).parts
  obtain ⟨⟨b0, b1, b2, b3⟩, _, _⟩ := (HY.out.gr g1116).parts
  have hyf : y.erase.formed = true := by rw [Hyt.out]; exact map_lookup_formed Esu.out Hff.out
  have Hyf := Lib.hid hyf
  clear hyf
  go_wp2_with fail
  refine (Hmt.out t y w16 (Tm.In_below gw16 HI.out) (Tm.In_below g1116 Yin.out)).mono ?_
  rintro e w17 h17
  obtain ⟨p5, c5, lm, z, rfl, min, em, me, g17⟩ := h17.acts Hff.out Hyf.out Hyt.out.symm
  have g1117 : Gr w11 w17 := g1116.trans g17
  have gA17 : Gr wA w17 := gA11.trans g1117
  have gw17 : Gr w w17 := gw11.trans g1117
  have Em := Lib.hid em
  have Me := Lib.hid me
  have Min := Lib.hid min
  clear t0 t1 t2 t3 b0 b1 b2 b3 h17 em me min g17
  obtain ⟨⟨t0, t1, t2, t3⟩, _, _⟩ := (HT.out.gr gA17).parts
  go_wp2_with fail
  refine (Hap.out t p5 c5 lm w17 (Tm.In_below gw17 HI.out) Min.out).mono ?_
  rintro e w18 ⟨zt, rfl, zin, ze, g18, -⟩
  rw [Hok.out _ _ Hff.out Em.out] at ze ⊢
  rw [if_pos rfl, Me.out] at ze
  rw [show zt.val = .agg #[.int .i64 zt.k, .int .i64 zt.n, .string zt.s, .slice zt.p zt.l.length zt.c] from rfl]
  have g1118 : Gr w11 w18 := g1117.trans g18
  clear t0 t1 t2 t3 g18
  go_upto_region 16 with fail
  have hZ := Blk4.new w18 (.int .i64 zt.k) (.int .i64 zt.n) (.string zt.s) (.slice zt.p zt.l.length zt.c)
  have gZ : Gr w18 (w18.alloc (.cells #[.int .i64 zt.k, .int .i64 zt.n, .string zt.s, .slice zt.p zt.l.length zt.c] 27)) := by go_grown
  generalize w18.alloc (.cells #[.int .i64 zt.k, .int .i64 zt.n, .string zt.s, .slice zt.p zt.l.length zt.c] 27) = w19 at *
  have g1119 : Gr w11 w19 := g1118.trans gZ
  have hsm := Hsm.out zt y w19 (Tm.In_below gZ zin) (Tm.In_below g1119 Yin.out)
  rw [ze, T.same_self] at hsm
  have Hs2 := Lib.hid hsm
  obtain ⟨⟨a0, a1, a2, a3⟩, _, _⟩ := hZ.parts
  obtain ⟨⟨b0, b1, b2, b3⟩, _, _⟩ := (HY.out.gr g1119).parts
  clear hsm ze zin hZ
  go_wp2_with fail
  refine Hs2.out.mono ?_
  rintro e w20 ⟨rfl, g20⟩
  have Hb := Lib.hid (HQ.out w20 (gw11.trans (g1119.trans g20)))
  clear a0 a1 a2 a3 b0 b1 b2 b3
  go_wp2_with fail
  exact Hb.out
end Go.Proofs.Ytmecghjnghhhkaa
