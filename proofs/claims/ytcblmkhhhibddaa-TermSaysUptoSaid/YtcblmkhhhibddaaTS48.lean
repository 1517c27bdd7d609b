/-
  hornref.Less, hornref.Compare: the order of terms.
-/
import Derived.Test.YtcblmkhhhibddaaTS08
import Derived.Test.YtcblmkhhhibddaaTS24
namespace Go.Proofs.Ytcblmkhhhibddaa
open Go.RowKit Go.Maps Go.Lib

def lessOf (a : Tm) : Prop := ∀ (b : Tm) (w : World), a.In w → b.In w → a.erase.formed = true → b.erase.formed = true → Calls Try.prog 155 #[a.val, b.val] w (Ret (.bool (decide (T.order a.erase b.erase < 0))) w)
theorem cmpI_ltd (a b : Int) : decide (cmpI a b < 0) = decide (a < b) := by
  rw [decide_eq_decide, cmpI]
  split
  · simp_all
  · split <;> omega

theorem bytesLess_cb : ∀ a b : List UInt8, Op.bytesLess a b = decide (Lib.compareBytes a b < 0)
  | [], [] => rfl
  | [], _ :: _ => rfl
  | _ :: _, [] => rfl
  | x :: xs, y :: ys => by
    rw [Op.bytesLess, Lib.compareBytes, bytesLess_cb xs ys]
    by_cases h1 : x < y
    · simp [h1]
    · by_cases h2 : y < x
      · have h3 : (x == y) = false := by
          simp only [beq_eq_false_iff_ne]
          rintro rfl
          exact h1 h2
        simp [h1, h2, h3]
      · have h3 : x = y := by
          have h4 := UInt8.not_lt.1 h1
          have h5 := UInt8.not_lt.1 h2
          exact UInt8.le_antisymm h5 h4
        subst h3
        simp [h1]
theorem orderL_step (l l' : List Tm) (k : Nat) (h : k < l.length) (h' : k < l'.length) : T.orderL (Tm.eraseL (l.drop k)) (Tm.eraseL (l'.drop k)) = if T.order l[k].erase l'[k].erase = 0 then T.orderL (Tm.eraseL (l.drop (k + 1))) (Tm.eraseL (l'.drop (k + 1))) else T.order l[k].erase l'[k].erase := by
  rw [List.drop_eq_getElem_cons h, List.drop_eq_getElem_cons h', Tm.eraseL, Tm.eraseL, T.orderL]
theorem less_ord {ak an bn : Int} {sa sb : ByteArray} {pa pb : Option Addr} {ca cb : Nat} {la lb : List Tm} {r : Int} (h12 : ¬ (ak = 1 ∨ ak = 2)) (fa : (Tm.mk ak an sa pa ca la).erase.formed = true) (fb : (Tm.mk ak bn sb pb cb lb).erase.formed = true)
    (hr : r = if ak = ak then (if ak = 3 then Lib.compareBytes sa.toList sb.toList else if ak = 4 then
        (if (if cmpI la.length lb.length = 0 then Lib.compareBytes sa.toList sb.toList else cmpI la.length lb.length) = 0 then T.orderL (Tm.eraseL la) (Tm.eraseL lb)
         else (if cmpI la.length lb.length = 0 then Lib.compareBytes sa.toList sb.toList else cmpI la.length lb.length)) else cmpI an bn) else cmpI ak ak) :
    (la.length ≠ lb.length → r = cmpI la.length lb.length) ∧ (la.length = lb.length → sa.toList ≠ sb.toList → r = Lib.compareBytes sa.toList sb.toList) ∧ (la.length = lb.length → sa.toList = sb.toList → r = T.orderL (Tm.eraseL la) (Tm.eraseL lb)) := by
  rw [if_pos rfl] at hr
  have hz : ∀ x y : Nat, cmpI x y = 0 ↔ x = y := fun x y => by rw [cmpI_zero]; omega
  have hcb : ∀ a : List UInt8, Lib.compareBytes a a = 0 := fun a => (cb_zero a a).2 rfl
  rw [Tm.erase] at fa fb
  rcases formed_args fa with ⟨h4, _⟩ | ⟨h4, ha⟩
  · subst h4
    rw [if_neg (by decide), if_pos rfl] at hr
    refine ⟨fun h => ?_, fun h h' => ?_, fun h h' => ?_⟩
    · have : ¬ cmpI la.length lb.length = 0 := fun e => h ((hz _ _).1 e)
      rw [if_neg this, if_neg this] at hr
      exact hr
    · rw [if_pos ((hz _ _).2 h), if_neg (fun e => h' ((cb_zero _ _).1 e))] at hr
      exact hr
    · rw [if_pos ((hz _ _).2 h), h', if_pos (hcb _)] at hr
      exact hr
  · rcases formed_args fb with ⟨h, _⟩ | ⟨_, hb⟩
    · exact absurd h h4
    · have h3 : ak = 3 := by
        rw [T.formed] at fa
        by_cases h3 : ak = 3
        · exact h3
        · rw [if_neg (by omega), if_neg (by omega), if_neg h3, if_neg h4] at fa
          cases fa
      have e1 : la.length = 0 := by have := congrArg List.length ha; rwa [Tm.eraseL_length] at this
      have e2 : lb.length = 0 := by have := congrArg List.length hb; rwa [Tm.eraseL_length] at this
      rw [if_pos h3] at hr
      refine ⟨fun h => absurd (by omega) h, fun _ _ => hr, fun _ h' => ?_⟩
      rw [hr, h', hcb, ha, hb, T.orderL]

set_option maxHeartbeats 4000000 in
set_option maxRecDepth 100000 in
theorem less_step (ak an : Int) (sa : ByteArray) (pa : Option Addr) (ca : Nat) (la : List Tm) (ih : ∀ x ∈ la, lessOf x) : lessOf (.mk ak an sa pa ca la) := by
  intro b w ia ib fa fb
  obtain ⟨bk, bn, sb, pb, cb, lb⟩ := b
  have Ia := Lib.hid ia
  have Ib := Lib.hid ib
  have Fa := Lib.hid fa
  have Fb := Lib.hid fb
  have Hih := Lib.hid ih
  have hord : T.order (Tm.mk ak an sa pa ca la).erase (Tm.mk bk bn sb pb cb lb).erase = if ak = bk then (if ak = 3 then Lib.compareBytes sa.toList sb.toList else if ak = 4 then
        (if (if cmpI (Tm.eraseL la).length (Tm.eraseL lb).length = 0 then Lib.compareBytes sa.toList sb.toList else cmpI (Tm.eraseL la).length (Tm.eraseL lb).length) = 0 then T.orderL (Tm.eraseL la) (Tm.eraseL lb)
         else (if cmpI (Tm.eraseL la).length (Tm.eraseL lb).length = 0 then Lib.compareBytes sa.toList sb.toList else cmpI (Tm.eraseL la).length (Tm.eraseL lb).length)) else cmpI an bn) else cmpI ak bk := by
    rw [Tm.erase, Tm.erase, T.order]
  rw [Tm.eraseL_length, Tm.eraseL_length] at hord
  have hR : Hid (∀ (x : Bool) w', x = decide (T.order (Tm.mk ak an sa pa ca la).erase (Tm.mk bk bn sb pb cb lb).erase < 0) → Gr w w' → Ret (.bool (decide (T.order (Tm.mk ak an sa pa ca la).erase (Tm.mk bk bn sb pb cb lb).erase < 0))) w (.returned (.bool x)) w') := fun x w' h1 h2 => ⟨by rw [h1], h2⟩
  generalize hr : T.order (Tm.mk ak an sa pa ca la).erase (Tm.mk bk bn sb pb cb lb).erase = r at *
  have Hord := Lib.hid hord
  generalize Ret (.bool (decide (r < 0))) w = Q at hR ⊢
  clear ia ib fa fb ih hr hord
  simp only [Tm.val, Tm.k, Tm.n, Tm.s, Tm.p, Tm.c, Tm.l]
  go_enter Try.func155, Try.ntmps155
  try simp only [List.append_eq, List.cons_append, List.nil_append]
  go_upto_region 1 with fail
  obtain ⟨h3, h4, gA⟩ := two_blocks w (.int .i64 ak) (.int .i64 an) (.string sa) (.slice pa la.length ca) (.int .i64 bk) (.int .i64 bn) (.string sb) (.slice pb lb.length cb)
  have sA : ((w.alloc (.cells #[.int .i64 ak, .int .i64 an, .string sa, .slice pa la.length ca] 25)).alloc (.cells #[.int .i64 bk, .int .i64 bn, .string sb, .slice pb lb.length cb] 25)).heap.size = w.heap.size + 2 := by simp
  generalize ((w.alloc (.cells #[.int .i64 ak, .int .i64 an, .string sa, .slice pa la.length ca] 25)).alloc (.cells #[.int .i64 bk, .int .i64 bn, .string sb, .slice pb lb.length cb] 25)) = wA at *
  obtain ⟨⟨x0, x1, x2, x3⟩, _, _⟩ := h3.out.parts
  obtain ⟨⟨y0, y1, y2, y3⟩, _, _⟩ := h4.out.parts
  by_cases hk : ak = bk
  · subst hk
    by_cases h12 : ak = 1 ∨ ak = 2
    · have Hb := Lib.hid (hR.out (decide (an < bn)) wA (by rw [Hord.out, if_pos rfl, if_neg (by omega), if_neg (by omega), cmpI_ltd]) gA)
      have hkk : (ak != ak) = false := by simp
      rcases h12 with rfl | rfl
      · go_wp2_with fail
        exact Hb.out
      · go_wp2_with fail
        exact Hb.out
    · have hkk : (ak != ak) = false := by simp
      have hk1 : (ak == 1) = false := by simp; omega
      have hk2 : (ak == 2) = false := by simp; omega
      obtain ⟨q1, q2, q3⟩ := less_ord h12 Fa.out Fb.out Hord.out
      by_cases hll : la.length = lb.length
      · have E4 := Lib.hid hll.symm
        have hle : ((la.length : Int) != lb.length) = false := by simp [hll]
        by_cases hs : sa.toList = sb.toList
        · have hse2 : (sa.toList == sb.toList) = true := by simp [hs]
          have Hr := Lib.hid (q3 hll hs)
          clear q1 q2 q3 h12 hll hs
          have hip := Ia.out
          have hit := Ib.out
          rw [Tm.In] at hip hit
          have hlc := hip.2.2.2.1
          obtain ⟨hlc2, hlc3⟩ := hip.2.2.2.2.1
          have Hfa := Lib.hid (formed_args' Fa.out)
          have Hfb := Lib.hid (formed_args' Fb.out)
          go_upto_region 9 with fail
          clear x0 x1 x2 x3 y0 y1 y2 y3 hip hit hle hse2
          go_wp2_with fail
          go_loopg [5] la.length (fun m i wr => ∃ k : Nat, k ≤ la.length ∧ m = la.length - k ∧ i = .int .i64 k ∧ Hid (T.orderL (Tm.eraseL (la.drop k)) (Tm.eraseL (lb.drop k)) = r) ∧ Gr wA wr)
          case atStart => exact ⟨0, Nat.zero_le _, rfl, rfl, Hr.out.symm, Gr.rfl' _⟩
          case round =>
            obtain ⟨k, hk, rfl, rfl, hrr, gr⟩ := hrel
            obtain ⟨⟨x0, x1, x2, x3⟩, _, _⟩ := (h3.out.gr gr).parts
            obtain ⟨⟨y0, y1, y2, y3⟩, _, _⟩ := (h4.out.gr gr).parts
            rw [E4.out] at y3
            have gwr : Gr w wr := gA.trans gr
            by_cases hlt : k < la.length
            · have hlt' : k < lb.length := by have := E4.out; omega
              obtain ⟨b, o, rfl⟩ := Ia.out.sl.ptr (by omega)
              obtain ⟨b', o', rfl⟩ := Ib.out.sl.ptr (by omega)
              obtain ⟨⟨c0, c1, c2, c3⟩, hxa, _⟩ := (Ia.out.sl.mono gwr).elem k hlt
              obtain ⟨⟨d0, d1, d2, d3⟩, hxb, _⟩ := (Ib.out.sl.mono gwr).elem k hlt'
              have Fxa := Lib.hid (formedL_nth la k hlt (by have := Hfa.out; rw [Tm.erase] at this; exact this))
              have Fxb := Lib.hid (formedL_nth lb k hlt' (by have := Hfb.out; rw [Tm.erase] at this; exact this))
              have Hst := Lib.hid (orderL_step la lb k hlt hlt')
              have Hih2 := Lib.hid (fun (w' : World) (g : Gr wr w') => Hih.out _ (List.getElem_mem hlt) lb[k] w' (Tm.In_below g hxa) (Tm.In_below g hxb) Fxa.out Fxb.out)
              have Hsa := Lib.hid (fun (w' : World) (g : Gr wr w') => same_calls (w := w') (Tm.In_below g hxa) (Tm.In_below g hxb))
              clear hxa hxb
              generalize la[k] = x at *
              generalize lb[k] = y at *
              rw [show x.val = .agg #[.int .i64 x.k, .int .i64 x.n, .string x.s, .slice x.p x.l.length x.c] from rfl, show y.val = .agg #[.int .i64 y.k, .int .i64 y.n, .string y.s, .slice y.p y.l.length y.c] from rfl] at Hih2 Hsa
              go_upto_region 12 with fail
              refine wp_region_rely_tail 10 [fx (.pointer (some ⟨w.heap.size, 3, none⟩)), fx (.slice (some ⟨b, o, none⟩) la.length ca), fx (.int .i64 k), fx (.pointer (some ⟨b, o + k * 4, none⟩)), fx (.agg #[.int .i64 x.k, .int .i64 x.n, .string x.s, .slice x.p x.l.length x.c]), fx (.pointer (some ⟨w.heap.size + 1, 3, none⟩)), fx (.slice (some ⟨b', o', none⟩) la.length cb), fx (.int .i64 k), fx (.pointer (some ⟨b', o' + k * 4, none⟩)), fx (.agg #[.int .i64 y.k, .int .i64 y.n, .string y.s, .slice y.p y.l.length y.c])]
                (by kernel_rfl) (by kernel_rfl) (by decide) (by repeat (first | exact Stable.nil | refine Stable.fix ?_)) ?_ ?_
              · refine ⟨?_, ?_, ?_, ?_, ?_, ?_, ?_, ?_, ?_, ?_, trivial⟩
                all_goals
                  intro a wz hg hold
                  have hp : a.tmps[2]?.getD undef = .pointer (some ⟨w.heap.size, 0, none⟩) := hold 2 rfl
                  have hq : a.tmps[3]?.getD undef = .pointer (some ⟨w.heap.size + 1, 0, none⟩) := hold 3 rfl
                  have hi : a.tmps[5]?.getD undef = .int .i64 k := hold 5 rfl
                  have zc0 := Gr.at hg c0
                  have zc1 := Gr.at hg c1
                  have zc2 := Gr.at hg c2
                  have zc3 := Gr.at hg c3
                  have zd0 := Gr.at hg d0
                  have zd1 := Gr.at hg d1
                  have zd2 := Gr.at hg d2
                  have zd3 := Gr.at hg d3
                  have zx3 := Gr.at hg x3
                  have zy3 := Gr.at hg y3
                  clear hold c0 c1 c2 c3 d0 d1 d2 d3 x3 y3
                  simp [predsImp, Region.binds, dstAt, fx]
                  intros
                  first
                    | (rw [if_pos (by simp [*])]
                       intro K hK)
                    | (rename_i K hK)
                  go_simp
                all_goals exact hK _ _ rfl (Gr.rfl' _)
              · intro w9 hg
                rintro _ rfl _ rfl _ rfl _ rfl _ rfl _ rfl _ rfl _ rfl _ rfl _ rfl
                simp only [finAll, Act.put, List.setIfInBounds_toArray, List.set_cons_succ, List.set_cons_zero, List.drop_succ_cons, List.drop_zero, List.take_zero]
                have Hsa2 := Lib.hid (Hsa.out w9 hg)
                obtain ⟨⟨xa, xb, xc, x5⟩, _, _⟩ := (h3.out.gr (gr.trans hg)).parts
                obtain ⟨⟨ya, yb, yc, y5⟩, _, _⟩ := (h4.out.gr (gr.trans hg)).parts
                rw [E4.out] at y5
                have e0 := Gr.at hg c0
                have e1 := Gr.at hg c1
                have e2 := Gr.at hg c2
                have e3 := Gr.at hg c3
                have f0 := Gr.at hg d0
                have f1 := Gr.at hg d1
                have f2 := Gr.at hg d2
                have f3 := Gr.at hg d3
                clear x0 x1 x2 x3 y0 y1 y2 y3 c0 c1 c2 c3 d0 d1 d2 d3
                have g9 : Gr wA w9 := gr.trans hg
                go_wp2_with fail
                refine Hsa2.out.mono ?_
                rintro e w5 ⟨rfl, g5⟩
                replace g5 : Gr w9 w5 := g5
                have gA5 := g9.trans g5
                by_cases hsm : T.same x.erase y.erase = true
                · have hz : T.order x.erase y.erase = 0 := (order_zero _ _ Fxa.out Fxb.out).2 ((same_iff _ _).1 hsm)
                  have Hn := Lib.hid (show T.orderL (Tm.eraseL (la.drop (k + 1))) (Tm.eraseL (lb.drop (k + 1))) = r by rw [← hrr.out, Hst.out, if_pos hz])
                  have hsm' : (!T.same x.erase y.erase) = false := by rw [hsm]; rfl
                  clear hsm hz e0 e1 e2 e3 f0 f1 f2 f3 xa xb xc x5 ya yb yc y5
                  go_wp2_with fail
                  go_roundg (la.length - (k + 1))
                  case measure => omega
                  case rel => exact ⟨k + 1, by omega, rfl, by go_num, Hn, gA5⟩
                · have hz : ¬ T.order x.erase y.erase = 0 := fun e => hsm ((same_iff _ _).2 ((order_zero _ _ Fxa.out Fxb.out).1 e))
                  have Hn := Lib.hid (show T.order x.erase y.erase = r by rw [← hrr.out, Hst.out, if_neg hz])
                  have hsm' : (!T.same x.erase y.erase) = true := by rw [Bool.eq_false_iff.2 hsm]; rfl
                  have gr5 : Gr wr w5 := hg.trans g5
                  have zx3 := Gr.at g5 x5
                  have zy3 := Gr.at g5 y5
                  have ze0 := Gr.at g5 e0
                  have ze1 := Gr.at g5 e1
                  have ze2 := Gr.at g5 e2
                  have ze3 := Gr.at g5 e3
                  have zf0 := Gr.at g5 f0
                  have zf1 := Gr.at g5 f1
                  have zf2 := Gr.at g5 f2
                  have zf3 := Gr.at g5 f3
                  clear hsm hz e0 e1 e2 e3 f0 f1 f2 f3 xa xb xc x5 ya yb yc y5
                  go_upto_region 13 with fail
                  refine wp_region_rely_tail 10 [fx (.pointer (some ⟨w.heap.size, 3, none⟩)), fx (.slice (some ⟨b, o, none⟩) la.length ca), fx (.int .i64 k), fx (.pointer (some ⟨b, o + k * 4, none⟩)), fx (.agg #[.int .i64 x.k, .int .i64 x.n, .string x.s, .slice x.p x.l.length x.c]), fx (.pointer (some ⟨w.heap.size + 1, 3, none⟩)), fx (.slice (some ⟨b', o', none⟩) la.length cb), fx (.int .i64 k), fx (.pointer (some ⟨b', o' + k * 4, none⟩)), fx (.agg #[.int .i64 y.k, .int .i64 y.n, .string y.s, .slice y.p y.l.length y.c])]
                    (by kernel_rfl) (by kernel_rfl) (by decide) (by repeat (first | exact Stable.nil | refine Stable.fix ?_)) ?_ ?_
                  · refine ⟨?_, ?_, ?_, ?_, ?_, ?_, ?_, ?_, ?_, ?_, trivial⟩
                    all_goals
                      intro a wz hg hold
                      have hp : a.tmps[2]?.getD undef = .pointer (some ⟨w.heap.size, 0, none⟩) := hold 2 rfl
                      have hq : a.tmps[3]?.getD undef = .pointer (some ⟨w.heap.size + 1, 0, none⟩) := hold 3 rfl
                      have hi : a.tmps[5]?.getD undef = .int .i64 k := hold 5 rfl
                      have zze0 := Gr.at hg ze0
                      have zze1 := Gr.at hg ze1
                      have zze2 := Gr.at hg ze2
                      have zze3 := Gr.at hg ze3
                      have zzf0 := Gr.at hg zf0
                      have zzf1 := Gr.at hg zf1
                      have zzf2 := Gr.at hg zf2
                      have zzf3 := Gr.at hg zf3
                      have zzx3 := Gr.at hg zx3
                      have zzy3 := Gr.at hg zy3
                      clear hold ze0 ze1 ze2 ze3 zf0 zf1 zf2 zf3 zx3 zy3
                      simp [predsImp, Region.binds, dstAt, fx]
                      intros
                      first
                        | (rw [if_pos (by simp [*])]
                           intro K hK)
                        | (rename_i K hK)
                      go_simp
                    all_goals exact hK _ _ rfl (Gr.rfl' _)
                  · intro w6 hg6
                    rintro _ rfl _ rfl _ rfl _ rfl _ rfl _ rfl _ rfl _ rfl _ rfl _ rfl
                    simp only [finAll, Act.put, List.setIfInBounds_toArray, List.set_cons_succ, List.set_cons_zero, List.drop_succ_cons, List.drop_zero, List.take_zero]
                    have Hl := Lib.hid (Hih2.out w6 (gr5.trans hg6))
                    have gw6 : Gr w w6 := gwr.trans (gr5.trans hg6)
                    clear ze0 ze1 ze2 ze3 zf0 zf1 zf2 zf3 zx3 zy3
                    go_wp2_with fail
                    refine Hl.out.mono ?_
                    rintro e w7 ⟨rfl, g7⟩
                    replace g7 : Gr w6 w7 := g7
                    have Hb := Lib.hid (hR.out (decide (T.order x.erase y.erase < 0)) w7 (by rw [Hn.out]) (gw6.trans g7))
                    go_wp2_with fail
                    exact Hb.out
            · obtain rfl : k = la.length := by omega
              have hz : (0 : Int) = r := by
                have h1 := hrr.out
                rw [List.drop_length, List.drop_of_length_le (by rw [E4.out]; exact Nat.le_refl _), Tm.eraseL, T.orderL] at h1
                exact h1
              have Hb := Lib.hid (hR.out false wr (by rw [← hz]; rfl) gwr)
              clear x0 x1 x2 hz
              go_wp2_with fail
              exact Hb.out
        · have hse2 : (sa.toList == sb.toList) = false := by simp [hs]
          have Hb := Lib.hid (fun (x : Bool) (h : x = decide (Lib.compareBytes sa.toList sb.toList < 0)) => hR.out x wA (by rw [q2 hll hs]; exact h) gA)
          clear q1 q2 q3 h12 hll hs
          go_wp2_with fail
          exact Hb.out _ (bytesLess_cb _ _)
      · have hle : ((la.length : Int) != lb.length) = true := by simp; omega
        have Hb := Lib.hid (hR.out (decide (la.length < lb.length)) wA (by rw [q1 hll, cmpI_ltd, decide_eq_decide]; omega) gA)
        clear q1 q2 q3 hll h12
        go_wp2_with fail
        exact Hb.out
  · have hkk : (ak != bk) = true := by simp [hk]
    have Hb := Lib.hid (hR.out (decide (ak < bk)) wA (by rw [Hord.out, if_neg hk, cmpI_ltd]) gA)
    clear hk
    go_wp2_with fail
    exact Hb.out
theorem less_any (N : Nat) : ∀ a : Tm, SizeOf.sizeOf a ≤ N → lessOf a := by
  induction N with
  | zero => intro a h; cases a; simp at h
  | succ N ih =>
    intro a hN
    obtain ⟨k, n, s, p, c, l⟩ := a
    exact less_step k n s p c l fun x hx => ih x (by have := Tm.sizeOf_mem hx k n s p c; omega)
theorem less_calls {a b : Tm} {w : World} (ia : a.In w) (ib : b.In w) (fa : a.erase.formed = true) (fb : b.erase.formed = true) : Calls Try.prog 155 #[a.val, b.val] w (Ret (.bool (decide (T.order a.erase b.erase < 0))) w) := less_any _ a (Nat.le_refl _) b w ia ib fa fb

set_option maxHeartbeats 1000000 in
set_option maxRecDepth 100000 in
theorem rcompare_calls {a b : Tm} {w : World} (ia : a.In w) (ib : b.In w) (fa : a.erase.formed = true) (fb : b.erase.formed = true) : Calls Try.prog 104 #[a.val, b.val] w (Ret (.int .i64 (T.order a.erase b.erase)) w) := by
  have hR : Hid (∀ (x : Int) w', x = T.order a.erase b.erase → Gr w w' → Ret (.int .i64 (T.order a.erase b.erase)) w (.returned (.int .i64 x)) w') := fun x w' h1 h2 => ⟨by rw [h1], h2⟩
  have H1 := Lib.hid (fun (w' : World) (g : Gr w w') => show Calls Try.prog 155 #[.agg #[.int .i64 a.k, .int .i64 a.n, .string a.s, .slice a.p a.l.length a.c], .agg #[.int .i64 b.k, .int .i64 b.n, .string b.s, .slice b.p b.l.length b.c]] w' _ from less_calls (Tm.In_below g ia) (Tm.In_below g ib) fa fb)
  have H2 := Lib.hid (fun (w' : World) (g : Gr w w') => show Calls Try.prog 155 #[.agg #[.int .i64 b.k, .int .i64 b.n, .string b.s, .slice b.p b.l.length b.c], .agg #[.int .i64 a.k, .int .i64 a.n, .string a.s, .slice a.p a.l.length a.c]] w' _ from less_calls (Tm.In_below g ib) (Tm.In_below g ia) fb fa)
  have hn := order_neg a.erase b.erase
  have hrg := order_range a.erase b.erase
  generalize Ret (.int .i64 (T.order a.erase b.erase)) w = Q at hR ⊢
  rw [hn] at H2
  generalize T.order a.erase b.erase = r at *
  clear ia ib fa fb hn
  rw [show a.val = .agg #[.int .i64 a.k, .int .i64 a.n, .string a.s, .slice a.p a.l.length a.c] from rfl, show b.val = .agg #[.int .i64 b.k, .int .i64 b.n, .string b.s, .slice b.p b.l.length b.c] from rfl]
  go_enter Try.func104, Try.ntmps104
  try simp only [List.append_eq, List.cons_append, List.nil_append]
  go_upto_region 1 with fail
  obtain ⟨h3, h4, gA⟩ := two_blocks w (.int .i64 a.k) (.int .i64 a.n) (.string a.s) (.slice a.p a.l.length a.c) (.int .i64 b.k) (.int .i64 b.n) (.string b.s) (.slice b.p b.l.length b.c)
  generalize ((w.alloc (.cells #[.int .i64 a.k, .int .i64 a.n, .string a.s, .slice a.p a.l.length a.c] 25)).alloc (.cells #[.int .i64 b.k, .int .i64 b.n, .string b.s, .slice b.p b.l.length b.c] 25)) = wA at *
  obtain ⟨⟨x0, x1, x2, x3⟩, _, _⟩ := h3.out.parts
  obtain ⟨⟨y0, y1, y2, y3⟩, _, _⟩ := h4.out.parts
  have H1' := Lib.hid (H1.out wA gA)
  go_wp2_with fail
  refine H1'.out.mono ?_
  rintro e w5 ⟨rfl, g5⟩
  replace g5 : Gr wA w5 := g5
  by_cases h1 : r < 0
  · have h1' : decide (r < 0) = true := by simp [h1]
    have Hb := Lib.hid (hR.out (-1) w5 (by omega) (gA.trans g5))
    clear x0 x1 x2 x3 y0 y1 y2 y3
    go_wp2_with fail
    exact Hb.out
  · have h1' : decide (r < 0) = false := by simp [h1]
    have H2' := Lib.hid (H2.out w5 (gA.trans g5))
    have zx0 := Gr.at g5 x0
    have zx1 := Gr.at g5 x1
    have zx2 := Gr.at g5 x2
    have zx3 := Gr.at g5 x3
    have zy0 := Gr.at g5 y0
    have zy1 := Gr.at g5 y1
    have zy2 := Gr.at g5 y2
    have zy3 := Gr.at g5 y3
    clear x0 x1 x2 x3 y0 y1 y2 y3
    go_wp2_with fail
    refine H2'.out.mono ?_
    rintro e w6 ⟨rfl, g6⟩
    replace g6 : Gr w5 w6 := g6
    by_cases h2 : -r < 0
    · have h2' : decide (-r < 0) = true := by simp; omega
      have Hb := Lib.hid (hR.out 1 w6 (by omega) ((gA.trans g5).trans g6))
      clear zx0 zx1 zx2 zx3 zy0 zy1 zy2 zy3
      rw [h2']
      go_wp2_with fail
      exact Hb.out
    · have h2' : decide (-r < 0) = false := by simp; omega
      have Hb := Lib.hid (hR.out 0 w6 (by omega) ((gA.trans g5).trans g6))
      clear zx0 zx1 zx2 zx3 zy0 zy1 zy2 zy3
      rw [h2']
      go_wp2_with fail
      exact Hb.out
end Go.Proofs.Ytcblmkhhhibddaa
