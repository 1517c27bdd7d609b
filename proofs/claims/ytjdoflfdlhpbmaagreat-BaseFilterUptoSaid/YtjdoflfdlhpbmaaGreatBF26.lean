/-
  hornref.Find: whether the variable is there, too.
  hornref.Compose: the walk.
-/
import Derived.Test.YtjdoflfdlhpbmaaGreatBF20
import Derived.Test.YtjdoflfdlhpbmaaGreatBF25
namespace Go.Proofs.YtjdoflfdlhpbmaaGreat
open Go.RowKit

theorem hasV_drop (l : List Bd) (n : Int) (k : Nat) (hk : k < l.length) (h : l[k].v ≠ n) : hasV (l.drop k) n = hasV (l.drop (k + 1)) n := by
  rw [List.drop_eq_getElem_cons hk, hasV, hasV, List.any_cons, decide_eq_false h, Bool.false_or]
theorem hasV_here (l : List Bd) (n : Int) (k : Nat) (hk : k < l.length) (h : l[k].v = n) : hasV (l.drop k) n = true := by
  rw [List.drop_eq_getElem_cons hk, hasV, List.any_cons, decide_eq_true h, Bool.true_or]
def RetFindB (S : Nat → Prop) (t : T) (x : Bool) (w : World) (e : Ending) (w' : World) : Prop :=
  ∃ (b : Tm), b.In w' ∧ b.erase = t ∧ e = .returned (.tuple #[b.val, .bool x]) ∧ Gr w w' ∧ b.On S

set_option maxHeartbeats 2000000 in
set_option maxRecDepth 100000 in
theorem rfindB_calls (S : Nat → Prop) (p : Option Addr) (c : Nat) (l : List Bd) (n : Int) (w : World) (hx : (Bds.mk p c l).In w) (hn : In64 n) (hS : ∀ b, S b → b < w.heap.size) (hO : ∀ y ∈ l, y.t.On S) :
    Calls Tryz.prog 76 #[.slice p l.length c, .int .i64 n] w (RetFindB (fun b => S b ∨ w.heap.size ≤ b) (lookupT l n) (hasV l n) w) := by
  have HX := Lib.hid hx
  have Hn := Lib.hid hn
  have HS := Lib.hid hS
  have HO := Lib.hid hO
  obtain ⟨hlc, ⟨hl64, hc⟩, _, _⟩ := hx
  simp only at hlc hl64 hc
  obtain ⟨hn1, hn2⟩ := hn
  generalize hr : lookupT l n = r
  generalize hq : hasV l n = q
  have Hq := Lib.hid hq
  clear hq
  have Hr := Lib.hid hr
  clear hr hS hO
  go_enter Tryz.func76, Tryz.ntmps76
  go_wp2_with fail
  go_loop [6] (fun i => ∃ k : Nat, k ≤ l.length ∧ i = .int .i64 k ∧ Hid (lookupT (l.drop k) n = r) ∧ Hid (hasV (l.drop k) n = q)) (fun i => l.length - (intOf i).toNat)
  case atStart => exact ⟨0, Nat.zero_le _, rfl, Hr.out, Hq.out⟩
  case round =>
    obtain ⟨k, hk, rfl, hpre, hpq⟩ := hrel
    by_cases hlt : k < l.length
    · obtain ⟨b, o, rfl⟩ := HX.out.ptr (by omega)
      obtain ⟨⟨c0, c1, c2, c3, c4⟩, hti, ⟨hv1, hv2⟩, hbl⟩ := HX.out.elem k hlt
      have Hti := Lib.hid hti
      have HyO := Lib.hid (HO.out _ (List.getElem_mem hlt))
      by_cases hv : l[k].v = n
      · have Hh2 : Hid (true = q) := (hasV_here l n k hlt hv).symm.trans hpq.out
        have Hh : Hid (l[k].t.erase = r) := (lookupT_here l n k hlt hv).symm.trans hpre.out
        clear hti
        generalize hye : l[k] = y at *
        obtain ⟨yv, yt⟩ := y
        simp only at *
        have hvb : (yv == n) = true := by simp [hv]
        clear hv
        go_wp2_with fail
        refine bodyPost_ret (v := .tuple #[yt.val, .bool true]) (by simp (maxDischargeDepth := 9) [results, Tryz.results76, go_sem, Tm.val]) rfl ⟨yt, Tm.In_below (by go_grown) Hti.out, Hh.out, by rw [← Hh2.out], by go_grown, HyO.out.mono fun b hb => .inl hb⟩
      · have Hh2 : Hid (hasV (l.drop (k + 1)) n = q) := (hasV_drop l n k hlt hv).symm.trans hpq.out
        have Hh : Hid (lookupT (l.drop (k + 1)) n = r) := (lookupT_drop l n k hlt hv).symm.trans hpre.out
        have hvb : (l[k].v == n) = false := beq_eq_false_iff_ne.2 hv
        clear hti hv
        generalize hye : l[k] = y at *
        go_wp2_with fail
        go_round
        case rel => exact ⟨k + 1, by omega, by go_num, Hh.out, Hh2.out⟩
        case measure => simp [intOf]; omega
    · obtain rfl : k = l.length := by omega
      have Hh2 : Hid (false = q) := by
        show _ = _
        rw [← hpq.out, List.drop_length]; rfl
      have Hh : Hid (varT n = r) := by
        show _ = _
        rw [← hpre.out, List.drop_length, lookupT]
      go_wp2_with fail
      refine (rV_calls n _ Hn.out).mono ?_
      rintro e w1 ⟨rfl, hb1⟩
      obtain ⟨⟨y0, y1, y2, y3⟩, ⟨f0, f1, f2, f3⟩, hlt1⟩ := (Blk4.gr (Blk4.new _ _ _ _ _) hb1).parts
      have g1 : Gr w w1 := below_step hb1 (by go_grown)
      clear hb1
      go_wp2_with fail
      refine bodyPost_ret (v := .tuple #[(varTm n).val, .bool false]) (by simp (maxDischargeDepth := 9) [results, Tryz.results76, go_sem, varTm, Tm.val, Tm.k, Tm.n, Tm.s, Tm.p, Tm.c, Tm.l, y0, y1, y2, y3]) rfl ⟨varTm n, varTm_in Hn.out _, by rw [varTm_erase, Hh.out], by rw [← Hh2.out], by go_grown, varTm_on n⟩

end Go.Proofs.YtjdoflfdlhpbmaaGreat

namespace Go.Proofs.YtjdoflfdlhpbmaaGreat
open Go.RowKit Go.Maps Go.Lib

/-- The binds are there, and their terms lie on such blocks. -/
def Bds.InO (S : Nat → Prop) (w : World) (x : Bds) : Prop := x.In w ∧ ∀ y ∈ x.l, y.t.On S
theorem Bds.InO.mono {S : Nat → Prop} {w w' : World} {x : Bds} (h : x.InO S w) (hg : Gr w w') : x.InO S w' := ⟨Bds.In.mono h.1 hg, h.2⟩
/-- The same; their terms lie on such blocks. -/
def RetBsO (S : Nat → Prop) (f : Int → Option T) (w : World) (e : Ending) (w' : World) : Prop := ∃ p c l, e = .returned (.slice p l.length c) ∧ (Bds.mk p c l).InO S w' ∧ IsBinds f l ∧ Gr w w'
def bdsIs (l : List Bd) : VP := fun v w => ∃ p c, v = .slice p l.length c ∧ (Bds.mk p c l).In w
theorem bdsIs_stable {l : List Bd} : ∀ v w w', bdsIs l v w → Gr w w' → bdsIs l v w' := fun _ _ _ ⟨p, c, h1, h2⟩ hg => ⟨p, c, h1, h2.mono hg⟩
theorem same_false {t : T} {n : Int} (h : T.same t (varT n) = false) : t ≠ varT n := fun e => by rw [(same_iff _ _).2 e] at h; cases h
theorem compAt_zero (s u : List Bd) : compAt s u 0 = putAll (fun y => T.map (lookupT u) y.t.erase) s (fun _ => none) := by rw [compAt, List.take_zero]; rfl
theorem notHas {l : List Bd} {n : Int} (h : hasV l n = false) : ¬ ∃ y ∈ l, y.v = n := fun h1 => by rw [(hasV_iff l n).2 h1] at h; cases h

set_option maxHeartbeats 2000000 in
set_option maxRecDepth 100000 in
theorem rcomposeO_calls (S : Nat → Prop) (p q : Option Addr) (c d : Nat) (s u : List Bd) (w : World) (hs : (Bds.mk p c s).In w) (hu : (Bds.mk q d u).In w) (es : bindsErr s = 0) (eu : bindsErr u = 0) (hn : ∀ b, w.heap.size ≤ b → S b) (ou : ∀ y ∈ u, y.t.On S) :
    Calls Tryz.prog 62 #[.slice p s.length c, .slice q u.length d] w (RetBsO S (compM s u) w) := by
  have Hnw := Lib.hid hn
  have Hou := Lib.hid ou
  have HS := Lib.hid hs
  have HU := Lib.hid hu
  have Hzs := Lib.hid (bindsErr_zero es)
  have Hzu := Lib.hid (bindsErr_zero eu)
  have hsl := hs.2.1.1
  have hul := hu.2.1.1
  simp only at hsl hul
  have hR : Hid (∀ p c l w', (Bds.mk p c l).InO S w' → IsBinds (compM s u) l → Gr w w' → RetBsO S (compM s u) w (.returned (.slice p l.length c)) w') := fun p c l w' h1 h2 h3 => ⟨p, c, l, rfl, h1, h2, h3⟩
  generalize RetBsO S (compM s u) w = Q at hR ⊢
  have HR := hR
  clear hs hu es eu hn ou hR
  go_enter Tryz.func62, Tryz.ntmps62
  try simp only [List.append_eq, List.cons_append, List.nil_append]
  go_wp2_with fail
  go_loopg [5, 6] s.length (fun m v i wr => ∃ (k : Nat) (p' : Option Addr) (c' : Nat) (l : List Bd), k ≤ s.length ∧ m = s.length - k ∧ i = .int .i64 k ∧ v = .slice p' l.length c' ∧ Hid ((Bds.mk p' c' l).InO S wr) ∧ Hid (IsBinds (putAll (fun y => T.map (lookupT u) y.t.erase) (s.take k) (fun _ => none)) l) ∧ Gr w wr)
  case atStart => exact ⟨0, none, 0, [], Nat.zero_le _, rfl, rfl, rfl, ⟨⟨Nat.le_refl _, ⟨by simp, by simp⟩, .inl rfl, (fun y hy => nomatch hy)⟩, (fun y hy => nomatch hy)⟩, ⟨rfl, fun n t => ⟨(fun ⟨y, hy, _⟩ => nomatch hy), (fun ⟨h1, _⟩ => nomatch h1)⟩, (fun y hy => nomatch hy)⟩, Gr.rfl' _⟩
  case round =>
    obtain ⟨k, p', c', l, hk, rfl, rfl, rfl, hin, his, gr⟩ := hrel
    have hll := his.out.len
    by_cases hlt : k < s.length
    · obtain ⟨b, o, rfl⟩ := HS.out.ptr (by omega)
      obtain ⟨⟨c0, c1, c2, c3, c4⟩, hti, ⟨hv1, hv2⟩, hbl⟩ := (HS.out.mono gr).elem k hlt
      have Hti := Lib.hid hti
      have Hfy := Lib.hid (formed_at Hzs.out.1 k hlt)
      have hay := asc_at Hzs.out.2 k hlt
      have Hput : Hid (putAll (fun y => T.map (lookupT u) y.t.erase) (s.take (k + 1)) (fun _ => none) = putF (putAll (fun y => T.map (lookupT u) y.t.erase) (s.take k) (fun _ => none)) s[k].v (T.map (lookupT u) s[k].t.erase)) := putAll_step _ _ _ k hlt
      have Hfree : Hid (putAll (fun y => T.map (lookupT u) y.t.erase) (s.take k) (fun _ => none) s[k].v = none) := putAll_none _ _ _ _ (asc_free Hzs.out.2 k hlt)
      clear hti
      generalize s[k] = y at *
      generalize putAll (fun y => T.map (lookupT u) y.t.erase) (s.take k) (fun _ => none) = f at *
      have hcall := rapplyOn_calls (S := S) (t := y.t) (x := ⟨q, d, u⟩) Hti.out Hfy.out (HU.out.mono gr) (fun b hb => Hnw.out b (Nat.le_trans gr.size hb)) Hou.out
      rw [show y.t.val = .agg #[.int .i64 y.t.k, .int .i64 y.t.n, .string y.t.s, .slice y.t.p y.t.l.length y.t.c] from rfl] at hcall
      simp only [Bds.val] at hcall
      have Hcall := Lib.hid hcall
      clear hcall
      go_wp2_with fail
      refine Hcall.out.mono ?_
      rintro e w1 ⟨x, hxin, hxe, rfl, g1, hxon⟩
      have Hxon := Lib.hid hxon
      clear hxon
      have Hxv := Lib.hid (show x.val = .agg #[.int .i64 x.k, .int .i64 x.n, .string x.s, .slice x.p x.l.length x.c] from rfl)
      rw [Hxv.out]
      go_upto_region 6 with fail
      have hB := Blk4.new w1 (.int .i64 x.k) (.int .i64 x.n) (.string x.s) (.slice x.p x.l.length x.c)
      have gB : Gr w1 (w1.alloc (.cells #[.int .i64 x.k, .int .i64 x.n, .string x.s, .slice x.p x.l.length x.c] 24)) := by go_grown
      have gwB : Gr w (w1.alloc (.cells #[.int .i64 x.k, .int .i64 x.n, .string x.s, .slice x.p x.l.length x.c] 24)) := (Gr.trans gr g1).trans gB
      have c0' := Gr.at (g1.trans gB) c0
      have Hxin := Lib.hid (Tm.In_below gB hxin)
      have Hxe := Lib.hid hxe
      have Hin2 := Lib.hid (hin.out.mono (g1.trans gB))
      generalize w1.alloc (.cells #[.int .i64 x.k, .int .i64 x.n, .string x.s, .slice x.p x.l.length x.c] 24) = wB at *
      generalize w1.heap.size = Bx at *
      obtain ⟨⟨x0, x1, x2, x3⟩, _, _⟩ := hB.parts
      have HBx := Lib.hid hB
      clear c0 c1 c2 c3 c4 hB hxin hxe g1 gB
      refine wp_region_rely [fx x.val, fx (.slice (some ⟨b, o, none⟩) s.length c), fx (.int .i64 k), fx (.pointer (some ⟨b, o + k * 5, none⟩)), fx (.pointer (some ⟨b, o + k * 5, none⟩)), fx (.int .i64 y.v), fx (varTm y.v).val, fx (.bool (T.same x.erase (varT y.v))), fx (.bool (!T.same x.erase (varT y.v)))]
        (by kernel_rfl) (by kernel_rfl) (by repeat (first | exact Stable.nil | refine Stable.fix ?_)) ?_ ?_
      · refine ⟨?_, ?_, ?_, ?_, ?_, ?_, ?a6, ?a7, ?_, trivial⟩
        all_goals
          intro a wz hg hold
          have h0 : a.tmps[0]?.getD undef = .slice (some ⟨b, o, none⟩) s.length c := hold 0 rfl
          have h6 : a.tmps[6]?.getD undef = .int .i64 k := hold 6 rfl
          have h7 : a.tmps[7]?.getD undef = .pointer (some ⟨Bx, 0, none⟩) := hold 7 rfl
          have z0 := Gr.at hg c0'
          have z1 := Gr.at hg x0
          have z2 := Gr.at hg x1
          have z3 := Gr.at hg x2
          have z4 := Gr.at hg x3
          have Hg := Lib.hid hg
          clear hold c0' x0 x1 x2 x3
          simp [predsImp, Region.binds, dstAt, fx]
          intros
          first
            | (rw [if_pos (by simp [*])]
               intro K hK)
            | (rename_i K hK)
          go_simp
        case a6 =>
          refine (rV_calls y.v _ ⟨by omega, by omega⟩).mono ?_
          rintro e w2 ⟨rfl, hb2⟩
          exact hK _ _ rfl hb2
        case a7 =>
          have hsame := same_calls (t := x) (u := varTm y.v) (Tm.In_below Hg.out Hxin.out) (varTm_in ⟨by omega, by omega⟩ _)
          rw [varTm_erase] at hsame
          refine hsame.mono ?_
          rintro e w2 ⟨rfl, hb2⟩
          exact hK _ _ rfl hb2
        all_goals exact hK _ _ rfl (Gr.rfl' _)
      · intro w3 hg
        rintro _ rfl _ rfl _ rfl _ rfl _ rfl _ rfl _ rfl _ rfl _ rfl
        simp only [finAll, Act.put, Exit.then, List.setIfInBounds_toArray, List.set_cons_succ, List.set_cons_zero]
        have gw3 : Gr w w3 := gwB.trans hg
        have Hin3 := Lib.hid (Hin2.out.mono hg)
        have Hxin3 := Lib.hid (Tm.In_below hg Hxin.out)
        have HBx3 := Lib.hid (HBx.out.gr hg)
        have d0 := Gr.at hg c0'
        obtain ⟨⟨y0, y1, y2, y3⟩, _, _⟩ := HBx3.out.parts
        clear c0' x0 x1 x2 x3 hg gwB
        generalize hsb : T.same x.erase (varT y.v) = sb
        have Hsb := Lib.hid hsb
        clear hsb
        cases sb with
        | true =>
          have His : Hid (IsBinds (putF f y.v (T.map (lookupT u) y.t.erase)) l) := by
            show IsBinds _ _
            have h1 := (same_iff _ _).1 Hsb.out
            rw [← Hxe.out, h1]
            exact IsBinds.same_var his.out Hfree.out
          go_wp2_with fail
          go_roundg (s.length - (k + 1))
          case measure => omega
          case rel => exact ⟨k + 1, p', c', l, by omega, rfl, by go_num, rfl, Hin3, by show IsBinds _ _; rw [Hput.out]; exact His.out, gw3⟩
        | false =>
          have His : Hid (IsBinds (putF f y.v (T.map (lookupT u) y.t.erase)) (placeL l ⟨y.v, x⟩)) := by
            show IsBinds _ _
            have h1 := same_false Hsb.out
            rw [← Hxe.out]
            exact IsBinds.place (x := ⟨y.v, x⟩) his.out (by rw [Hxe.out]; exact formed_mapped _ (lookup_formed Hzu.out.1) _ Hfy.out) hay Hfree.out h1
          go_upto_region 7 with fail
          refine wp_region_rely_tail 8 [fx (.slice p' l.length c'), fx (.slice (some ⟨b, o, none⟩) s.length c), fx (.int .i64 k), fx (.pointer (some ⟨b, o + k * 5, none⟩)), fx (.pointer (some ⟨b, o + k * 5, none⟩)), fx (.int .i64 y.v), fx x.val, bdsIs (placeL l ⟨y.v, x⟩)]
            (by kernel_rfl) (by kernel_rfl) (by decide) (by repeat (first | exact Stable.nil | refine Stable.fix ?_ | refine Stable.cons bdsIs_stable ?_)) ?_ ?_
          · refine ⟨?_, ?_, ?_, ?_, ?_, ?_, ?_, ?a7, trivial⟩
            all_goals
              intro a wz hg hold
              have h0 : a.tmps[0]?.getD undef = .slice (some ⟨b, o, none⟩) s.length c := hold 0 rfl
              have h6 : a.tmps[6]?.getD undef = .int .i64 k := hold 6 rfl
              have h7 : a.tmps[7]?.getD undef = .pointer (some ⟨Bx, 0, none⟩) := hold 7 rfl
              have h5 : a.tmps[5]?.getD undef = .slice p' l.length c' := hold 5 rfl
              have z0 := Gr.at hg d0
              have z1 := Gr.at hg y0
              have z2 := Gr.at hg y1
              have z3 := Gr.at hg y2
              have z4 := Gr.at hg y3
              have Hg := Lib.hid hg
              clear hold d0 y0 y1 y2 y3
              simp [predsImp, Region.binds, dstAt, fx]
              intros
              first
                | (rw [if_pos (by simp [*])]
                   intro K hK)
                | (rename_i K hK)
              go_simp
            case a7 =>
              refine (place_walk p' c' l y.v x wz (Hin3.out.1.mono Hg.out) (Tm.In_below Hg.out Hxin3.out) ⟨by omega, by omega⟩ (by omega)).mono ?_
              rintro e w4 ⟨p4, c4, rfl, h4, g4⟩
              exact hK _ _ ⟨p4, c4, rfl, h4⟩ g4
            all_goals exact hK _ _ rfl (Gr.rfl' _)
          · intro w5 hg
            rintro _ rfl _ rfl _ rfl _ rfl _ rfl _ rfl _ rfl _ ⟨p5, c5, rfl, h5⟩
            simp only [finAll, Act.put, List.setIfInBounds_toArray, List.set_cons_succ, List.set_cons_zero, List.drop_succ_cons, List.drop_zero, List.take_zero]
            have gw5 : Gr w w5 := gw3.trans hg
            have H5 := Lib.hid (show (Bds.mk p5 c5 (placeL l ⟨y.v, x⟩)).InO S w5 from ⟨h5, fun z hz => ((placeL_mem _ _ _).1 hz).elim (fun e => by rw [e]; exact Hxon.out) fun hz => Hin3.out.2 z hz⟩)
            clear hg h5 d0 y0 y1 y2 y3
            go_wp2_with fail
            go_roundg (s.length - (k + 1))
            case measure => omega
            case rel => exact ⟨k + 1, p5, c5, placeL l ⟨y.v, x⟩, by omega, rfl, by go_num, rfl, H5, by show IsBinds _ _; rw [Hput.out]; exact His.out, gw5⟩
    · obtain rfl : k = s.length := by omega
      have Hs0 : Hid (IsBinds (compAt s u 0) l) := by
        show IsBinds _ _
        rw [compAt_zero]
        have := his.out
        rw [List.take_length] at this
        exact this
      clear his
      go_wp2_with fail
      go_loopg [5, 8] u.length (fun m v i wx => ∃ (k : Nat) (p' : Option Addr) (c' : Nat) (l : List Bd), k ≤ u.length ∧ m = u.length - k ∧ i = .int .i64 k ∧ v = .slice p' l.length c' ∧ Hid ((Bds.mk p' c' l).InO S wx) ∧ Hid (IsBinds (compAt s u k) l) ∧ Gr w wx)
      case atStart => exact ⟨0, p', c', l, Nat.zero_le _, rfl, rfl, rfl, hin, Hs0, gr⟩
      case round =>
        clear gr hin hll Hs0 hlt hk
        obtain ⟨k, p', c', l, hk, rfl, rfl, rfl, hin, his, gr⟩ := hrel
        have hll := his.out.len
        by_cases hlt : k < u.length
        · obtain ⟨b, o, rfl⟩ := HU.out.ptr (by omega)
          obtain ⟨⟨c0, c1, c2, c3, c4⟩, hti, ⟨hv1, hv2⟩, hbl⟩ := (HU.out.mono gr).elem k hlt
          have Hti := Lib.hid hti
          have Hfy := Lib.hid (formed_at Hzu.out.1 k hlt)
          have hay := asc_at Hzu.out.2 k hlt
          have Hoy := Lib.hid (Hou.out _ (List.getElem_mem hlt))
          have Hfound : Hid ((∃ y ∈ s, y.v = u[k].v) → compAt s u (k + 1) = compAt s u k) := fun h => compAt_found hlt h
          have Hnew : Hid ((¬ ∃ y ∈ s, y.v = u[k].v) → compAt s u (k + 1) = putF (compAt s u k) u[k].v u[k].t.erase) := fun h => compAt_new hlt h
          have Hfree : Hid ((¬ ∃ y ∈ s, y.v = u[k].v) → compAt s u k u[k].v = none) := fun h => compAt_free Hzu.out.2 hlt h
          clear hti
          generalize u[k] = y at *
          generalize compAt s u k = f at *
          have hcall := rfindB_calls (· < w.heap.size) p c s y.v wr (HS.out.mono gr) ⟨hv1, hv2⟩ (fun b hb => Nat.lt_of_lt_of_le hb gr.size) fun y hy => (HS.out.2.2.2 y hy).1.on
          have Hcall := Lib.hid hcall
          clear hcall
          go_wp2_with fail
          refine Hcall.out.mono ?_
          rintro e w1 ⟨x, hxin, hxe, rfl, g1, -⟩
          have Hxv := Lib.hid (show x.val = .agg #[.int .i64 x.k, .int .i64 x.n, .string x.s, .slice x.p x.l.length x.c] from rfl)
          rw [Hxv.out]
          go_upto_region 12 with fail
          have gB : Gr w1 (w1.alloc (.cells #[.int .i64 x.k, .int .i64 x.n, .string x.s, .slice x.p x.l.length x.c] 24)) := by go_grown
          have gwB : Gr w (w1.alloc (.cells #[.int .i64 x.k, .int .i64 x.n, .string x.s, .slice x.p x.l.length x.c] 24)) := (Gr.trans gr g1).trans gB
          have c0' := Gr.at (g1.trans gB) c0
          have c1' := Gr.at (g1.trans gB) c1
          have c2' := Gr.at (g1.trans gB) c2
          have c3' := Gr.at (g1.trans gB) c3
          have c4' := Gr.at (g1.trans gB) c4
          have Hin2 := Lib.hid (hin.out.mono (g1.trans gB))
          have HtB := Lib.hid (Tm.In_below (g1.trans gB) Hti.out)
          generalize w1.alloc (.cells #[.int .i64 x.k, .int .i64 x.n, .string x.s, .slice x.p x.l.length x.c] 24) = wB at *
          generalize w1.heap.size = Bx at *
          clear c0 c1 c2 c3 c4 hxin hxe g1 gB
          have Hyv := Lib.hid (show y.t.val = .agg #[.int .i64 y.t.k, .int .i64 y.t.n, .string y.t.s, .slice y.t.p y.t.l.length y.t.c] from rfl)
          generalize hhb : hasV s y.v = hb
          have Hhb := Lib.hid hhb
          clear hhb
          cases hb with
          | true =>
            have His : Hid (IsBinds (compAt s u (k + 1)) l) := by
              show IsBinds _ _
              rw [Hfound.out ((hasV_iff _ _).1 Hhb.out)]
              exact his.out
            clear c0' c1' c2' c3' c4'
            go_quiet (fail)
            go_wp2_with fail
            go_roundg (u.length - (k + 1))
            case measure => omega
            case rel => exact ⟨k + 1, p', c', l, by omega, rfl, by go_num, rfl, Lib.hid (Hin2.out.mono (Gr.drewN (Gr.rfl' _) _)), His, gwB.drewN _⟩
          | false =>
            have hno := notHas Hhb.out
            have Hf0 := Lib.hid (Hfree.out hno)
            have Hf1 := Lib.hid (Hnew.out hno)
            clear hno
            refine wp_region_rely [fx (.bool false), fx (.bool true), fx (.bool true), fx (.slice (some ⟨b, o, none⟩) u.length d), fx (.int .i64 k), fx (.pointer (some ⟨b, o + k * 5, none⟩)), fx (.pointer (some ⟨b, o + k * 5 + 1, none⟩)), fx y.t.val, fx (.slice (some ⟨b, o, none⟩) u.length d), fx (.int .i64 k), fx (.pointer (some ⟨b, o + k * 5, none⟩)), fx (.pointer (some ⟨b, o + k * 5, none⟩)), fx (.int .i64 y.v), fx (varTm y.v).val, fx (.bool (T.same y.t.erase (varT y.v))), fx (.bool (!T.same y.t.erase (varT y.v))), fx (.bool (!T.same y.t.erase (varT y.v)))]
              (by kernel_rfl) (by kernel_rfl) (by repeat (first | exact Stable.nil | refine Stable.fix ?_)) ?_ ?_
            · refine ⟨?_, ?_, ?_, ?_, ?_, ?_, ?_, ?_, ?_, ?_, ?_, ?_, ?_, ?a13, ?a14, ?_, ?_, trivial⟩
              all_goals
                intro a wz hg hold
                have h1 : a.tmps[1]?.getD undef = .slice (some ⟨b, o, none⟩) u.length d := hold 1 rfl
                have h8 : a.tmps[8]?.getD undef = .int .i64 k := hold 8 rfl
                have h10 : a.tmps[10]?.getD undef = .bool false := hold 10 rfl
                have z0 := Gr.at hg c0'
                have z1 := Gr.at hg c1'
                have z2 := Gr.at hg c2'
                have z3 := Gr.at hg c3'
                have z4 := Gr.at hg c4'
                have Hg := Lib.hid hg
                clear hold c0' c1' c2' c3' c4'
                simp [predsImp, Region.binds, dstAt, fx, wantedE, Act.eval]
                intros
                first
                  | (rw [if_pos (by simp [*])]
                     intro K hK)
                  | (rename_i K hK)
                go_simp
              case a13 =>
                refine (rV_calls y.v _ ⟨by omega, by omega⟩).mono ?_
                rintro e w2 ⟨rfl, hb2⟩
                exact hK _ _ rfl hb2
              case a14 =>
                have hsame := same_calls (t := y.t) (u := varTm y.v) (Tm.In_below Hg.out HtB.out) (varTm_in ⟨by omega, by omega⟩ _)
                rw [varTm_erase] at hsame
                refine hsame.mono ?_
                rintro e w2 ⟨rfl, hb2⟩
                exact hK _ _ rfl hb2
              all_goals exact hK _ _ rfl (Gr.rfl' _)
            · intro w3 hg
              rintro _ rfl _ rfl _ rfl _ rfl _ rfl _ rfl _ rfl _ rfl _ rfl _ rfl _ rfl _ rfl _ rfl _ rfl _ rfl _ rfl _ rfl
              simp only [finAll, Act.put, Exit.then, List.setIfInBounds_toArray, List.set_cons_succ, List.set_cons_zero]
              have gw3 : Gr w w3 := gwB.trans hg
              have Hin3 := Lib.hid (Hin2.out.mono hg)
              have Ht3 := Lib.hid (Tm.In_below hg HtB.out)
              have d0 := Gr.at hg c0'
              have d1 := Gr.at hg c1'
              have d2 := Gr.at hg c2'
              have d3 := Gr.at hg c3'
              have d4 := Gr.at hg c4'
              clear c0' c1' c2' c3' c4' hg gwB
              generalize hsb : T.same y.t.erase (varT y.v) = sb
              have Hsb := Lib.hid hsb
              clear hsb
              cases sb with
              | true =>
                have His : Hid (IsBinds (compAt s u (k + 1)) l) := by
                  show IsBinds _ _
                  rw [Hf1.out, (same_iff _ _).1 Hsb.out]
                  exact IsBinds.same_var his.out Hf0.out
                go_wp2_with fail
                go_roundg (u.length - (k + 1))
                case measure => omega
                case rel => exact ⟨k + 1, p', c', l, by omega, rfl, by go_num, rfl, Hin3, His, gw3⟩
              | false =>
                have His : Hid (IsBinds (compAt s u (k + 1)) (placeL l y)) := by
                  show IsBinds _ _
                  rw [Hf1.out]
                  exact IsBinds.place his.out Hfy.out hay Hf0.out (same_false Hsb.out)
                go_upto_region 13 with fail
                refine wp_region_rely_tail 12 [fx (.slice p' l.length c'), fx (.slice (some ⟨b, o, none⟩) u.length d), fx (.int .i64 k), fx (.pointer (some ⟨b, o + k * 5, none⟩)), fx (.pointer (some ⟨b, o + k * 5, none⟩)), fx (.int .i64 y.v), fx (.slice (some ⟨b, o, none⟩) u.length d), fx (.int .i64 k), fx (.pointer (some ⟨b, o + k * 5, none⟩)), fx (.pointer (some ⟨b, o + k * 5 + 1, none⟩)), fx y.t.val, bdsIs (placeL l y)]
                  (by kernel_rfl) (by kernel_rfl) (by decide) (by repeat (first | exact Stable.nil | refine Stable.fix ?_ | refine Stable.cons bdsIs_stable ?_)) ?_ ?_
                · refine ⟨?_, ?_, ?_, ?_, ?_, ?_, ?_, ?_, ?_, ?_, ?_, ?a11, trivial⟩
                  all_goals
                    intro a wz hg hold
                    have h1 : a.tmps[1]?.getD undef = .slice (some ⟨b, o, none⟩) u.length d := hold 1 rfl
                    have h8 : a.tmps[8]?.getD undef = .int .i64 k := hold 8 rfl
                    have h5 : a.tmps[5]?.getD undef = .slice p' l.length c' := hold 5 rfl
                    have z0 := Gr.at hg d0
                    have z1 := Gr.at hg d1
                    have z2 := Gr.at hg d2
                    have z3 := Gr.at hg d3
                    have z4 := Gr.at hg d4
                    have Hg := Lib.hid hg
                    clear hold d0 d1 d2 d3 d4
                    simp [predsImp, Region.binds, dstAt, fx]
                    intros
                    first
                      | (rw [if_pos (by simp [*])]
                         intro K hK)
                      | (rename_i K hK)
                    go_simp
                  case a11 =>
                    refine (place_walk p' c' l y.v y.t wz (Hin3.out.1.mono Hg.out) (Tm.In_below Hg.out Ht3.out) ⟨by omega, by omega⟩ (by omega)).mono ?_
                    rintro e w4 ⟨p4, c4, rfl, h4, g4⟩
                    exact hK _ _ ⟨p4, c4, rfl, h4⟩ g4
                  all_goals exact hK _ _ rfl (Gr.rfl' _)
                · intro w5 hg
                  rintro _ rfl _ rfl _ rfl _ rfl _ rfl _ rfl _ rfl _ rfl _ rfl _ rfl _ rfl _ ⟨p5, c5, rfl, h5⟩
                  simp only [finAll, Act.put, List.setIfInBounds_toArray, List.set_cons_succ, List.set_cons_zero, List.drop_succ_cons, List.drop_zero, List.take_zero]
                  have gw5 : Gr w w5 := gw3.trans hg
                  have H5 := Lib.hid (show (Bds.mk p5 c5 (placeL l y)).InO S w5 from ⟨h5, fun z hz => ((placeL_mem _ _ _).1 hz).elim (fun e => by rw [e]; exact Hoy.out) fun hz => Hin3.out.2 z hz⟩)
                  clear hg h5 d0 d1 d2 d3 d4
                  go_wp2_with fail
                  go_roundg (u.length - (k + 1))
                  case measure => omega
                  case rel => exact ⟨k + 1, p5, c5, placeL l y, by omega, rfl, by go_num, rfl, H5, His, gw5⟩
        · obtain rfl : k = u.length := by omega
          have Hend : Hid (IsBinds (compM s u) l) := by
            show IsBinds _ _
            rw [← compAt_end]
            exact his.out
          go_wp2_with fail
          exact HR.out _ _ _ _ hin.out Hend.out gr
end Go.Proofs.YtjdoflfdlhpbmaaGreat
