/-
  hornref.nth: where a pair is in a list.
-/
import Derived.Test.YtcblmkhhhibddaaTS33
import Derived.Test.YtcblmkhhhibddaaTS19
namespace Go.Proofs.Ytcblmkhhhibddaa
open Go.RowKit Go.Maps Go.Lib

/-- Where the pair is, or -1. -/
def nthT (E : List (T × T)) (a b : T) : Int := match E.findIdx? (fun p => T.same p.1 a && T.same p.2 b) with
  | none => -1
  | some i => i
theorem nth_at {l : List Pr} {a b : T} {j : Nat} (hj : j < l.length) (hno : ∀ (i : Nat) (h : i < l.length), i < j → (T.same l[i].a.erase a && T.same l[i].b.erase b) = false) (hy : (T.same l[j].a.erase a && T.same l[j].b.erase b) = true) : nthT (seePrs l) a b = j := by
  have hl : (seePrs l).length = l.length := List.length_map ..
  have h : (seePrs l).findIdx? (fun p => T.same p.1 a && T.same p.2 b) = some j := by
    rw [List.findIdx?_eq_some_iff_getElem]
    refine ⟨by omega, by simpa [seePrs] using hy, fun i hi => ?_⟩
    have := hno i (by omega) hi
    simpa [seePrs] using this
  rw [nthT, h]
theorem nth_none {l : List Pr} {a b : T} (hno : ∀ (i : Nat) (h : i < l.length), i < l.length → (T.same l[i].a.erase a && T.same l[i].b.erase b) = false) : nthT (seePrs l) a b = -1 := by
  have h : (seePrs l).findIdx? (fun p => T.same p.1 a && T.same p.2 b) = none := by
    rw [List.findIdx?_eq_none_iff]
    intro x hx
    obtain ⟨y, hy, rfl⟩ := List.mem_map.1 hx
    obtain ⟨i, hi, rfl⟩ := List.getElem_of_mem hy
    exact hno i hi hi
  rw [nthT, h]

set_option maxHeartbeats 4000000 in
set_option maxRecDepth 100000 in
theorem nth_calls (p : Option Addr) (c : Nat) (l : List Pr) (a b : Tm) (w : World) (hl : (Prs.mk p c l).In w) (ia : a.In w) (ib : b.In w) : Calls Try.prog 157 #[.slice p l.length c, a.val, b.val] w (Ret (.int .i64 (nthT (seePrs l) a.erase b.erase)) w) := by
  have HP := Lib.hid hl
  have hlc := hl.1
  have hlb := hl.2.1
  simp only at hlc hlb
  have Ia := Lib.hid ia
  have Ib := Lib.hid ib
  have hR : Hid (∀ (x : Int) w', x = nthT (seePrs l) a.erase b.erase → Gr w w' → Ret (.int .i64 (nthT (seePrs l) a.erase b.erase)) w (.returned (.int .i64 x)) w') := fun x w' h1 h2 => ⟨by rw [h1], h2⟩
  generalize Ret (.int .i64 (nthT (seePrs l) a.erase b.erase)) w = Q at hR ⊢
  clear hl ia ib
  rw [show a.val = .agg #[.int .i64 a.k, .int .i64 a.n, .string a.s, .slice a.p a.l.length a.c] from rfl, show b.val = .agg #[.int .i64 b.k, .int .i64 b.n, .string b.s, .slice b.p b.l.length b.c] from rfl]
  go_enter Try.func157, Try.ntmps157
  try simp only [List.append_eq, List.cons_append, List.nil_append]
  go_upto_region 1 with fail
  obtain ⟨h3, h4, gA⟩ := two_blocks w (.int .i64 a.k) (.int .i64 a.n) (.string a.s) (.slice a.p a.l.length a.c) (.int .i64 b.k) (.int .i64 b.n) (.string b.s) (.slice b.p b.l.length b.c)
  generalize ((w.alloc (.cells #[.int .i64 a.k, .int .i64 a.n, .string a.s, .slice a.p a.l.length a.c] 25)).alloc (.cells #[.int .i64 b.k, .int .i64 b.n, .string b.s, .slice b.p b.l.length b.c] 25)) = wA at *
  go_wp2_with fail
  go_loopg [7] l.length (fun m i wr => ∃ k : Nat, k ≤ l.length ∧ m = l.length - k ∧ i = .int .i64 k ∧ Hid (∀ (i : Nat) (h : i < l.length), i < k → (T.same l[i].a.erase a.erase && T.same l[i].b.erase b.erase) = false) ∧ Gr wA wr)
  case atStart => exact ⟨0, Nat.zero_le _, rfl, rfl, (fun i _ h => absurd h (Nat.not_lt_zero i)), Gr.rfl' _⟩
  case round =>
    obtain ⟨k, hk, rfl, rfl, hno, gr⟩ := hrel
    have gwr : Gr w wr := gA.trans gr
    by_cases hlt : k < l.length
    · obtain ⟨b0, o0, rfl⟩ := HP.out.ptr (by omega)
      obtain ⟨⟨⟨c0, c1, c2, c3⟩, ⟨d0, d1, d2, d3⟩⟩, ⟨hia, hib⟩, hbl⟩ := (HP.out.mono gwr).elem k hlt
      obtain ⟨⟨x0, x1, x2, x3⟩, _, _⟩ := (h3.out.gr gr).parts
      obtain ⟨⟨y0, y1, y2, y3⟩, _, _⟩ := (h4.out.gr gr).parts
      have Hat := Lib.hid (fun (h : (T.same l[k].a.erase a.erase && T.same l[k].b.erase b.erase) = true) => nth_at (l := l) hlt hno.out h)
      have Hnext := Lib.hid (fun (h : (T.same l[k].a.erase a.erase && T.same l[k].b.erase b.erase) = false) (i : Nat) (hi : i < l.length) (hik : i < k + 1) => show (T.same l[i].a.erase a.erase && T.same l[i].b.erase b.erase) = false from by
        by_cases h' : i < k
        · exact hno.out i hi h'
        · obtain rfl : i = k := by omega
          exact h)
      have Hs1 := Lib.hid (fun (w' : World) (g : Gr wr w') => show Calls Try.prog 26 #[l[k].a.val, .agg #[.int .i64 a.k, .int .i64 a.n, .string a.s, .slice a.p a.l.length a.c]] w' _ from same_calls (t := l[k].a) (u := a) (Tm.In_below g hia) (Tm.In_below (gwr.trans g) Ia.out))
      have Hs2 := Lib.hid (fun (w' : World) (g : Gr wr w') => show Calls Try.prog 26 #[l[k].b.val, .agg #[.int .i64 b.k, .int .i64 b.n, .string b.s, .slice b.p b.l.length b.c]] w' _ from same_calls (t := l[k].b) (u := b) (Tm.In_below g hib) (Tm.In_below (gwr.trans g) Ib.out))
      clear hia hib hno
      generalize l[k] = y at *
      rw [show y.a.val = .agg #[.int .i64 y.a.k, .int .i64 y.a.n, .string y.a.s, .slice y.a.p y.a.l.length y.a.c] from rfl] at Hs1
      rw [show y.b.val = .agg #[.int .i64 y.b.k, .int .i64 y.b.n, .string y.b.s, .slice y.b.p y.b.l.length y.b.c] from rfl] at Hs2
      go_upto_region 4 with fail
      generalize hb1 : T.same y.a.erase a.erase = b1 at *
      generalize hb2 : T.same y.b.erase b.erase = b2 at *
      clear hb1 hb2
      cases b1 with
      | false =>
        refine wp_region_rely [fx (.slice (some ⟨b0, o0, none⟩) l.length c), fx (.int .i64 k), fx (.pointer (some ⟨b0, o0 + k * 8, none⟩)), fx (.pointer (some ⟨b0, o0 + k * 8, none⟩)), fx (.agg #[.int .i64 y.a.k, .int .i64 y.a.n, .string y.a.s, .slice y.a.p y.a.l.length y.a.c]), fx (.agg #[.int .i64 a.k, .int .i64 a.n, .string a.s, .slice a.p a.l.length a.c]), fx (.bool false), fx (.bool false), fx undef, fx undef, fx undef, fx undef, fx undef, fx undef, fx undef, fx (.bool false)]
          (by kernel_rfl) (by kernel_rfl) (by repeat (first | exact Stable.nil | refine Stable.fix ?_)) ?_ ?_
        · refine ⟨?_, ?_, ?_, ?_, ?_, ?_, ?a6, ?_, ?a8, ?a9, ?a10, ?a11, ?a12, ?a13, ?a14, ?_, trivial⟩
          case a6 =>
            intro fr wz hg hold
            have h0' : fr.tmps[0]?.getD undef = .slice (some ⟨b0, o0, none⟩) l.length c := hold 0 rfl
            have h4' : fr.tmps[4]?.getD undef = .pointer (some ⟨w.heap.size, 0, none⟩) := hold 4 rfl
            have h5' : fr.tmps[5]?.getD undef = .pointer (some ⟨w.heap.size + 1, 0, none⟩) := hold 5 rfl
            have h7' : fr.tmps[7]?.getD undef = .int .i64 k := hold 7 rfl
            have zc0 := Gr.at hg c0
            have zc1 := Gr.at hg c1
            have zc2 := Gr.at hg c2
            have zc3 := Gr.at hg c3
            have zd0 := Gr.at hg d0
            have zd1 := Gr.at hg d1
            have zd2 := Gr.at hg d2
            have zd3 := Gr.at hg d3
            have zx0 := Gr.at hg x0
            have zx1 := Gr.at hg x1
            have zx2 := Gr.at hg x2
            have zx3 := Gr.at hg x3
            have zy0 := Gr.at hg y0
            have zy1 := Gr.at hg y1
            have zy2 := Gr.at hg y2
            have zy3 := Gr.at hg y3
            have Hg := Lib.hid hg
            clear hold c0 c1 c2 c3 d0 d1 d2 d3 x0 x1 x2 x3 y0 y1 y2 y3
            have Hcc := Lib.hid (Hs1.out wz Hg.out)
            simp [predsImp, Region.binds, dstAt, fx]
            intros
            first
              | (rw [if_pos (by simp [*])]
                 intro K hK)
              | (rename_i K hK)
            go_simp
            refine Hcc.out.mono ?_
            rintro e w9 ⟨rfl, g9⟩
            exact hK _ _ rfl g9
          case a8 => exact stepOK_skip 7 true 21 rfl rfl rfl ⟨⟨7, Ground.guard⟩, by simp, rfl, rfl⟩
          case a9 => exact stepOK_skip 7 true 21 rfl rfl rfl ⟨⟨7, Ground.guard⟩, by simp, rfl, rfl⟩
          case a10 => exact stepOK_skip 7 true 21 rfl rfl rfl ⟨⟨7, Ground.guard⟩, by simp, rfl, rfl⟩
          case a11 => exact stepOK_skip 7 true 21 rfl rfl rfl ⟨⟨7, Ground.guard⟩, by simp, rfl, rfl⟩
          case a12 => exact stepOK_skip 7 true 21 rfl rfl rfl ⟨⟨7, Ground.guard⟩, by simp, rfl, rfl⟩
          case a13 => exact stepOK_skip 7 true 21 rfl rfl rfl ⟨⟨7, Ground.guard⟩, by simp, rfl, rfl⟩
          case a14 => exact stepOK_skip 7 true 21 rfl rfl rfl ⟨⟨7, Ground.guard⟩, by simp, rfl, rfl⟩
          all_goals
            intro fr wz hg hold
            have h0' : fr.tmps[0]?.getD undef = .slice (some ⟨b0, o0, none⟩) l.length c := hold 0 rfl
            have h4' : fr.tmps[4]?.getD undef = .pointer (some ⟨w.heap.size, 0, none⟩) := hold 4 rfl
            have h5' : fr.tmps[5]?.getD undef = .pointer (some ⟨w.heap.size + 1, 0, none⟩) := hold 5 rfl
            have h7' : fr.tmps[7]?.getD undef = .int .i64 k := hold 7 rfl
            have zc0 := Gr.at hg c0
            have zc1 := Gr.at hg c1
            have zc2 := Gr.at hg c2
            have zc3 := Gr.at hg c3
            have zd0 := Gr.at hg d0
            have zd1 := Gr.at hg d1
            have zd2 := Gr.at hg d2
            have zd3 := Gr.at hg d3
            have zx0 := Gr.at hg x0
            have zx1 := Gr.at hg x1
            have zx2 := Gr.at hg x2
            have zx3 := Gr.at hg x3
            have zy0 := Gr.at hg y0
            have zy1 := Gr.at hg y1
            have zy2 := Gr.at hg y2
            have zy3 := Gr.at hg y3
            have Hg := Lib.hid hg
            clear hold c0 c1 c2 c3 d0 d1 d2 d3 x0 x1 x2 x3 y0 y1 y2 y3
            simp [predsImp, Region.binds, dstAt, fx]
            intros
            first
              | (rw [if_pos (by simp [*])]
                 intro K hK)
              | (rename_i K hK)
            go_simp
          all_goals exact hK _ _ rfl (Gr.rfl' _)
        · intro w5 hg
          rintro _ rfl _ rfl _ rfl _ rfl _ rfl _ rfl _ rfl _ rfl _ rfl _ rfl _ rfl _ rfl _ rfl _ rfl _ rfl _ rfl
          simp only [finAll, Act.put, List.setIfInBounds_toArray, List.set_cons_succ, List.set_cons_zero]
          have g5 : Gr wA w5 := gr.trans hg
          clear x0 x1 x2 x3 y0 y1 y2 y3 c0 c1 c2 c3 d0 d1 d2 d3
          have Hn := Lib.hid (Hnext.out rfl)
          clear Hnext Hat
          go_wp2_with fail
          go_roundg (l.length - (k + 1))
          case measure => omega
          case rel => exact ⟨k + 1, by omega, rfl, by go_num, Hn, g5⟩
      | true =>
        refine wp_region_rely [fx (.slice (some ⟨b0, o0, none⟩) l.length c), fx (.int .i64 k), fx (.pointer (some ⟨b0, o0 + k * 8, none⟩)), fx (.pointer (some ⟨b0, o0 + k * 8, none⟩)), fx (.agg #[.int .i64 y.a.k, .int .i64 y.a.n, .string y.a.s, .slice y.a.p y.a.l.length y.a.c]), fx (.agg #[.int .i64 a.k, .int .i64 a.n, .string a.s, .slice a.p a.l.length a.c]), fx (.bool true), fx (.bool true), fx (.slice (some ⟨b0, o0, none⟩) l.length c), fx (.int .i64 k), fx (.pointer (some ⟨b0, o0 + k * 8, none⟩)), fx (.pointer (some ⟨b0, o0 + k * 8 + 4, none⟩)), fx (.agg #[.int .i64 y.b.k, .int .i64 y.b.n, .string y.b.s, .slice y.b.p y.b.l.length y.b.c]), fx (.agg #[.int .i64 b.k, .int .i64 b.n, .string b.s, .slice b.p b.l.length b.c]), fx (.bool b2), fx (.bool b2)]
          (by kernel_rfl) (by kernel_rfl) (by repeat (first | exact Stable.nil | refine Stable.fix ?_)) ?_ ?_
        · refine ⟨?_, ?_, ?_, ?_, ?_, ?_, ?a6, ?_, ?_, ?_, ?_, ?_, ?_, ?_, ?a14, ?_, trivial⟩
          case a6 =>
            intro fr wz hg hold
            have h0' : fr.tmps[0]?.getD undef = .slice (some ⟨b0, o0, none⟩) l.length c := hold 0 rfl
            have h4' : fr.tmps[4]?.getD undef = .pointer (some ⟨w.heap.size, 0, none⟩) := hold 4 rfl
            have h5' : fr.tmps[5]?.getD undef = .pointer (some ⟨w.heap.size + 1, 0, none⟩) := hold 5 rfl
            have h7' : fr.tmps[7]?.getD undef = .int .i64 k := hold 7 rfl
            have zc0 := Gr.at hg c0
            have zc1 := Gr.at hg c1
            have zc2 := Gr.at hg c2
            have zc3 := Gr.at hg c3
            have zd0 := Gr.at hg d0
            have zd1 := Gr.at hg d1
            have zd2 := Gr.at hg d2
            have zd3 := Gr.at hg d3
            have zx0 := Gr.at hg x0
            have zx1 := Gr.at hg x1
            have zx2 := Gr.at hg x2
            have zx3 := Gr.at hg x3
            have zy0 := Gr.at hg y0
            have zy1 := Gr.at hg y1
            have zy2 := Gr.at hg y2
            have zy3 := Gr.at hg y3
            have Hg := Lib.hid hg
            clear hold c0 c1 c2 c3 d0 d1 d2 d3 x0 x1 x2 x3 y0 y1 y2 y3
            have Hcc := Lib.hid (Hs1.out wz Hg.out)
            simp [predsImp, Region.binds, dstAt, fx]
            intros
            first
              | (rw [if_pos (by simp [*])]
                 intro K hK)
              | (rename_i K hK)
            go_simp
            refine Hcc.out.mono ?_
            rintro e w9 ⟨rfl, g9⟩
            exact hK _ _ rfl g9
          case a14 =>
            intro fr wz hg hold
            have h0' : fr.tmps[0]?.getD undef = .slice (some ⟨b0, o0, none⟩) l.length c := hold 0 rfl
            have h4' : fr.tmps[4]?.getD undef = .pointer (some ⟨w.heap.size, 0, none⟩) := hold 4 rfl
            have h5' : fr.tmps[5]?.getD undef = .pointer (some ⟨w.heap.size + 1, 0, none⟩) := hold 5 rfl
            have h7' : fr.tmps[7]?.getD undef = .int .i64 k := hold 7 rfl
            have zc0 := Gr.at hg c0
            have zc1 := Gr.at hg c1
            have zc2 := Gr.at hg c2
            have zc3 := Gr.at hg c3
            have zd0 := Gr.at hg d0
            have zd1 := Gr.at hg d1
            have zd2 := Gr.at hg d2
            have zd3 := Gr.at hg d3
            have zx0 := Gr.at hg x0
            have zx1 := Gr.at hg x1
            have zx2 := Gr.at hg x2
            have zx3 := Gr.at hg x3
            have zy0 := Gr.at hg y0
            have zy1 := Gr.at hg y1
            have zy2 := Gr.at hg y2
            have zy3 := Gr.at hg y3
            have Hg := Lib.hid hg
            clear hold c0 c1 c2 c3 d0 d1 d2 d3 x0 x1 x2 x3 y0 y1 y2 y3
            have Hcc := Lib.hid (Hs2.out wz Hg.out)
            simp [predsImp, Region.binds, dstAt, fx, wantedE, Act.eval]
            intros
            first
              | (rw [if_pos (by simp [*])]
                 intro K hK)
              | (rename_i K hK)
            go_simp
            refine Hcc.out.mono ?_
            rintro e w9 ⟨rfl, g9⟩
            exact hK _ _ rfl g9
          all_goals
            intro fr wz hg hold
            have h0' : fr.tmps[0]?.getD undef = .slice (some ⟨b0, o0, none⟩) l.length c := hold 0 rfl
            have h4' : fr.tmps[4]?.getD undef = .pointer (some ⟨w.heap.size, 0, none⟩) := hold 4 rfl
            have h5' : fr.tmps[5]?.getD undef = .pointer (some ⟨w.heap.size + 1, 0, none⟩) := hold 5 rfl
            have h7' : fr.tmps[7]?.getD undef = .int .i64 k := hold 7 rfl
            have zc0 := Gr.at hg c0
            have zc1 := Gr.at hg c1
            have zc2 := Gr.at hg c2
            have zc3 := Gr.at hg c3
            have zd0 := Gr.at hg d0
            have zd1 := Gr.at hg d1
            have zd2 := Gr.at hg d2
            have zd3 := Gr.at hg d3
            have zx0 := Gr.at hg x0
            have zx1 := Gr.at hg x1
            have zx2 := Gr.at hg x2
            have zx3 := Gr.at hg x3
            have zy0 := Gr.at hg y0
            have zy1 := Gr.at hg y1
            have zy2 := Gr.at hg y2
            have zy3 := Gr.at hg y3
            have Hg := Lib.hid hg
            clear hold c0 c1 c2 c3 d0 d1 d2 d3 x0 x1 x2 x3 y0 y1 y2 y3
            simp [predsImp, Region.binds, dstAt, fx, wantedE, Act.eval]
            intros
            first
              | (rw [if_pos (by simp [*])]
                 intro K hK)
              | (rename_i K hK)
            go_simp
          all_goals exact hK _ _ rfl (Gr.rfl' _)
        · intro w5 hg
          rintro _ rfl _ rfl _ rfl _ rfl _ rfl _ rfl _ rfl _ rfl _ rfl _ rfl _ rfl _ rfl _ rfl _ rfl _ rfl _ rfl
          simp only [finAll, Act.put, List.setIfInBounds_toArray, List.set_cons_succ, List.set_cons_zero]
          have g5 : Gr wA w5 := gr.trans hg
          clear x0 x1 x2 x3 y0 y1 y2 y3 c0 c1 c2 c3 d0 d1 d2 d3
          cases b2 with
          | false =>
            have Hn := Lib.hid (Hnext.out rfl)
            clear Hnext Hat
            go_wp2_with fail
            go_roundg (l.length - (k + 1))
            case measure => omega
            case rel => exact ⟨k + 1, by omega, rfl, by go_num, Hn, g5⟩
          | true =>
            have Hb := Lib.hid (hR.out k w5 (by rw [Hat.out rfl]) (gA.trans g5))
            clear Hnext Hat
            go_wp2_with fail
            exact Hb.out
    · obtain rfl : k = l.length := by omega
      have Hb := Lib.hid (hR.out (-1) wr (by rw [nth_none hno.out]) gwr)
      clear hno
      go_wp2_with fail
      exact Hb.out
end Go.Proofs.Ytcblmkhhhibddaa
