/-
  hornlaw.TermBinds: the walk.
-/
import Derived.Test.YteonakicoomjkaaTB15
import Derived.Test.YteonakicoomjkaaTB16
import Derived.Test.YteonakicoomjkaaTB11
import Derived.Deep.CutRange
namespace Go.Proofs.Yteonakicoomjkaa
open Go.RowKit Go.Maps Go.Lib

set_option maxHeartbeats 2000000 in
set_option maxRecDepth 100000 in
theorem termBinds_walk (t : Tm) (xs xu : Bds) (w : World) (ht : t.In w) (hs : xs.In w) (hu : xu.In w) :
    Calls Try.prog 7 #[t.val, xs.val, xu.val] w (Ret (.bool true) w) := by
  have hR : Hid (∀ b, true = b → ∀ w', Gr w w' → Ret (.bool true) w (.returned (.bool b)) w') := fun b hb w' hg => ⟨by rw [hb], hg⟩
  generalize hQ : Ret (.bool true) w = Q at hR ⊢
  clear hQ
  obtain ⟨p, c, s⟩ := xs
  obtain ⟨q, d, u⟩ := xu
  simp only [Bds.val]
  have HI := Lib.hid ht
  have HS := Lib.hid hs
  have HU := Lib.hid hu
  clear ht hs hu
  have Htv := Lib.hid (show t.val = .agg #[.int .i64 t.k, .int .i64 t.n, .string t.s, .slice t.p t.l.length t.c] from rfl)
  rw [Htv.out]
  go_enter Try.func7, Try.ntmps7
  try simp only [List.append_eq, List.cons_append, List.nil_append]
  go_upto_region 1 with fail
  have hT := Blk4.new w (.int .i64 t.k) (.int .i64 t.n) (.string t.s) (.slice t.p t.l.length t.c)
  have gA : Gr w (w.alloc (.cells #[.int .i64 t.k, .int .i64 t.n, .string t.s, .slice t.p t.l.length t.c] 24)) := by go_grown
  generalize w.alloc (.cells #[.int .i64 t.k, .int .i64 t.n, .string t.s, .slice t.p t.l.length t.c] 24) = wA at *
  generalize w.heap.size = T0 at hT
  obtain ⟨⟨t0, t1, t2, t3⟩, _, _⟩ := hT.parts
  have HT := Lib.hid hT
  clear hT
  have hap := apply_calls t p c s wA (Tm.In_below gA HI.out) (HS.out.mono gA)
  rw [Htv.out] at hap
  have Hap := Lib.hid hap
  clear hap
  go_wp2_with fail
  refine Hap.out.mono ?_
  rintro e w1 ⟨x, rfl, xin, xe, g1, -⟩
  have Hxv := Lib.hid (show x.val = .agg #[.int .i64 x.k, .int .i64 x.n, .string x.s, .slice x.p x.l.length x.c] from rfl)
  rw [Hxv.out]
  clear t0 t1 t2 t3
  go_upto_region 2 with fail
  have hX := Blk4.new w1 (.int .i64 x.k) (.int .i64 x.n) (.string x.s) (.slice x.p x.l.length x.c)
  have gB : Gr w1 (w1.alloc (.cells #[.int .i64 x.k, .int .i64 x.n, .string x.s, .slice x.p x.l.length x.c] 24)) := by go_grown
  have gwB : Gr w (w1.alloc (.cells #[.int .i64 x.k, .int .i64 x.n, .string x.s, .slice x.p x.l.length x.c] 24)) := (gA.trans g1).trans gB
  have Hxin := Lib.hid (Tm.In_below gB xin)
  have HTB := Lib.hid (HT.out.gr (g1.trans gB))
  generalize w1.alloc (.cells #[.int .i64 x.k, .int .i64 x.n, .string x.s, .slice x.p x.l.length x.c] 24) = wB at *
  generalize w1.heap.size = X0 at *
  have HX := Lib.hid hX
  clear hX xin gB g1
  have Hco := Lib.hid (compose_calls p q c d s u wB (HS.out.mono gwB) (HU.out.mono gwB))
  go_wp2_with fail
  refine Hco.out.mono ?_
  rintro e w2 ⟨p2, c2, l2, rfl, in2, g2, z2, y2⟩
  have Z2 := Lib.hid z2
  have Y2 := Lib.hid y2
  have gw2 : Gr w w2 := gwB.trans g2
  have In2 := Lib.hid in2
  have Hx2 := Lib.hid (Tm.In_below g2 Hxin.out)
  have HT2 := Lib.hid (HTB.out.gr g2)
  have HX2 := Lib.hid (HX.out.gr g2)
  clear z2 y2 in2 g2 Hxin HTB HX gwB
  have hbs := fun w' (g : Gr w2 w') => rbindsF_calls p c s w' (HS.out.mono (gw2.trans g))
  have hbu := fun w' (g : Gr w2 w') => rbindsF_calls q d u w' (HU.out.mono (gw2.trans g))
  have HEa : Hid (applyErr t.erase s = if t.erase.formed = true then bindsErr s else 2) := rfl
  have HEc : Hid (compErr s u = if bindsErr s = 2 ∨ bindsErr u = 2 then 2 else if bindsErr s ≠ 0 ∨ bindsErr u ≠ 0 then 1 else 0) := rfl
  have hca := bindsErr_cases3 s
  have hcb := bindsErr_cases3 u
  generalize heb : bindsErr s = a at *
  generalize hec : bindsErr u = b at *
  have Heb := Lib.hid heb
  have Hec := Lib.hid hec
  have Hbs := Lib.hid hbs
  have Hbu := Lib.hid hbu
  have Hca := Lib.hid hca
  have Hcb := Lib.hid hcb
  clear hbs hbu heb hec hca hcb
  have hfm := fun w' (g : Gr w2 w') => rformed_calls (t := t) (Tm.In_below (gw2.trans g) HI.out)
  rw [Htv.out] at hfm
  generalize hf : t.erase.formed = f at *
  have Hf := Lib.hid hf
  have Hfm := Lib.hid hfm
  clear hf hfm
  generalize hE : applyErr t.erase s = E at *
  generalize hF : compErr s u = F at *
  have HE := Lib.hid hE
  have HF := Lib.hid hF
  clear hE hF
  go_upto_region 3 with fail
  go_wp2_with fail
  refine (Hbs.out w2 (Gr.rfl' _)).mono ?_
  rintro e w3 ⟨rfl, g3⟩
  replace g3 : Gr w2 w3 := g3
  obtain ⟨⟨t0, t1, t2, t3⟩, _, _⟩ := (HT2.out.gr g3).parts
  go_wp2_with fail
  refine (Hfm.out w3 g3).mono ?_
  rintro e w4 ⟨rfl, g4⟩
  replace g4 : Gr w2 w4 := Gr.trans g3 g4
  clear t0 t1 t2 t3 g3
  go_upto_if 30 with fail
  go_cut [11] from 30 to 30 (fun e wx => e = .int .i64 E ∧ wx = w4)
  case first =>
    cases f with
    | true =>
      go_wp2_with fail
      go_meet
      exact ⟨by simp [HEa.out], rfl⟩
    | false =>
      go_wp2_with fail
      go_meet
      exact ⟨by simp [HEa.out], rfl⟩
  obtain ⟨rfl, rfl⟩ := hcut
  go_upto_region 6 with fail
  have Hx4 := Lib.hid (Tm.In_below g4 Hx2.out)
  obtain ⟨⟨t0, t1, t2, t3⟩, _, _⟩ := (HT2.out.gr g4).parts
  obtain ⟨⟨x0, x1, x2, x3⟩, _, _⟩ := (HX2.out.gr g4).parts
  go_cut [54] from 31 to 54 (fun v wx => v = .bool false ∧ Gr w2 wx)
  case first =>
    by_cases hE0 : E = 0
    · subst hE0
      have hx : x.erase = T.map (lookupT s) t.erase := by rw [xe, if_pos rfl]
      have Hxe := Lib.hid hx
      have hft : f = true := by
        cases f with
        | true => rfl
        | false => have := HEa.out; rw [if_neg (by decide)] at this; cases this
      have Hft := Lib.hid (Hf.out.trans hft)
      clear hx hft xe
      refine wp_region_rely [fx (.int .i64 0), fx (.int .i64 0), fx (.bool false), fx (.bool false), fx (.int .i64 0), fx (.bool true), fx (.bool true), fx x.val, fx t.val, fx (.slice p s.length c), tmIs (fun _ => True) (T.map (lookupT s) t.erase), fx (.bool true), fx (.bool false), fx (.bool false), fx (.bool false), fx (.bool false), fx (.int .i64 0), fx (.bool false), fx (.bool false), fx undef, fx undef, fx undef, fx (.bool false), fx (.bool false)]
        (by kernel_rfl) (by kernel_rfl) (by repeat (first | exact Stable.nil | refine Stable.fix ?_ | refine Stable.cons tmIs_stable ?_)) ?_ ?_
      · refine ⟨?_, ?_, ?_, ?_, ?_, ?_, ?_, ?_, ?_, ?_, ?a10, ?a11, ?_, ?_, ?_, ?_, ?_, ?_, ?_, ?a19, ?a20, ?a21, ?_, ?_, trivial⟩
        case a11 =>
          intro a wz hg hold
          have h1 : a.tmps[1]?.getD undef = .slice p s.length c := hold 1 rfl
          have h3 : a.tmps[3]?.getD undef = .pointer (some ⟨T0, 0, none⟩) := hold 3 rfl
          have h7 : a.tmps[7]?.getD undef = .pointer (some ⟨X0, 0, none⟩) := hold 7 rfl
          have h8 : a.tmps[8]?.getD undef = .int .i64 0 := hold 8 rfl
          have h11 : a.tmps[11]?.getD undef = .int .i64 0 := hold 11 rfl
          have z0 := Gr.at hg t0
          have z1 := Gr.at hg t1
          have z2 := Gr.at hg t2
          have z3 := Gr.at hg t3
          have z4 := Gr.at hg x0
          have z5 := Gr.at hg x1
          have z6 := Gr.at hg x2
          have z7 := Gr.at hg x3
          have Hg := Lib.hid hg
          clear hold t0 t1 t2 t3 x0 x1 x2 x3
          simp [predsImp, Region.binds, dstAt, fx, wantedE, Act.eval]
          intros
          obtain ⟨bm, hbm, i1, i2, i3⟩ := ‹tmIs _ _ _ _›
          go_simp
          intro K hK
          have hs := same_calls (t := x) (u := bm) (Tm.In_below Hg.out Hx4.out) i1
          rw [Hxe.out, i2, (same_iff _ _).2 rfl] at hs
          refine hs.mono ?_
          rintro e w9 ⟨rfl, ib⟩
          exact hK _ _ rfl ib
        case a19 =>
          intro a wz hg hold
          have h1 : a.tmps[1]?.getD undef = .slice p s.length c := hold 1 rfl
          have h3 : a.tmps[3]?.getD undef = .pointer (some ⟨T0, 0, none⟩) := hold 3 rfl
          have h7 : a.tmps[7]?.getD undef = .pointer (some ⟨X0, 0, none⟩) := hold 7 rfl
          have h8 : a.tmps[8]?.getD undef = .int .i64 0 := hold 8 rfl
          have h11 : a.tmps[11]?.getD undef = .int .i64 0 := hold 11 rfl
          have z0 := Gr.at hg t0
          have z1 := Gr.at hg t1
          have z2 := Gr.at hg t2
          have z3 := Gr.at hg t3
          have z4 := Gr.at hg x0
          have z5 := Gr.at hg x1
          have z6 := Gr.at hg x2
          have z7 := Gr.at hg x3
          have Hg := Lib.hid hg
          clear hold t0 t1 t2 t3 x0 x1 x2 x3
          simp [predsImp, Region.binds, dstAt, fx, wantedE, Act.eval]
          intros
          exfalso
          simp_all
        case a20 =>
          intro a wz hg hold
          have h1 : a.tmps[1]?.getD undef = .slice p s.length c := hold 1 rfl
          have h3 : a.tmps[3]?.getD undef = .pointer (some ⟨T0, 0, none⟩) := hold 3 rfl
          have h7 : a.tmps[7]?.getD undef = .pointer (some ⟨X0, 0, none⟩) := hold 7 rfl
          have h8 : a.tmps[8]?.getD undef = .int .i64 0 := hold 8 rfl
          have h11 : a.tmps[11]?.getD undef = .int .i64 0 := hold 11 rfl
          have z0 := Gr.at hg t0
          have z1 := Gr.at hg t1
          have z2 := Gr.at hg t2
          have z3 := Gr.at hg t3
          have z4 := Gr.at hg x0
          have z5 := Gr.at hg x1
          have z6 := Gr.at hg x2
          have z7 := Gr.at hg x3
          have Hg := Lib.hid hg
          clear hold t0 t1 t2 t3 x0 x1 x2 x3
          simp [predsImp, Region.binds, dstAt, fx, wantedE, Act.eval]
          intros
          exfalso
          simp_all
        case a21 =>
          intro a wz hg hold
          have h1 : a.tmps[1]?.getD undef = .slice p s.length c := hold 1 rfl
          have h3 : a.tmps[3]?.getD undef = .pointer (some ⟨T0, 0, none⟩) := hold 3 rfl
          have h7 : a.tmps[7]?.getD undef = .pointer (some ⟨X0, 0, none⟩) := hold 7 rfl
          have h8 : a.tmps[8]?.getD undef = .int .i64 0 := hold 8 rfl
          have h11 : a.tmps[11]?.getD undef = .int .i64 0 := hold 11 rfl
          have z0 := Gr.at hg t0
          have z1 := Gr.at hg t1
          have z2 := Gr.at hg t2
          have z3 := Gr.at hg t3
          have z4 := Gr.at hg x0
          have z5 := Gr.at hg x1
          have z6 := Gr.at hg x2
          have z7 := Gr.at hg x3
          have Hg := Lib.hid hg
          clear hold t0 t1 t2 t3 x0 x1 x2 x3
          simp [predsImp, Region.binds, dstAt, fx, wantedE, Act.eval]
          intros
          exfalso
          simp_all
        all_goals
          intro a wz hg hold
          have h1 : a.tmps[1]?.getD undef = .slice p s.length c := hold 1 rfl
          have h3 : a.tmps[3]?.getD undef = .pointer (some ⟨T0, 0, none⟩) := hold 3 rfl
          have h7 : a.tmps[7]?.getD undef = .pointer (some ⟨X0, 0, none⟩) := hold 7 rfl
          have h8 : a.tmps[8]?.getD undef = .int .i64 0 := hold 8 rfl
          have h11 : a.tmps[11]?.getD undef = .int .i64 0 := hold 11 rfl
          have z0 := Gr.at hg t0
          have z1 := Gr.at hg t1
          have z2 := Gr.at hg t2
          have z3 := Gr.at hg t3
          have z4 := Gr.at hg x0
          have z5 := Gr.at hg x1
          have z6 := Gr.at hg x2
          have z7 := Gr.at hg x3
          have Hg := Lib.hid hg
          clear hold t0 t1 t2 t3 x0 x1 x2 x3
          simp [predsImp, Region.binds, dstAt, fx, wantedE, Act.eval]
          intros
          first
            | (rw [if_pos (by simp [*])]
               intro K hK)
            | (rename_i K hK)
          go_simp
        case a10 =>
          have hra := rapply_calls (t := t) (x := ⟨p, c, s⟩) (Tm.In_below (gw2.trans (g4.trans Hg.out)) HI.out) Hft.out (HS.out.mono (gw2.trans (g4.trans Hg.out)))
          rw [Htv.out] at hra
          simp only [Bds.val] at hra
          refine hra.mono ?_
          rintro e w9 ⟨bm, i1, i2, rfl, ib, i3⟩
          exact hK _ _ ⟨bm, rfl, i1, i2, i3⟩ ib
        all_goals exact hK _ _ rfl (Gr.rfl' _)
      · intro w9 hg
        rintro _ rfl _ rfl _ rfl _ rfl _ rfl _ rfl _ rfl _ rfl _ rfl _ rfl _ - _ rfl _ rfl _ rfl _ rfl _ rfl _ rfl _ rfl _ rfl _ rfl _ rfl _ rfl _ rfl _ rfl
        simp only [finAll, Act.put, Exit.then, List.setIfInBounds_toArray, List.set_cons_succ, List.set_cons_zero]
        go_wp2_with fail
        go_meet
        exact ⟨rfl, g4.trans hg⟩
    · have hx : x.erase = zeroT := by rw [xe, if_neg hE0]
      have Hxe := Lib.hid hx
      clear hx xe
      have hEb : (E == 0) = false := by simpa using hE0
      have hEb2 : (E != 0) = true := by simpa using hE0
      refine wp_region_rely [fx (.int .i64 E), fx (.int .i64 E), fx (.bool false), fx (.bool false), fx (.int .i64 E), fx (.bool false), fx (.bool false), fx undef, fx undef, fx undef, fx undef, fx undef, fx undef, fx (.bool false), fx (.bool false), fx (.bool false), fx (.int .i64 E), fx (.bool true), fx (.bool true), fx x.val, fx (.bool true), fx (.bool false), fx (.bool false), fx (.bool false)]
        (by kernel_rfl) (by kernel_rfl) (by repeat (first | exact Stable.nil | refine Stable.fix ?_)) ?_ ?_
      · refine ⟨?_, ?_, ?_, ?_, ?_, ?_, ?_, ?a7, ?a8, ?a9, ?a10, ?a11, ?a12, ?_, ?_, ?_, ?_, ?_, ?_, ?_, ?a20, ?_, ?_, ?_, trivial⟩
        case a7 =>
          intro a wz hg hold
          have h1 : a.tmps[1]?.getD undef = .slice p s.length c := hold 1 rfl
          have h3 : a.tmps[3]?.getD undef = .pointer (some ⟨T0, 0, none⟩) := hold 3 rfl
          have h7 : a.tmps[7]?.getD undef = .pointer (some ⟨X0, 0, none⟩) := hold 7 rfl
          have h8 : a.tmps[8]?.getD undef = .int .i64 E := hold 8 rfl
          have h11 : a.tmps[11]?.getD undef = .int .i64 E := hold 11 rfl
          have z0 := Gr.at hg t0
          have z1 := Gr.at hg t1
          have z2 := Gr.at hg t2
          have z3 := Gr.at hg t3
          have z4 := Gr.at hg x0
          have z5 := Gr.at hg x1
          have z6 := Gr.at hg x2
          have z7 := Gr.at hg x3
          have Hg := Lib.hid hg
          clear hold t0 t1 t2 t3 x0 x1 x2 x3
          simp [predsImp, Region.binds, dstAt, fx, wantedE, Act.eval]
          intros
          exfalso
          simp_all
        case a8 =>
          intro a wz hg hold
          have h1 : a.tmps[1]?.getD undef = .slice p s.length c := hold 1 rfl
          have h3 : a.tmps[3]?.getD undef = .pointer (some ⟨T0, 0, none⟩) := hold 3 rfl
          have h7 : a.tmps[7]?.getD undef = .pointer (some ⟨X0, 0, none⟩) := hold 7 rfl
          have h8 : a.tmps[8]?.getD undef = .int .i64 E := hold 8 rfl
          have h11 : a.tmps[11]?.getD undef = .int .i64 E := hold 11 rfl
          have z0 := Gr.at hg t0
          have z1 := Gr.at hg t1
          have z2 := Gr.at hg t2
          have z3 := Gr.at hg t3
          have z4 := Gr.at hg x0
          have z5 := Gr.at hg x1
          have z6 := Gr.at hg x2
          have z7 := Gr.at hg x3
          have Hg := Lib.hid hg
          clear hold t0 t1 t2 t3 x0 x1 x2 x3
          simp [predsImp, Region.binds, dstAt, fx, wantedE, Act.eval]
          intros
          exfalso
          simp_all
        case a9 =>
          intro a wz hg hold
          have h1 : a.tmps[1]?.getD undef = .slice p s.length c := hold 1 rfl
          have h3 : a.tmps[3]?.getD undef = .pointer (some ⟨T0, 0, none⟩) := hold 3 rfl
          have h7 : a.tmps[7]?.getD undef = .pointer (some ⟨X0, 0, none⟩) := hold 7 rfl
          have h8 : a.tmps[8]?.getD undef = .int .i64 E := hold 8 rfl
          have h11 : a.tmps[11]?.getD undef = .int .i64 E := hold 11 rfl
          have z0 := Gr.at hg t0
          have z1 := Gr.at hg t1
          have z2 := Gr.at hg t2
          have z3 := Gr.at hg t3
          have z4 := Gr.at hg x0
          have z5 := Gr.at hg x1
          have z6 := Gr.at hg x2
          have z7 := Gr.at hg x3
          have Hg := Lib.hid hg
          clear hold t0 t1 t2 t3 x0 x1 x2 x3
          simp [predsImp, Region.binds, dstAt, fx, wantedE, Act.eval]
          intros
          exfalso
          simp_all
        case a10 =>
          intro a wz hg hold
          have h1 : a.tmps[1]?.getD undef = .slice p s.length c := hold 1 rfl
          have h3 : a.tmps[3]?.getD undef = .pointer (some ⟨T0, 0, none⟩) := hold 3 rfl
          have h7 : a.tmps[7]?.getD undef = .pointer (some ⟨X0, 0, none⟩) := hold 7 rfl
          have h8 : a.tmps[8]?.getD undef = .int .i64 E := hold 8 rfl
          have h11 : a.tmps[11]?.getD undef = .int .i64 E := hold 11 rfl
          have z0 := Gr.at hg t0
          have z1 := Gr.at hg t1
          have z2 := Gr.at hg t2
          have z3 := Gr.at hg t3
          have z4 := Gr.at hg x0
          have z5 := Gr.at hg x1
          have z6 := Gr.at hg x2
          have z7 := Gr.at hg x3
          have Hg := Lib.hid hg
          clear hold t0 t1 t2 t3 x0 x1 x2 x3
          simp [predsImp, Region.binds, dstAt, fx, wantedE, Act.eval]
          intros
          exfalso
          simp_all
        case a11 =>
          intro a wz hg hold
          have h1 : a.tmps[1]?.getD undef = .slice p s.length c := hold 1 rfl
          have h3 : a.tmps[3]?.getD undef = .pointer (some ⟨T0, 0, none⟩) := hold 3 rfl
          have h7 : a.tmps[7]?.getD undef = .pointer (some ⟨X0, 0, none⟩) := hold 7 rfl
          have h8 : a.tmps[8]?.getD undef = .int .i64 E := hold 8 rfl
          have h11 : a.tmps[11]?.getD undef = .int .i64 E := hold 11 rfl
          have z0 := Gr.at hg t0
          have z1 := Gr.at hg t1
          have z2 := Gr.at hg t2
          have z3 := Gr.at hg t3
          have z4 := Gr.at hg x0
          have z5 := Gr.at hg x1
          have z6 := Gr.at hg x2
          have z7 := Gr.at hg x3
          have Hg := Lib.hid hg
          clear hold t0 t1 t2 t3 x0 x1 x2 x3
          simp [predsImp, Region.binds, dstAt, fx, wantedE, Act.eval]
          intros
          exfalso
          simp_all
        case a12 =>
          intro a wz hg hold
          have h1 : a.tmps[1]?.getD undef = .slice p s.length c := hold 1 rfl
          have h3 : a.tmps[3]?.getD undef = .pointer (some ⟨T0, 0, none⟩) := hold 3 rfl
          have h7 : a.tmps[7]?.getD undef = .pointer (some ⟨X0, 0, none⟩) := hold 7 rfl
          have h8 : a.tmps[8]?.getD undef = .int .i64 E := hold 8 rfl
          have h11 : a.tmps[11]?.getD undef = .int .i64 E := hold 11 rfl
          have z0 := Gr.at hg t0
          have z1 := Gr.at hg t1
          have z2 := Gr.at hg t2
          have z3 := Gr.at hg t3
          have z4 := Gr.at hg x0
          have z5 := Gr.at hg x1
          have z6 := Gr.at hg x2
          have z7 := Gr.at hg x3
          have Hg := Lib.hid hg
          clear hold t0 t1 t2 t3 x0 x1 x2 x3
          simp [predsImp, Region.binds, dstAt, fx, wantedE, Act.eval]
          intros
          exfalso
          simp_all
        all_goals
          intro a wz hg hold
          have h1 : a.tmps[1]?.getD undef = .slice p s.length c := hold 1 rfl
          have h3 : a.tmps[3]?.getD undef = .pointer (some ⟨T0, 0, none⟩) := hold 3 rfl
          have h7 : a.tmps[7]?.getD undef = .pointer (some ⟨X0, 0, none⟩) := hold 7 rfl
          have h8 : a.tmps[8]?.getD undef = .int .i64 E := hold 8 rfl
          have h11 : a.tmps[11]?.getD undef = .int .i64 E := hold 11 rfl
          have z0 := Gr.at hg t0
          have z1 := Gr.at hg t1
          have z2 := Gr.at hg t2
          have z3 := Gr.at hg t3
          have z4 := Gr.at hg x0
          have z5 := Gr.at hg x1
          have z6 := Gr.at hg x2
          have z7 := Gr.at hg x3
          have Hg := Lib.hid hg
          clear hold t0 t1 t2 t3 x0 x1 x2 x3
          simp [predsImp, Region.binds, dstAt, fx, wantedE, Act.eval]
          intros
          first
            | (rw [if_pos (by simp [*])]
               intro K hK)
            | (rename_i K hK)
          go_simp
        case a20 =>
          have hno := none_calls (t := x) Hxe.out wz
          rw [Hxv.out] at hno
          refine hno.mono ?_
          rintro e w9 ⟨rfl, ib⟩
          exact hK _ _ rfl ib
        all_goals exact hK _ _ rfl (Gr.rfl' _)
      · intro w9 hg
        rintro _ rfl _ rfl _ rfl _ rfl _ rfl _ rfl _ rfl _ rfl _ rfl _ rfl _ rfl _ rfl _ rfl _ rfl _ rfl _ rfl _ rfl _ rfl _ rfl _ rfl _ rfl _ rfl _ rfl _ rfl
        simp only [finAll, Act.put, Exit.then, List.setIfInBounds_toArray, List.set_cons_succ, List.set_cons_zero]
        go_wp2_with fail
        go_meet
        exact ⟨rfl, g4.trans hg⟩
  obtain ⟨rfl, g5⟩ := hcut
  have gw5 : Gr w wc := gw2.trans g5
  go_wp2_with fail
  refine (Hbs.out _ g5).mono ?_
  rintro e w6 ⟨rfl, g6⟩
  replace g6 : Gr w2 w6 := Gr.trans g5 g6
  go_wp2_with fail
  refine (Hbu.out _ g6).mono ?_
  rintro e w7 ⟨rfl, g7⟩
  replace g7 : Gr w2 w7 := Gr.trans g6 g7
  have gw7 : Gr w w7 := gw2.trans g7
  go_upto_region 9 with fail
  rcases Hca.out with rfl | rfl | rfl <;> rcases Hcb.out with rfl | rfl | rfl
  case inl.inl =>
    have hF0 : F = 0 := HEc.out.trans (by decide)
    subst hF0
    have Hrc := Lib.hid (rcompose_calls p q c d s u w7 (HS.out.mono gw7) (HU.out.mono gw7) Heb.out Hec.out)
    have Hl := Lib.hid (Y2.out rfl)
    go_wp2_with fail
    refine Hrc.out.mono ?_
    rintro e w8 ⟨p8, c8, l8, rfl, in8, is8, g8⟩
    have Hsb := Lib.hid (sameBinds_calls p2 p8 c2 c8 l2 l8 w8 (In2.out.mono (g7.trans g8)) in8 (IsBinds.uniq Hl.out is8))
    clear in8 is8
    go_wp2_with fail
    refine Hsb.out.mono ?_
    rintro e w9 ⟨rfl, g9⟩
    go_wp2_with fail
    exact hR.out _ rfl _ ((gw7.trans g8).trans g9)
  all_goals
    first
      | (have hF0 : F = 2 := HEc.out.trans (by decide)
         subst hF0)
      | (have hF0 : F = 1 := HEc.out.trans (by decide)
         subst hF0)
    have hl0 := Z2.out (by decide)
    subst hl0
    simp only [List.length_nil]
    go_wp2_with fail
    exact hR.out _ rfl _ gw7
end Go.Proofs.Yteonakicoomjkaa
