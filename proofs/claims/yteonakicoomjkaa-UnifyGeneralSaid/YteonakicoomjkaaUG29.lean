/-
  hornkeep.UnifyGeneral: the walk.
-/
import Derived.Test.YteonakicoomjkaaUG28
namespace Go.Proofs.Yteonakicoomjkaa
open Go.RowKit Go.Maps Go.Lib

theorem RetSolve.ok {l : List Pr} {w w' : World} {e : Ending} (ha : allP l = true) (h : RetSolve l w e w') :
    ∃ ps cs s E, e = .returned (.tuple #[.slice ps (List.length s) cs, .int .i64 E]) ∧ (Bds.mk ps cs s).In w' ∧ Gr w w' ∧ ((E = 3 ∧ ∀ θ, ¬ Unif θ (seePrs l)) ∨ (E = 0 ∧ ∃ ρ, ListOf ρ s ∧ Canon ρ ∧ Holds (seePrs l) ρ)) := by
  obtain ⟨hg, ⟨hb, _⟩ | ⟨_, ⟨rfl, hn⟩ | ⟨ρ, p, c, s, rfl, h1, h2, h3, h4⟩⟩⟩ := h
  · rw [ha] at hb; cases hb
  · exact ⟨none, 0, [], 3, rfl, ⟨Nat.le_refl _, ⟨by simp, by simp⟩, .inl rfl, fun y hy => nomatch hy⟩, hg, .inl ⟨rfl, hn⟩⟩
  · exact ⟨p, c, s, 0, rfl, h1, hg, .inr ⟨rfl, ρ, h2, h3, h4⟩⟩

set_option maxHeartbeats 8000000 in
set_option maxRecDepth 100000 in
theorem unifyGeneral_walk (x : Prs) (xu : Bds) (w : World) (h : x.In w) (hu : xu.In w) : Calls Try.prog 8 #[x.val, xu.val] w (Ret (.bool true) w) := by
  obtain ⟨p, c, l⟩ := x
  obtain ⟨q, d, u⟩ := xu
  have HP := Lib.hid h
  have HU := Lib.hid hu
  have hll := h.2.1.1
  simp only at hll
  have Hfits := Lib.hid (fun w' (g : Gr w w') => fitsPairs_calls p c l w' (h.mono g))
  have Hsolve := Lib.hid (fun w' (g : Gr w w') => solve_calls p c l w' (h.mono g))
  have Hbinds := Lib.hid (fun w' (g : Gr w w') => rbindsF_calls q d u w' (hu.mono g))
  have hR : Hid (∀ b w', true = b → Gr w w' → Ret (.bool true) w (.returned (.bool b)) w') := fun b w' h1 h2 => ⟨by rw [h1], h2⟩
  generalize Ret (.bool true) w = Q at hR ⊢
  have HR := hR
  clear h hu hR
  rw [show (Prs.mk p c l).val = .slice p l.length c from rfl, show (Bds.mk q d u).val = .slice q u.length d from rfl]
  go_enter Try.func8, Try.ntmps8
  try simp only [List.append_eq, List.cons_append, List.nil_append]
  go_wp2_with fail
  go_loopg [5] l.length (fun m i wr => ∃ k : Nat, k ≤ l.length ∧ m = l.length - k ∧ i = .int .i64 k ∧ Hid (∀ (j : Nat) (h : j < l.length), j < k → l[j].a.erase.formed = true ∧ l[j].b.erase.formed = true) ∧ Gr w wr)
  case atStart => exact ⟨0, Nat.zero_le _, rfl, rfl, fun j _ h => absurd h (Nat.not_lt_zero j), Gr.rfl' _⟩
  case round =>
    obtain ⟨k, hk, rfl, rfl, hpre, gr⟩ := hrel
    by_cases hlt : k < l.length
    · obtain ⟨b, o, rfl⟩ := HP.out.ptr (by omega)
      obtain ⟨⟨⟨c0, c1, c2, c3⟩, ⟨d0, d1, d2, d3⟩⟩, ⟨hia, hib⟩, hbl⟩ := (HP.out.mono gr).elem k hlt
      have Hia := Lib.hid hia
      have Hib := Lib.hid hib
      have Hok : Hid (l[k].a.erase.formed = true → l[k].b.erase.formed = true → ∀ (j : Nat) (h : j < l.length), j < k + 1 → l[j].a.erase.formed = true ∧ l[j].b.erase.formed = true) := fun h1 h2 j h hj => by
        rcases Nat.lt_or_ge j k with h3 | h3
        · exact hpre.out j h h3
        · obtain rfl : j = k := by omega
          exact ⟨h1, h2⟩
      clear hia hib
      generalize l[k] = y at *
      have hfa := fun w' (g : Gr wr w') => rformed_calls (t := y.a) (w := w') (Tm.In_below g Hia.out)
      have hfb := fun w' (g : Gr wr w') => rformed_calls (t := y.b) (w := w') (Tm.In_below g Hib.out)
      rw [show y.a.val = .agg #[.int .i64 y.a.k, .int .i64 y.a.n, .string y.a.s, .slice y.a.p y.a.l.length y.a.c] from rfl] at hfa
      rw [show y.b.val = .agg #[.int .i64 y.b.k, .int .i64 y.b.n, .string y.b.s, .slice y.b.p y.b.l.length y.b.c] from rfl] at hfb
      generalize y.a.erase.formed = fa at *
      generalize y.b.erase.formed = fb at *
      have Hfa := Lib.hid hfa
      have Hfb := Lib.hid hfb
      clear hfa hfb
      go_wp2_with fail
      refine (Hfa.out wr (Gr.rfl' _)).mono ?_
      rintro e w1 ⟨rfl, hg1⟩
      replace hg1 : Gr wr w1 := hg1
      have dd0 := Gr.at hg1 d0
      have dd1 := Gr.at hg1 d1
      have dd2 := Gr.at hg1 d2
      have dd3 := Gr.at hg1 d3
      clear c0 c1 c2 c3 d0 d1 d2 d3
      cases fa with
      | false =>
        go_wp2_with fail
        exact HR.out _ _ rfl (gr.trans hg1)
      | true =>
        go_wp2_with fail
        refine (Hfb.out w1 hg1).mono ?_
        rintro e w2 ⟨rfl, hg2⟩
        replace hg2 : Gr w1 w2 := hg2
        clear dd0 dd1 dd2 dd3
        have g2 : Gr w w2 := gr.trans (hg1.trans hg2)
        cases fb with
        | false =>
          go_wp2_with fail
          exact HR.out _ _ rfl g2
        | true =>
          have Hn := Lib.hid (Hok.out (by trivial) (by trivial))
          go_wp2_with fail
          go_roundg (l.length - (k + 1))
          case measure => omega
          case rel => exact ⟨k + 1, by omega, rfl, by go_num, Hn, g2⟩
    · obtain rfl : k = l.length := by omega
      have HA : Hid (allP l = true) := allP_of fun j h hj => hpre.out j h hj
      clear hpre hlt hk
      have hz : bindsErr u = 0 → (u.all fun y => y.t.erase.formed) = true ∧ ascB (-1) u = true := bindsErr_zero
      generalize bindsErr u = E at *
      have Hz := Lib.hid hz
      clear hz
      go_wp2_with fail
      refine (Hbinds.out wr gr).mono ?_
      rintro e w1 ⟨rfl, g1⟩
      replace g1 : Gr w w1 := gr.trans g1
      by_cases hE : E = 0
      · subst hE
        have hz2 := Hz.out rfl
        have Hu := Lib.hid hz2
        clear hz2
        go_wp2_with fail
        refine (Hfits.out w1 g1).mono ?_
        rintro e w2 ⟨b, rfl, hfit, g2⟩
        clear hfit
        replace g2 : Gr w w2 := g1.trans g2
        cases b with
        | false =>
          go_wp2_with fail
          exact HR.out _ _ rfl g2
        | true =>
          go_wp2_with fail
          refine (Hsolve.out w2 g2).mono ?_
          intro e w3 hs
          obtain ⟨ps, cs, s, E2, rfl, ins, g3, hs2⟩ := hs.ok HA.out
          replace g3 : Gr w w3 := g2.trans g3
          have Ins := Lib.hid ins
          have Hs2 := Lib.hid hs2
          have hsl := ins.2.1.1
          simp only at hsl
          clear ins hs hs2 g1 g2 gr Hsolve Hfits Hbinds Hz
          go_wp2_with fail
          go_loopg [8, 9] l.length (fun m v i wr => ∃ (k : Nat) (U : Bool), v = .bool U ∧ k ≤ l.length ∧ m = l.length - k ∧ i = .int .i64 k ∧ Hid (U = true ↔ ∀ (j : Nat) (h : j < l.length), j < k → T.map (lookupT u) l[j].a.erase = T.map (lookupT u) l[j].b.erase) ∧ Gr w3 wr)
          case atStart => exact ⟨0, true, rfl, Nat.zero_le _, rfl, rfl, ⟨fun _ j _ h => absurd h (Nat.not_lt_zero j), fun _ => rfl⟩, Gr.rfl' _⟩
          case round =>
            obtain ⟨k, U, rfl, hk, rfl, rfl, hpre, gr⟩ := hrel
            by_cases hlt : k < l.length
            · obtain ⟨b, o, rfl⟩ := HP.out.ptr (by omega)
              obtain ⟨⟨⟨c0, c1, c2, c3⟩, ⟨d0, d1, d2, d3⟩⟩, ⟨hia, hib⟩, hbl⟩ := (HP.out.mono (g3.trans gr)).elem k hlt
              have Hia := Lib.hid hia
              have Hib := Lib.hid hib
              have hfm := allP_at HA.out hlt
              have Hfm := Lib.hid hfm
              have Hstep : Hid (∀ U2 : Bool, (U2 = true ↔ U = true ∧ T.map (lookupT u) l[k].a.erase = T.map (lookupT u) l[k].b.erase) → (U2 = true ↔ ∀ (j : Nat) (h : j < l.length), j < k + 1 → T.map (lookupT u) l[j].a.erase = T.map (lookupT u) l[j].b.erase)) := fun U2 h2 => by
                rw [h2, hpre.out]
                constructor
                · rintro ⟨h3, h4⟩ j h hj
                  rcases Nat.lt_or_ge j k with h5 | h5
                  · exact h3 j h h5
                  · obtain rfl : j = k := by omega
                    exact h4
                · intro h3
                  exact ⟨fun j h hj => h3 j h (by omega), h3 k hlt (by omega)⟩
              clear hia hib hfm hpre
              generalize l[k] = y at *
              have hap := fun w' (g : Gr wr w') (t : Tm) (ht : t.In wr) (hf : t.erase.formed = true) => rapply_calls (t := t) (x := ⟨q, d, u⟩) (w := w') (Tm.In_below g ht) hf (HU.out.mono ((g3.trans gr).trans g))
              have Hap := Lib.hid hap
              clear hap
              cases U with
              | false =>
                go_upto_region 13 with fail

                refine wp_region_rely_tail 18 [fx (.bool false), fx (.bool false), fx undef, fx undef, fx undef, fx undef, fx undef, fx undef, fx undef, fx undef, fx undef, fx undef, fx undef, fx undef, fx undef, fx undef, fx undef, fx (.bool false)]
                  (by kernel_rfl) (by kernel_rfl) (by decide) (by repeat (first | exact Stable.nil | refine Stable.fix ?_)) ?_ ?_
                · refine ⟨?_, ?_, ?a2, ?a3, ?a4, ?a5, ?a6, ?a7, ?a8, ?a9, ?a10, ?a11, ?a12, ?a13, ?a14, ?a15, ?a16, ?_, trivial⟩
                  case a2 => exact stepOK_skip 1 true 58 rfl rfl rfl ⟨⟨1, Ground.guard⟩, by simp, rfl, rfl⟩
                  case a3 => exact stepOK_skip 1 true 58 rfl rfl rfl ⟨⟨1, Ground.guard⟩, by simp, rfl, rfl⟩
                  case a4 => exact stepOK_skip 1 true 58 rfl rfl rfl ⟨⟨1, Ground.guard⟩, by simp, rfl, rfl⟩
                  case a5 => exact stepOK_skip 1 true 58 rfl rfl rfl ⟨⟨1, Ground.guard⟩, by simp, rfl, rfl⟩
                  case a6 => exact stepOK_skip 1 true 58 rfl rfl rfl ⟨⟨1, Ground.guard⟩, by simp, rfl, rfl⟩
                  case a7 => exact stepOK_skip 1 true 58 rfl rfl rfl ⟨⟨1, Ground.guard⟩, by simp, rfl, rfl⟩
                  case a8 => exact stepOK_skip 1 true 58 rfl rfl rfl ⟨⟨1, Ground.guard⟩, by simp, rfl, rfl⟩
                  case a9 => exact stepOK_skip 1 true 58 rfl rfl rfl ⟨⟨1, Ground.guard⟩, by simp, rfl, rfl⟩
                  case a10 => exact stepOK_skip 1 true 58 rfl rfl rfl ⟨⟨1, Ground.guard⟩, by simp, rfl, rfl⟩
                  case a11 => exact stepOK_skip 1 true 58 rfl rfl rfl ⟨⟨1, Ground.guard⟩, by simp, rfl, rfl⟩
                  case a12 => exact stepOK_skip 1 true 58 rfl rfl rfl ⟨⟨1, Ground.guard⟩, by simp, rfl, rfl⟩
                  case a13 => exact stepOK_skip 1 true 58 rfl rfl rfl ⟨⟨1, Ground.guard⟩, by simp, rfl, rfl⟩
                  case a14 => exact stepOK_skip 1 true 58 rfl rfl rfl ⟨⟨1, Ground.guard⟩, by simp, rfl, rfl⟩
                  case a15 => exact stepOK_skip 1 true 58 rfl rfl rfl ⟨⟨1, Ground.guard⟩, by simp, rfl, rfl⟩
                  case a16 => exact stepOK_skip 1 true 58 rfl rfl rfl ⟨⟨1, Ground.guard⟩, by simp, rfl, rfl⟩
                  all_goals
                    intro a wz hg hold
                    have h0 : a.tmps[0]?.getD undef = .slice (some ⟨b, o, none⟩) l.length c := hold 0 rfl
                    have h1 : a.tmps[1]?.getD undef = .slice q u.length d := hold 1 rfl
                    have h8 : a.tmps[8]?.getD undef = .bool false := hold 8 rfl
                    have h9 : a.tmps[9]?.getD undef = .int .i64 k := hold 9 rfl
                    have zc0 := Gr.at hg c0
                    have zc1 := Gr.at hg c1
                    have zc2 := Gr.at hg c2
                    have zc3 := Gr.at hg c3
                    have zd0 := Gr.at hg d0
                    have zd1 := Gr.at hg d1
                    have zd2 := Gr.at hg d2
                    have zd3 := Gr.at hg d3
                    have Hg := Lib.hid hg
                    clear hold c0 c1 c2 c3 d0 d1 d2 d3
                    simp [predsImp, Region.binds, dstAt, fx]
                    intros
                    first
                      | (rw [if_pos (by simp [*])]
                         intro K hK)
                      | (rename_i K hK)
                    go_simp
                  all_goals exact hK _ _ rfl (Gr.rfl' _)
                · intro w9 hg
                  rintro _ rfl _ rfl _ rfl _ rfl _ rfl _ rfl _ rfl _ rfl _ rfl _ rfl _ rfl _ rfl _ rfl _ rfl _ rfl _ rfl _ rfl _ rfl
                  simp only [finAll, Act.put, List.setIfInBounds_toArray, List.set_cons_succ, List.set_cons_zero, List.drop_succ_cons, List.drop_zero, List.take_zero]
                  have g9 : Gr w3 w9 := gr.trans hg
                  clear c0 c1 c2 c3 d0 d1 d2 d3
                  go_wp2_with fail
                  go_roundg (l.length - (k + 1))
                  case measure => omega
                  case rel => exact ⟨k + 1, _, rfl, by omega, rfl, by go_num, Hstep.out _ (by simp), g9⟩
              | true =>
                go_upto_region 13 with fail

                refine wp_region_rely_tail 18 [fx (.bool true), fx (.bool true), fx (.slice (some ⟨b, o, none⟩) l.length c), fx (.int .i64 k), fx (.pointer (some ⟨b, o + k * 8, none⟩)), fx (.pointer (some ⟨b, o + k * 8, none⟩)), fx y.a.val, fx (.slice q u.length d), tmIs (fun _ => True) (T.map (lookupT u) y.a.erase), fx (.slice (some ⟨b, o, none⟩) l.length c), fx (.int .i64 k), fx (.pointer (some ⟨b, o + k * 8, none⟩)), fx (.pointer (some ⟨b, o + k * 8 + 4, none⟩)), fx y.b.val, fx (.slice q u.length d), tmIs (fun _ => True) (T.map (lookupT u) y.b.erase), fx (.bool (T.same (T.map (lookupT u) y.a.erase) (T.map (lookupT u) y.b.erase))), fx (.bool (T.same (T.map (lookupT u) y.a.erase) (T.map (lookupT u) y.b.erase)))]
                  (by kernel_rfl) (by kernel_rfl) (by decide) (by repeat (first | exact Stable.nil | refine Stable.fix ?_ | refine Stable.cons tmIs_stable ?_)) ?_ ?_
                · refine ⟨?_, ?_, ?_, ?_, ?_, ?_, ?_, ?_, ?a8, ?_, ?_, ?_, ?_, ?_, ?_, ?a15, ?a16, ?_, trivial⟩
                  case a16 =>
                    intro a wz hg hold
                    have h0 : a.tmps[0]?.getD undef = .slice (some ⟨b, o, none⟩) l.length c := hold 0 rfl
                    have h1 : a.tmps[1]?.getD undef = .slice q u.length d := hold 1 rfl
                    have h8 : a.tmps[8]?.getD undef = .bool true := hold 8 rfl
                    have h9 : a.tmps[9]?.getD undef = .int .i64 k := hold 9 rfl
                    have zc0 := Gr.at hg c0
                    have zc1 := Gr.at hg c1
                    have zc2 := Gr.at hg c2
                    have zc3 := Gr.at hg c3
                    have zd0 := Gr.at hg d0
                    have zd1 := Gr.at hg d1
                    have zd2 := Gr.at hg d2
                    have zd3 := Gr.at hg d3
                    have Hg := Lib.hid hg
                    clear hold c0 c1 c2 c3 d0 d1 d2 d3
                    simp [predsImp, Region.binds, dstAt, fx, wantedE, Act.eval]
                    intros
                    rename_i ha hb hgd
                    obtain ⟨ba, e65, ia, ea, -⟩ := ha
                    obtain ⟨bb, e72, ib, eb, -⟩ := hb
                    rw [if_pos (by simp [*])]
                    intro K hK
                    go_simp
                    try rw [e65, e72]
                    have hs := same_calls (t := ba) (u := bb) ia ib
                    rw [ea, eb] at hs
                    refine hs.mono ?_
                    rintro e w9 ⟨rfl, ib9⟩
                    exact hK _ _ rfl ib9
                  all_goals
                    intro a wz hg hold
                    have h0 : a.tmps[0]?.getD undef = .slice (some ⟨b, o, none⟩) l.length c := hold 0 rfl
                    have h1 : a.tmps[1]?.getD undef = .slice q u.length d := hold 1 rfl
                    have h8 : a.tmps[8]?.getD undef = .bool true := hold 8 rfl
                    have h9 : a.tmps[9]?.getD undef = .int .i64 k := hold 9 rfl
                    have zc0 := Gr.at hg c0
                    have zc1 := Gr.at hg c1
                    have zc2 := Gr.at hg c2
                    have zc3 := Gr.at hg c3
                    have zd0 := Gr.at hg d0
                    have zd1 := Gr.at hg d1
                    have zd2 := Gr.at hg d2
                    have zd3 := Gr.at hg d3
                    have Hg := Lib.hid hg
                    clear hold c0 c1 c2 c3 d0 d1 d2 d3
                    simp [predsImp, Region.binds, dstAt, fx, wantedE, Act.eval]
                    intros
                    first
                      | (rw [if_pos (by simp [*])]
                         intro K hK)
                      | (rename_i K hK)
                    go_simp
                  case a8 =>
                    have hra := Hap.out _ Hg.out y.a Hia.out Hfm.out.1
                    simp only [Bds.val] at hra
                    refine hra.mono ?_
                    rintro e w9 ⟨bm, i1, i2, rfl, ib, i3⟩
                    exact hK _ _ ⟨bm, rfl, i1, i2, i3⟩ ib
                  case a15 =>
                    have hra := Hap.out _ Hg.out y.b Hib.out Hfm.out.2
                    simp only [Bds.val] at hra
                    refine hra.mono ?_
                    rintro e w9 ⟨bm, i1, i2, rfl, ib, i3⟩
                    exact hK _ _ ⟨bm, rfl, i1, i2, i3⟩ ib
                  all_goals exact hK _ _ rfl (Gr.rfl' _)
                · intro w9 hg
                  rintro _ rfl _ rfl _ rfl _ rfl _ rfl _ rfl _ rfl _ rfl _ - _ rfl _ rfl _ rfl _ rfl _ rfl _ rfl _ - _ rfl _ rfl
                  simp only [finAll, Act.put, List.setIfInBounds_toArray, List.set_cons_succ, List.set_cons_zero, List.drop_succ_cons, List.drop_zero, List.take_zero]
                  have g9 : Gr w3 w9 := gr.trans hg
                  clear c0 c1 c2 c3 d0 d1 d2 d3
                  go_wp2_with fail
                  go_roundg (l.length - (k + 1))
                  case measure => omega
                  case rel => exact ⟨k + 1, _, rfl, by omega, rfl, by go_num, Hstep.out _ (by simp [same_iff]), g9⟩
            · obtain rfl : k = l.length := by omega
              have HUn : Hid (U = true ↔ Unif (lookupT u) (seePrs l)) := by
                show _ ↔ _
                rw [hpre.out]
                constructor
                · intro h1 q hq
                  obtain ⟨y, hy, rfl⟩ := List.mem_map.1 hq
                  obtain ⟨j, hj, rfl⟩ := List.getElem_of_mem hy
                  exact h1 j hj hj
                · intro h1 j h _
                  exact h1 (l[j].a.erase, l[j].b.erase) (List.mem_map.2 ⟨l[j], List.getElem_mem h, rfl⟩)
              clear hpre hlt hk
              rcases Hs2.out with ⟨rfl, hno⟩ | ⟨rfl, ρ, hlist, hcan, hho⟩
              · have hU : U = false := by
                  cases U with
                  | false => rfl
                  | true => exact absurd (HUn.out.1 rfl) (hno _)
                subst hU
                clear hno
                go_wp2_with fail
                exact HR.out _ _ rfl (g3.trans gr)
              · have HapS : Hid (∀ w', Gr w3 w' → ∀ t : Tm, t.In w' → t.erase.formed = true → Calls Try.prog 40 #[t.val, .slice ps s.length cs] w' (RetTm (fun _ => True) (T.map ρ t.erase) w')) := fun w' g t ht hf => by
                  have := rapply_calls (t := t) (x := ⟨ps, cs, s⟩) (w := w') ht hf (Ins.out.mono g)
                  rw [show lookupT s = ρ from hlist.lookup] at this
                  exact this
                have HapU : Hid (∀ w', Gr w3 w' → ∀ t : Tm, t.In w' → t.erase.formed = true → Calls Try.prog 40 #[t.val, .slice q u.length d] w' (RetTm (fun _ => True) (T.map (lookupT u) t.erase) w')) := fun w' g t ht hf => rapply_calls (t := t) (x := ⟨q, d, u⟩) (w := w') ht hf (HU.out.mono (g3.trans g))
                have HUt : Hid (U = true → Through (lookupT u) ρ) := fun h => hho.2 _ (HUn.out.1 h)
                have Hl := Lib.hid hlist
                have Hc := Lib.hid hcan
                have Hh := Lib.hid hho
                clear hlist hcan hho HUn Hs2
                generalize hθ : lookupT u = θ at HapU HUt
                have Hθ := Lib.hid hθ
                clear hθ
                go_wp2_with fail
                go_loopg [10] l.length (fun m i wi => ∃ k : Nat, k ≤ l.length ∧ m = l.length - k ∧ i = .int .i64 k ∧ Gr w3 wi)
                case atStart => exact ⟨0, Nat.zero_le _, rfl, rfl, gr⟩
                case round =>
                  clear gr
                  obtain ⟨k, hk, rfl, rfl, gr⟩ := hrel
                  by_cases hlt : k < l.length
                  · obtain ⟨b, o, rfl⟩ := HP.out.ptr (by omega)
                    obtain ⟨⟨⟨c0, c1, c2, c3⟩, ⟨d0, d1, d2, d3⟩⟩, ⟨hia, hib⟩, hbl⟩ := (HP.out.mono (g3.trans gr)).elem k hlt
                    have Hia := Lib.hid hia
                    have Hib := Lib.hid hib
                    have Hfm := Lib.hid (allP_at HA.out hlt)
                    have Hel : Hid (∀ w', Gr wr w' → ((w'.cell? ⟨b, o + k * 8, none⟩ = some (.int .i64 l[k].a.k) ∧ w'.cell? ⟨b, o + k * 8 + 1, none⟩ = some (.int .i64 l[k].a.n) ∧ w'.cell? ⟨b, o + k * 8 + 2, none⟩ = some (.string l[k].a.s) ∧ w'.cell? ⟨b, o + k * 8 + 3, none⟩ = some (.slice l[k].a.p l[k].a.l.length l[k].a.c)) ∧ True) ∧ True ∧ b < w'.heap.size) := fun w' g => by
                      obtain ⟨⟨h1, _⟩, _, h2⟩ := (HP.out.mono ((g3.trans gr).trans g)).elem k hlt
                      exact ⟨⟨h1, trivial⟩, trivial, h2⟩
                    have Heq : Hid (T.map ρ l[k].a.erase = T.map ρ l[k].b.erase) := Hh.out.1 (l[k].a.erase, l[k].b.erase) (List.mem_map.2 ⟨l[k], List.getElem_mem hlt, rfl⟩)
                    clear hia hib
                    generalize l[k] = y at *
                    go_upto_region 19 with fail

                    refine wp_region_relyA 16 [fx (.slice (some ⟨b, o, none⟩) l.length c), fx (.int .i64 k), fx (.pointer (some ⟨b, o + k * 8, none⟩)), fx (.pointer (some ⟨b, o + k * 8, none⟩)), fx y.a.val, fx (.slice ps s.length cs), tmIs (fun _ => True) (T.map ρ y.a.erase), fx (.slice (some ⟨b, o, none⟩) l.length c), fx (.int .i64 k), fx (.pointer (some ⟨b, o + k * 8, none⟩)), fx (.pointer (some ⟨b, o + k * 8 + 4, none⟩)), fx y.b.val, fx (.slice ps s.length cs), tmIs (fun _ => True) (T.map ρ y.b.erase), newZ wr.heap.size, newZ wr.heap.size]
                      Gr (Apart [(14, 11), (15, 12)]) (by kernel_rfl) (by kernel_rfl) (by decide) (by kernel_rfl) (fun _ _ h => h) (fun _ _ _ h k => Gr.trans h k) (fun w _ => Apart.start _ _ _ w) (by repeat (first | exact StableR.nil | refine StableR.fix ?_ | refine StableR.cons tmIs_stable ?_ | refine StableR.cons newZ_stable ?_)) ?_ ?_
                    · refine ⟨stepA_plain (fun _ _ h => h) (fun listed a w w' v h hg => Apart.other rfl listed a w w' v h hg) ?_, stepA_plain (fun _ _ h => h) (fun listed a w w' v h hg => Apart.other rfl listed a w w' v h hg) ?_, stepA_plain (fun _ _ h => h) (fun listed a w w' v h hg => Apart.other rfl listed a w w' v h hg) ?_, stepA_plain (fun _ _ h => h) (fun listed a w w' v h hg => Apart.other rfl listed a w w' v h hg) ?_, stepA_plain (fun _ _ h => h) (fun listed a w w' v h hg => Apart.other rfl listed a w w' v h hg) ?_, stepA_plain (fun _ _ h => h) (fun listed a w w' v h hg => Apart.other rfl listed a w w' v h hg) ?_, stepA_plain (fun _ _ h => h) (fun listed a w w' v h hg => Apart.other rfl listed a w w' v h hg) ?b6, stepA_plain (fun _ _ h => h) (fun listed a w w' v h hg => Apart.other rfl listed a w w' v h hg) ?_, stepA_plain (fun _ _ h => h) (fun listed a w w' v h hg => Apart.other rfl listed a w w' v h hg) ?_, stepA_plain (fun _ _ h => h) (fun listed a w w' v h hg => Apart.other rfl listed a w w' v h hg) ?_, stepA_plain (fun _ _ h => h) (fun listed a w w' v h hg => Apart.other rfl listed a w w' v h hg) ?_, stepA_plain (fun _ _ h => h) (fun listed a w w' v h hg => Apart.other rfl listed a w w' v h hg) ?_, stepA_plain (fun _ _ h => h) (fun listed a w w' v h hg => Apart.other rfl listed a w w' v h hg) ?_, stepA_plain (fun _ _ h => h) (fun listed a w w' v h hg => Apart.other rfl listed a w w' v h hg) ?b13, ?a14, ?a15, trivial⟩
                      case a14 =>
                        intro listed fr ww hj hl hpre hg hdef hold
                        have h0 : fr.tmps[0]?.getD undef = .slice (some ⟨b, o, none⟩) l.length c := hold 0 rfl
                        have h6 : fr.tmps[6]?.getD undef = .slice ps s.length cs := hold 6 rfl
                        have h10 : fr.tmps[10]?.getD undef = .int .i64 k := hold 10 rfl
                        have z0 := Gr.at hg c0
                        have z1 := Gr.at hg c1
                        have z2 := Gr.at hg c2
                        have z3 := Gr.at hg c3
                        have z4 := Gr.at hg d0
                        have z5 := Gr.at hg d1
                        have z6 := Gr.at hg d2
                        have z7 := Gr.at hg d3
                        have Hg := Lib.hid hg
                        clear hold c0 c1 c2 c3 d0 d1 d2 d3
                        clear hdef
                        simp only [predsImp]
                        intro K hK
                        go_simp
                        exact hK _ _ ⟨ww.heap.size, rfl, hg.size, Blk4.new _ _ _ _ _⟩ (by go_grown) (Apart.new rfl hj (by go_grown) (Nat.le_refl _) (by simp))
                      case a15 =>
                        intro listed fr ww hj hl hpre hg hdef hold
                        have h0 : fr.tmps[0]?.getD undef = .slice (some ⟨b, o, none⟩) l.length c := hold 0 rfl
                        have h6 : fr.tmps[6]?.getD undef = .slice ps s.length cs := hold 6 rfl
                        have h10 : fr.tmps[10]?.getD undef = .int .i64 k := hold 10 rfl
                        have z0 := Gr.at hg c0
                        have z1 := Gr.at hg c1
                        have z2 := Gr.at hg c2
                        have z3 := Gr.at hg c3
                        have z4 := Gr.at hg d0
                        have z5 := Gr.at hg d1
                        have z6 := Gr.at hg d2
                        have z7 := Gr.at hg d3
                        have Hg := Lib.hid hg
                        clear hold c0 c1 c2 c3 d0 d1 d2 d3
                        clear hdef
                        simp only [predsImp]
                        intro K hK
                        go_simp
                        exact hK _ _ ⟨ww.heap.size, rfl, hg.size, Blk4.new _ _ _ _ _⟩ (by go_grown) (Apart.new rfl hj (by go_grown) (Nat.le_refl _) (by simp))
                      case b6 =>
                        intro fr ww hg hold
                        have h0 : fr.tmps[0]?.getD undef = .slice (some ⟨b, o, none⟩) l.length c := hold 0 rfl
                        have h6 : fr.tmps[6]?.getD undef = .slice ps s.length cs := hold 6 rfl
                        have h10 : fr.tmps[10]?.getD undef = .int .i64 k := hold 10 rfl
                        have z0 := Gr.at hg c0
                        have z1 := Gr.at hg c1
                        have z2 := Gr.at hg c2
                        have z3 := Gr.at hg c3
                        have z4 := Gr.at hg d0
                        have z5 := Gr.at hg d1
                        have z6 := Gr.at hg d2
                        have z7 := Gr.at hg d3
                        have Hg := Lib.hid hg
                        clear hold c0 c1 c2 c3 d0 d1 d2 d3
                        simp [predsImp, Region.binds, dstAt, fx]
                        intros
                        rename_i K hK
                        go_simp
                        have hra := HapS.out _ (gr.trans Hg.out) y.a (Tm.In_below Hg.out Hia.out) Hfm.out.1
                        refine hra.mono ?_
                        rintro e w9 ⟨bm, i1, i2, rfl, ib, i3⟩
                        exact hK _ _ ⟨bm, rfl, i1, i2, i3⟩ ib
                      case b13 =>
                        intro fr ww hg hold
                        have h0 : fr.tmps[0]?.getD undef = .slice (some ⟨b, o, none⟩) l.length c := hold 0 rfl
                        have h6 : fr.tmps[6]?.getD undef = .slice ps s.length cs := hold 6 rfl
                        have h10 : fr.tmps[10]?.getD undef = .int .i64 k := hold 10 rfl
                        have z0 := Gr.at hg c0
                        have z1 := Gr.at hg c1
                        have z2 := Gr.at hg c2
                        have z3 := Gr.at hg c3
                        have z4 := Gr.at hg d0
                        have z5 := Gr.at hg d1
                        have z6 := Gr.at hg d2
                        have z7 := Gr.at hg d3
                        have Hg := Lib.hid hg
                        clear hold c0 c1 c2 c3 d0 d1 d2 d3
                        simp [predsImp, Region.binds, dstAt, fx]
                        intros
                        rename_i K hK
                        go_simp
                        have hra := HapS.out _ (gr.trans Hg.out) y.b (Tm.In_below Hg.out Hib.out) Hfm.out.2
                        refine hra.mono ?_
                        rintro e w9 ⟨bm, i1, i2, rfl, ib, i3⟩
                        exact hK _ _ ⟨bm, rfl, i1, i2, i3⟩ ib
                      all_goals
                        intro fr ww hg hold
                        have h0 : fr.tmps[0]?.getD undef = .slice (some ⟨b, o, none⟩) l.length c := hold 0 rfl
                        have h6 : fr.tmps[6]?.getD undef = .slice ps s.length cs := hold 6 rfl
                        have h10 : fr.tmps[10]?.getD undef = .int .i64 k := hold 10 rfl
                        have z0 := Gr.at hg c0
                        have z1 := Gr.at hg c1
                        have z2 := Gr.at hg c2
                        have z3 := Gr.at hg c3
                        have z4 := Gr.at hg d0
                        have z5 := Gr.at hg d1
                        have z6 := Gr.at hg d2
                        have z7 := Gr.at hg d3
                        have Hg := Lib.hid hg
                        clear hold c0 c1 c2 c3 d0 d1 d2 d3
                        simp [predsImp, Region.binds, dstAt, fx]
                        intros
                        rename_i K hK
                        go_simp
                      all_goals exact hK _ _ rfl (Gr.rfl' _)
                    · intro w9 hg
                      rintro _ rfl _ rfl _ rfl _ rfl _ rfl _ rfl _ ⟨x, rfl, ix, ex, -⟩ _ rfl _ rfl _ rfl _ rfl _ rfl _ rfl _ ⟨z, rfl, iz, ez, -⟩ _ ⟨B6, rfl, hB6, z6⟩ _ ⟨B7, rfl, hB7, z7⟩ hap
                      simp only [Act.put, List.setIfInBounds_toArray, List.set_cons_succ, List.set_cons_zero, List.drop_succ_cons, List.drop_zero] at hap ⊢
                      have e67 : B6 ≠ B7 := hap.apart (x := (14, 11)) (y := (15, 12)) (by decide) (by decide) (by decide) (by show 14 < 16; omega) (by show 15 < 16; omega) rfl rfl
                      clear hap
                      have hfx : x.erase.formed = true := by rw [ex]; exact Hc.out.map Hfm.out.1
                      have hfz : z.erase.formed = true := by rw [ez]; exact Hc.out.map Hfm.out.2
                      have Htwo := Lib.hid (two_terms ix iz hfx hfz z6 z7 e67)
                      have Hxv := Lib.hid (show x.val = .agg #[.int .i64 x.k, .int .i64 x.n, .string x.s, .slice x.p x.l.length x.c] from rfl)
                      have Hzv := Lib.hid (show z.val = .agg #[.int .i64 z.k, .int .i64 z.n, .string z.s, .slice z.p z.l.length z.c] from rfl)
                      obtain ⟨⟨p0, p1, p2, p3⟩, ⟨f0, f1, f2, f3⟩, _⟩ := Blk4.parts z6
                      obtain ⟨⟨q0, q1, q2, q3⟩, ⟨g0, g1, g2, g3'⟩, _⟩ := Blk4.parts z7
                      have Hxz : Hid (x.erase = z.erase) := by show _ = _; rw [ex, ez]; exact Heq.out
                      have Hidem : Hid (T.map ρ x.erase = x.erase) := by show _ = _; rw [ex]; exact Hc.out.map_idem Hfm.out.1
                      have Hth : Hid (U = true → T.map θ x.erase = T.map θ y.a.erase) := fun h => by rw [ex]; exact (HUt.out h).map _
                      have Hfx := Lib.hid hfx
                      clear ix iz z6 z7 c0 c1 c2 c3 d0 d1 d2 d3 ex ez hfx hfz
                      rw [Hxv.out, Hzv.out]
                      go_upto_region 20 with fail
                      clear p0 p1 p2 p3 f0 f1 f2 f3 q0 q1 q2 q3 g0 g1 g2 g3'
                      obtain ⟨ix, iz, b6, b7, k67⟩ := Htwo.out _ rfl
                      generalize ((((((((w9.setCell ⟨B6, 0, none⟩ (.int .i64 x.k)).setCell ⟨B6, 1, none⟩ (.int .i64 x.n)).setCell ⟨B6, 2, none⟩ (.string x.s)).setCell ⟨B6, 3, none⟩ (.slice x.p x.l.length x.c)).setCell ⟨B7, 0, none⟩ (.int .i64 z.k)).setCell ⟨B7, 1, none⟩ (.int .i64 z.n)).setCell ⟨B7, 2, none⟩ (.string z.s)).setCell ⟨B7, 3, none⟩ (.slice z.p z.l.length z.c)) = wC at *
                      have gwC : Gr wr wC := Below.trans hg (k67.below (fun b hb => by rcases hb with rfl | rfl <;> omega) hg.size)
                      have g3C : Gr w3 wC := gr.trans gwC
                      have Ix := Lib.hid ix
                      have Iz := Lib.hid iz
                      have B6' := Lib.hid b6
                      obtain ⟨⟨p0, p1, p2, p3⟩, _, _⟩ := Blk4.parts b6
                      obtain ⟨⟨q0, q1, q2, q3⟩, _, _⟩ := Blk4.parts b7
                      clear Htwo k67 b6 b7 ix iz e67 hg
                      refine wp_region_rely [fx x.val, fx z.val, fx (.bool true), fx (.bool false), fx (.bool false), fx x.val, fx (.slice ps s.length cs), tmIs (fun _ => True) (T.map ρ x.erase), fx x.val, fx (.bool true), fx (.bool false), fx (.bool false)]
                        (by kernel_rfl) (by kernel_rfl) (by repeat (first | exact Stable.nil | refine Stable.fix ?_ | refine Stable.cons tmIs_stable ?_)) ?_ ?_
                      · refine ⟨?_, ?_, ?a2, ?_, ?_, ?_, ?_, ?a7, ?_, ?a9, ?_, ?_, trivial⟩
                        case a9 =>
                          intro a wz hg hold
                          have h11 : a.tmps[11]?.getD undef = .pointer (some ⟨B6, 0, none⟩) := hold 11 rfl
                          have h12 : a.tmps[12]?.getD undef = .pointer (some ⟨B7, 0, none⟩) := hold 12 rfl
                          have h6 : a.tmps[6]?.getD undef = .slice ps s.length cs := hold 6 rfl
                          have zp0 := Gr.at hg p0
                          have zp1 := Gr.at hg p1
                          have zp2 := Gr.at hg p2
                          have zp3 := Gr.at hg p3
                          have zq0 := Gr.at hg q0
                          have zq1 := Gr.at hg q1
                          have zq2 := Gr.at hg q2
                          have zq3 := Gr.at hg q3
                          have Hg := Lib.hid hg
                          clear hold p0 p1 p2 p3 q0 q1 q2 q3
                          simp [predsImp, Region.binds, dstAt, fx, wantedE, Act.eval]
                          intros
                          obtain ⟨bm, hbm, i1, i2, -⟩ := ‹tmIs _ _ _ _›
                          rw [if_pos (by simp [*])]
                          intro K hK
                          go_simp
                          try rw [hbm]
                          have hs := same_calls (t := bm) (u := x) i1 (Tm.In_below Hg.out Ix.out)
                          rw [i2, Hidem.out, (same_iff _ _).2 rfl] at hs
                          refine hs.mono ?_
                          rintro e w9 ⟨rfl, ib⟩
                          exact hK _ _ rfl ib
                        all_goals
                          intro a wz hg hold
                          have h11 : a.tmps[11]?.getD undef = .pointer (some ⟨B6, 0, none⟩) := hold 11 rfl
                          have h12 : a.tmps[12]?.getD undef = .pointer (some ⟨B7, 0, none⟩) := hold 12 rfl
                          have h6 : a.tmps[6]?.getD undef = .slice ps s.length cs := hold 6 rfl
                          have zp0 := Gr.at hg p0
                          have zp1 := Gr.at hg p1
                          have zp2 := Gr.at hg p2
                          have zp3 := Gr.at hg p3
                          have zq0 := Gr.at hg q0
                          have zq1 := Gr.at hg q1
                          have zq2 := Gr.at hg q2
                          have zq3 := Gr.at hg q3
                          have Hg := Lib.hid hg
                          clear hold p0 p1 p2 p3 q0 q1 q2 q3
                          simp [predsImp, Region.binds, dstAt, fx, wantedE, Act.eval]
                          intros
                          first
                            | (rw [if_pos (by simp [*])]
                               intro K hK)
                            | (rename_i K hK)
                          go_simp
                        case a2 =>
                          have hs := same_calls (t := x) (u := z) (Tm.In_below Hg.out Ix.out) (Tm.In_below Hg.out Iz.out)
                          rw [Hxz.out, (same_iff _ _).2 rfl] at hs
                          refine hs.mono ?_
                          rintro e w9 ⟨rfl, ib⟩
                          exact hK _ _ rfl ib
                        case a7 =>
                          have hra := HapS.out _ (g3C.trans Hg.out) x (Tm.In_below Hg.out Ix.out) Hfx.out
                          refine hra.mono ?_
                          rintro e w9 ⟨bm, i1, i2, rfl, ib, i3⟩
                          exact hK _ _ ⟨bm, rfl, i1, i2, i3⟩ ib
                        all_goals exact hK _ _ rfl (Gr.rfl' _)
                      · intro w10 hg
                        rintro _ rfl _ rfl _ rfl _ rfl _ rfl _ rfl _ rfl _ - _ rfl _ rfl _ rfl _ rfl
                        simp only [finAll, Act.put, Exit.then, List.setIfInBounds_toArray, List.set_cons_succ, List.set_cons_zero]
                        clear p0 p1 p2 p3 q0 q1 q2 q3
                        have g3D : Gr w3 w10 := g3C.trans hg
                        have grD : Gr wr w10 := gwC.trans hg
                        have Jx := Lib.hid (Tm.In_below hg Ix.out)
                        obtain ⟨⟨p0, p1, p2, p3⟩, _, _⟩ := Blk4.parts (Blk4.gr B6'.out hg)
                        obtain ⟨⟨⟨c0, c1, c2, c3⟩, -⟩, -, hbl2⟩ := Hel.out w10 grD
                        have Ja := Lib.hid (Tm.In_below grD Hia.out)
                        clear hg gwC g3C Ix Iz
                        cases U with
                        | false =>
                          go_upto_region 22 with fail

                          refine wp_region_rely [fx (.bool false), fx (.bool false), fx undef, fx undef, fx undef, fx undef, fx undef, fx undef, fx undef, fx undef, fx undef, fx undef, fx undef, fx undef, fx (.bool false)]
                            (by kernel_rfl) (by kernel_rfl) (by repeat (first | exact Stable.nil | refine Stable.fix ?_)) ?_ ?_
                          · refine ⟨?_, ?_, ?a2, ?a3, ?a4, ?a5, ?a6, ?a7, ?a8, ?a9, ?a10, ?a11, ?a12, ?a13, ?_, trivial⟩
                            case a2 => exact stepOK_skip 1 true 116 rfl rfl rfl ⟨⟨1, Ground.guard⟩, by simp, rfl, rfl⟩
                            case a3 => exact stepOK_skip 1 true 116 rfl rfl rfl ⟨⟨1, Ground.guard⟩, by simp, rfl, rfl⟩
                            case a4 => exact stepOK_skip 1 true 116 rfl rfl rfl ⟨⟨1, Ground.guard⟩, by simp, rfl, rfl⟩
                            case a5 => exact stepOK_skip 1 true 116 rfl rfl rfl ⟨⟨1, Ground.guard⟩, by simp, rfl, rfl⟩
                            case a6 => exact stepOK_skip 1 true 116 rfl rfl rfl ⟨⟨1, Ground.guard⟩, by simp, rfl, rfl⟩
                            case a7 => exact stepOK_skip 1 true 116 rfl rfl rfl ⟨⟨1, Ground.guard⟩, by simp, rfl, rfl⟩
                            case a8 => exact stepOK_skip 1 true 116 rfl rfl rfl ⟨⟨1, Ground.guard⟩, by simp, rfl, rfl⟩
                            case a9 => exact stepOK_skip 1 true 116 rfl rfl rfl ⟨⟨1, Ground.guard⟩, by simp, rfl, rfl⟩
                            case a10 => exact stepOK_skip 1 true 116 rfl rfl rfl ⟨⟨1, Ground.guard⟩, by simp, rfl, rfl⟩
                            case a11 => exact stepOK_skip 1 true 116 rfl rfl rfl ⟨⟨1, Ground.guard⟩, by simp, rfl, rfl⟩
                            case a12 => exact stepOK_skip 1 true 116 rfl rfl rfl ⟨⟨1, Ground.guard⟩, by simp, rfl, rfl⟩
                            case a13 => exact stepOK_skip 1 true 116 rfl rfl rfl ⟨⟨1, Ground.guard⟩, by simp, rfl, rfl⟩
                            all_goals
                              intro a wz hg hold
                              have h0 : a.tmps[0]?.getD undef = .slice (some ⟨b, o, none⟩) l.length c := hold 0 rfl
                              have h1 : a.tmps[1]?.getD undef = .slice q u.length d := hold 1 rfl
                              have h8 : a.tmps[8]?.getD undef = .bool false := hold 8 rfl
                              have h10 : a.tmps[10]?.getD undef = .int .i64 k := hold 10 rfl
                              have h11 : a.tmps[11]?.getD undef = .pointer (some ⟨B6, 0, none⟩) := hold 11 rfl
                              have zp0 := Gr.at hg p0
                              have zp1 := Gr.at hg p1
                              have zp2 := Gr.at hg p2
                              have zp3 := Gr.at hg p3
                              have zc0 := Gr.at hg c0
                              have zc1 := Gr.at hg c1
                              have zc2 := Gr.at hg c2
                              have zc3 := Gr.at hg c3
                              have Hg := Lib.hid hg
                              clear hold p0 p1 p2 p3 c0 c1 c2 c3
                              simp [predsImp, Region.binds, dstAt, fx]
                              intros
                              first
                                | (rw [if_pos (by simp [*])]
                                   intro K hK)
                                | (rename_i K hK)
                              go_simp
                            all_goals exact hK _ _ rfl (Gr.rfl' _)
                          · intro w11 hg
                            rintro _ rfl _ rfl _ rfl _ rfl _ rfl _ rfl _ rfl _ rfl _ rfl _ rfl _ rfl _ rfl _ rfl _ rfl _ rfl
                            simp only [finAll, Act.put, Exit.then, List.setIfInBounds_toArray, List.set_cons_succ, List.set_cons_zero]
                            clear p0 p1 p2 p3 c0 c1 c2 c3
                            go_wp2_with fail
                            go_roundg (l.length - (k + 1))
                            case measure => omega
                            case rel => exact ⟨k + 1, by omega, rfl, by go_num, g3D.trans hg⟩
                        | true =>
                          have Hth2 := Lib.hid (Hth.out rfl)
                          go_upto_region 22 with fail

                          refine wp_region_rely [fx (.bool true), fx (.bool true), fx x.val, fx (.slice q u.length d), tmIs (fun _ => True) (T.map θ x.erase), fx (.slice (some ⟨b, o, none⟩) l.length c), fx (.int .i64 k), fx (.pointer (some ⟨b, o + k * 8, none⟩)), fx (.pointer (some ⟨b, o + k * 8, none⟩)), fx y.a.val, fx (.slice q u.length d), tmIs (fun _ => True) (T.map θ y.a.erase), fx (.bool true), fx (.bool false), fx (.bool false)]
                            (by kernel_rfl) (by kernel_rfl) (by repeat (first | exact Stable.nil | refine Stable.fix ?_ | refine Stable.cons tmIs_stable ?_)) ?_ ?_
                          · refine ⟨?_, ?_, ?_, ?_, ?a4, ?_, ?_, ?_, ?_, ?_, ?_, ?a11, ?a12, ?_, ?_, trivial⟩
                            case a12 =>
                              intro a wz hg hold
                              have h0 : a.tmps[0]?.getD undef = .slice (some ⟨b, o, none⟩) l.length c := hold 0 rfl
                              have h1 : a.tmps[1]?.getD undef = .slice q u.length d := hold 1 rfl
                              have h8 : a.tmps[8]?.getD undef = .bool true := hold 8 rfl
                              have h10 : a.tmps[10]?.getD undef = .int .i64 k := hold 10 rfl
                              have h11 : a.tmps[11]?.getD undef = .pointer (some ⟨B6, 0, none⟩) := hold 11 rfl
                              have zp0 := Gr.at hg p0
                              have zp1 := Gr.at hg p1
                              have zp2 := Gr.at hg p2
                              have zp3 := Gr.at hg p3
                              have zc0 := Gr.at hg c0
                              have zc1 := Gr.at hg c1
                              have zc2 := Gr.at hg c2
                              have zc3 := Gr.at hg c3
                              have Hg := Lib.hid hg
                              clear hold p0 p1 p2 p3 c0 c1 c2 c3
                              simp [predsImp, Region.binds, dstAt, fx, wantedE, Act.eval]
                              intros
                              rename_i ha hb hgd
                              obtain ⟨ba, e65, ia, ea, -⟩ := ha
                              obtain ⟨bb, e72, ib, eb, -⟩ := hb
                              rw [if_pos (by simp [*])]
                              intro K hK
                              go_simp
                              try rw [e65, e72]
                              have hs := same_calls (t := ba) (u := bb) ia ib
                              rw [ea, eb, Hth2.out, (same_iff _ _).2 rfl] at hs
                              refine hs.mono ?_
                              rintro e w9 ⟨rfl, ib9⟩
                              exact hK _ _ rfl ib9
                            all_goals
                              intro a wz hg hold
                              have h0 : a.tmps[0]?.getD undef = .slice (some ⟨b, o, none⟩) l.length c := hold 0 rfl
                              have h1 : a.tmps[1]?.getD undef = .slice q u.length d := hold 1 rfl
                              have h8 : a.tmps[8]?.getD undef = .bool true := hold 8 rfl
                              have h10 : a.tmps[10]?.getD undef = .int .i64 k := hold 10 rfl
                              have h11 : a.tmps[11]?.getD undef = .pointer (some ⟨B6, 0, none⟩) := hold 11 rfl
                              have zp0 := Gr.at hg p0
                              have zp1 := Gr.at hg p1
                              have zp2 := Gr.at hg p2
                              have zp3 := Gr.at hg p3
                              have zc0 := Gr.at hg c0
                              have zc1 := Gr.at hg c1
                              have zc2 := Gr.at hg c2
                              have zc3 := Gr.at hg c3
                              have Hg := Lib.hid hg
                              clear hold p0 p1 p2 p3 c0 c1 c2 c3
                              simp [predsImp, Region.binds, dstAt, fx, wantedE, Act.eval]
                              intros
                              first
                                | (rw [if_pos (by simp [*])]
                                   intro K hK)
                                | (rename_i K hK)
                              go_simp
                            case a4 =>
                              have hra := HapU.out _ (g3D.trans Hg.out) x (Tm.In_below Hg.out Jx.out) Hfx.out
                              refine hra.mono ?_
                              rintro e w9 ⟨bm, i1, i2, rfl, ib, i3⟩
                              exact hK _ _ ⟨bm, rfl, i1, i2, i3⟩ ib
                            case a11 =>
                              have hra := HapU.out _ (g3D.trans Hg.out) y.a (Tm.In_below Hg.out Ja.out) Hfm.out.1
                              refine hra.mono ?_
                              rintro e w9 ⟨bm, i1, i2, rfl, ib, i3⟩
                              exact hK _ _ ⟨bm, rfl, i1, i2, i3⟩ ib
                            all_goals exact hK _ _ rfl (Gr.rfl' _)
                          · intro w11 hg
                            rintro _ rfl _ rfl _ rfl _ rfl _ - _ rfl _ rfl _ rfl _ rfl _ rfl _ rfl _ - _ rfl _ rfl _ rfl
                            simp only [finAll, Act.put, Exit.then, List.setIfInBounds_toArray, List.set_cons_succ, List.set_cons_zero]
                            clear p0 p1 p2 p3 c0 c1 c2 c3
                            go_wp2_with fail
                            go_roundg (l.length - (k + 1))
                            case measure => omega
                            case rel => exact ⟨k + 1, by omega, rfl, by go_num, g3D.trans hg⟩
                  · obtain rfl : k = l.length := by omega
                    clear hlt hk
                    cases U with
                    | false =>
                      go_wp2_with fail
                      go_loopg [13] 0 (fun m i wi => m = 0 ∧ i = .int .i64 0 ∧ Gr w3 wi)
                      case atStart => exact ⟨rfl, rfl, gr⟩
                      case round =>
                        clear gr
                        obtain ⟨rfl, rfl, gr⟩ := hrel
                        go_wp2_with fail
                        exact HR.out _ _ rfl (g3.trans gr)
                    | true =>
                      have HTh := Lib.hid (HUt.out rfl)
                      go_wp2_with fail
                      go_loopg [13] s.length (fun m i wi => ∃ k : Nat, k ≤ s.length ∧ m = s.length - k ∧ i = .int .i64 k ∧ Gr w3 wi)
                      case atStart => exact ⟨0, Nat.zero_le _, rfl, rfl, gr⟩
                      case round =>
                        clear gr
                        obtain ⟨k, hk, rfl, rfl, gr⟩ := hrel
                        by_cases hlt : k < s.length
                        · obtain ⟨b, o, rfl⟩ := Ins.out.ptr (by omega)
                          have hel := fun w' (g : Gr wr w') => (Ins.out.mono (gr.trans g)).elem k hlt
                          have hyf := Hl.out.2.2 s[k] (List.getElem_mem hlt)
                          have hye := Hl.out.mem (List.getElem_mem hlt)
                          generalize s[k] = z at *
                          have Hel := Lib.hid hel
                          have Hyf := Lib.hid hyf
                          have Hth3 : Hid (T.map θ z.t.erase = θ z.v) := by show _ = _; rw [← hye.1]; exact HTh.out _
                          obtain ⟨⟨c0, c1, c2, c3, c4⟩, hzi, hz64, hbl⟩ := hel wr (Gr.rfl' _)
                          have hfind := rfind_calls (fun b => b < w.heap.size) q d u z.v wr (HU.out.mono (g3.trans gr)) hz64 (fun b hb => Nat.lt_of_lt_of_le hb (g3.trans gr).size) (fun y hy => Tm.In.on (HU.out.2.2.2 y hy).1)
                          rw [Hθ.out] at hfind
                          have Hfind := Lib.hid hfind
                          clear hfind hel hyf hye hzi hz64
                          go_wp2_with fail
                          refine Hfind.out.mono ?_
                          rintro e w5 ⟨x, xis, ix, ex, rfl, g5, -⟩
                          have Hxv := Lib.hid (show x.val = .agg #[.int .i64 x.k, .int .i64 x.n, .string x.s, .slice x.p x.l.length x.c] from rfl)
                          rw [Hxv.out]
                          clear c0 c1 c2 c3 c4
                          go_upto_region 28 with fail
                          have hX := Blk4.new w5 (.int .i64 x.k) (.int .i64 x.n) (.string x.s) (.slice x.p x.l.length x.c)
                          have g6 : Gr w5 (w5.alloc (.cells #[.int .i64 x.k, .int .i64 x.n, .string x.s, .slice x.p x.l.length x.c] 24)) := by go_grown
                          generalize w5.alloc (.cells #[.int .i64 x.k, .int .i64 x.n, .string x.s, .slice x.p x.l.length x.c] 24) = w6 at *
                          generalize w5.heap.size = X0 at hX ⊢
                          have g7 : Gr wr w6 := Gr.trans g5 g6
                          have g37 : Gr w3 w6 := gr.trans g7
                          have Ix := Lib.hid (Tm.In_below g6 ix)
                          have Ex := Lib.hid ex
                          obtain ⟨⟨p0, p1, p2, p3⟩, _, _⟩ := hX.parts
                          obtain ⟨⟨c0, c1, c2, c3, c4⟩, hzi, -, hbl2⟩ := Hel.out w6 g7
                          have Iz := Lib.hid hzi
                          clear ix ex hX g5 g6 hzi hbl

                          refine wp_region_rely [fx (.slice (some ⟨b, o, none⟩) s.length cs), fx (.int .i64 k), fx (.pointer (some ⟨b, o + k * 5, none⟩)), fx (.pointer (some ⟨b, o + k * 5 + 1, none⟩)), fx z.t.val, fx (.slice q u.length d), tmIs (fun _ => True) (θ z.v), fx x.val, fx (.bool true), fx (.bool false)]
                            (by kernel_rfl) (by kernel_rfl) (by repeat (first | exact Stable.nil | refine Stable.fix ?_ | refine Stable.cons tmIs_stable ?_)) ?_ ?_
                          · refine ⟨?_, ?_, ?_, ?_, ?_, ?_, ?a6, ?_, ?a8, ?_, trivial⟩
                            case a8 =>
                              intro a wz hg hold
                              have h1 : a.tmps[1]?.getD undef = .slice q u.length d := hold 1 rfl
                              have h6 : a.tmps[6]?.getD undef = .slice (some ⟨b, o, none⟩) s.length cs := hold 6 rfl
                              have h13 : a.tmps[13]?.getD undef = .int .i64 k := hold 13 rfl
                              have h14 : a.tmps[14]?.getD undef = .pointer (some ⟨X0, 0, none⟩) := hold 14 rfl
                              have zp0 := Gr.at hg p0
                              have zp1 := Gr.at hg p1
                              have zp2 := Gr.at hg p2
                              have zp3 := Gr.at hg p3
                              have zc0 := Gr.at hg c0
                              have zc1 := Gr.at hg c1
                              have zc2 := Gr.at hg c2
                              have zc3 := Gr.at hg c3
                              have zc4 := Gr.at hg c4
                              have Hg := Lib.hid hg
                              clear hold p0 p1 p2 p3 c0 c1 c2 c3 c4
                              simp [predsImp, Region.binds, dstAt, fx]
                              intros
                              rename_i K hK
                              obtain ⟨bm, hbm, i1, i2, -⟩ := ‹tmIs _ _ _ _›
                              go_simp
                              try rw [hbm]
                              have hs := same_calls (t := bm) (u := x) i1 (Tm.In_below Hg.out Ix.out)
                              rw [i2, Ex.out, (same_iff _ _).2 rfl] at hs
                              refine hs.mono ?_
                              rintro e w9 ⟨rfl, ib⟩
                              exact hK _ _ rfl ib
                            all_goals
                              intro a wz hg hold
                              have h1 : a.tmps[1]?.getD undef = .slice q u.length d := hold 1 rfl
                              have h6 : a.tmps[6]?.getD undef = .slice (some ⟨b, o, none⟩) s.length cs := hold 6 rfl
                              have h13 : a.tmps[13]?.getD undef = .int .i64 k := hold 13 rfl
                              have h14 : a.tmps[14]?.getD undef = .pointer (some ⟨X0, 0, none⟩) := hold 14 rfl
                              have zp0 := Gr.at hg p0
                              have zp1 := Gr.at hg p1
                              have zp2 := Gr.at hg p2
                              have zp3 := Gr.at hg p3
                              have zc0 := Gr.at hg c0
                              have zc1 := Gr.at hg c1
                              have zc2 := Gr.at hg c2
                              have zc3 := Gr.at hg c3
                              have zc4 := Gr.at hg c4
                              have Hg := Lib.hid hg
                              clear hold p0 p1 p2 p3 c0 c1 c2 c3 c4
                              simp [predsImp, Region.binds, dstAt, fx]
                              intros
                              first
                                | (rw [if_pos (by simp [*])]
                                   intro K hK)
                                | (rename_i K hK)
                              go_simp
                            case a6 =>
                              have hra := HapU.out _ (g37.trans Hg.out) z.t (Tm.In_below Hg.out Iz.out) Hyf.out.1
                              rw [Hth3.out] at hra
                              refine hra.mono ?_
                              rintro e w9 ⟨bm, i1, i2, rfl, ib, i3⟩
                              exact hK _ _ ⟨bm, rfl, i1, i2, i3⟩ ib
                            all_goals exact hK _ _ rfl (Gr.rfl' _)
                          · intro w11 hg
                            rintro _ rfl _ rfl _ rfl _ rfl _ rfl _ rfl _ - _ rfl _ rfl _ rfl
                            simp only [finAll, Act.put, Exit.then, List.setIfInBounds_toArray, List.set_cons_succ, List.set_cons_zero]
                            clear p0 p1 p2 p3 c0 c1 c2 c3 c4
                            go_wp2_with fail
                            go_roundg (s.length - (k + 1))
                            case measure => omega
                            case rel => exact ⟨k + 1, by omega, rfl, by go_num, g37.trans hg⟩
                        · obtain rfl : k = s.length := by omega
                          go_wp2_with fail
                          exact HR.out _ _ rfl (g3.trans gr)
      · have hEb : (E != 0) = true := by simp [hE]
        clear hE
        go_wp2_with fail
        exact HR.out _ _ rfl g1
end Go.Proofs.Yteonakicoomjkaa
