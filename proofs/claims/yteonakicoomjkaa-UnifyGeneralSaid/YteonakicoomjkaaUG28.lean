/-
  hornref.SameBinds of two lists that say the same.
  hornlaw.UnifySays: the walk.
  hornref.Binds in full.
-/
import Derived.Test.YteonakicoomjkaaUG14
import Derived.Test.YteonakicoomjkaaUG04
import Derived.Test.YteonakicoomjkaaUG27
import Derived.Test.YteonakicoomjkaaUG23
import Derived.Test.YteonakicoomjkaaUG12
import Derived.Test.YteonakicoomjkaaUG26
import Derived.Deep.QuietTactic
import Derived.BigQuiet
namespace Go.Proofs.Yteonakicoomjkaa
open Go.RowKit Go.Lib

set_option maxHeartbeats 2000000 in
set_option maxRecDepth 100000 in
theorem sameBinds_calls (p q : Option Addr) (c d : Nat) (s u : List Bd) (w : World) (hs : (Bds.mk p c s).In w) (hu : (Bds.mk q d u).In w) (he : seeBds s = seeBds u) :
    Calls Try.prog 41 #[.slice p s.length c, .slice q u.length d] w (Ret (.bool true) w) := by
  have HS := Lib.hid hs
  have HU := Lib.hid hu
  have hsl := hs.2.1.1
  simp only at hsl
  have hR : Hid (∀ b, true = b → ∀ w', Gr w w' → Ret (.bool true) w (.returned (.bool b)) w') := fun b hb w' hg => ⟨by rw [hb], hg⟩
  generalize hQ : Ret (.bool true) w = Q at hR ⊢
  clear hQ hs hu
  obtain ⟨hl, hat⟩ := seeBds_at he
  have Hat := Lib.hid hat
  clear hat he
  have Hl := Lib.hid hl.symm
  rw [Hl.out]
  clear hl
  go_enter Try.func41, Try.ntmps41
  try simp only [List.append_eq, List.cons_append, List.nil_append]
  go_wp2_with fail
  go_loopg [5] s.length (fun m i wr => ∃ k : Nat, k ≤ s.length ∧ m = s.length - k ∧ i = .int .i64 k ∧ Gr w wr)
  case atStart => exact ⟨0, Nat.zero_le _, rfl, rfl, Gr.rfl' _⟩
  case round =>
    obtain ⟨k, hk, rfl, rfl, gr⟩ := hrel
    by_cases hlt : k < s.length
    · obtain ⟨b, o, rfl⟩ := HS.out.ptr (by omega)
      have hlt' : k < u.length := by have := Hl.out; omega
      obtain ⟨b', o', rfl⟩ := HU.out.ptr (by omega)
      obtain ⟨⟨c0, c1, c2, c3, c4⟩, hti, ⟨hv1, hv2⟩, hbl⟩ := (HS.out.mono gr).elem k hlt
      obtain ⟨⟨d0, d1, d2, d3, d4⟩, hti', -, hbl'⟩ := (HU.out.mono gr).elem k hlt'
      have Hti := Lib.hid hti
      have Hti' := Lib.hid hti'
      obtain ⟨e1, e2⟩ := Hat.out k hlt hlt'
      have He2 := Lib.hid e2
      have He1 := Lib.hid e1.symm
      clear hti hti' e1 e2
      generalize s[k] = x at *
      generalize u[k] = y at *
      have E1 := He1.out
      obtain ⟨yv, yt⟩ := y
      simp only at E1 d0 d1 d2 d3 d4 He2
      subst E1
      clear He1
      go_upto_region 6 with fail
      refine wp_region_rely [fx (.slice (some ⟨b, o, none⟩) s.length c), fx (.int .i64 k), fx (.pointer (some ⟨b, o + k * 5, none⟩)), fx (.pointer (some ⟨b, o + k * 5, none⟩)), fx (.int .i64 x.v), fx (.slice (some ⟨b', o', none⟩) s.length d), fx (.int .i64 k), fx (.pointer (some ⟨b', o' + k * 5, none⟩)), fx (.pointer (some ⟨b', o' + k * 5, none⟩)), fx (.int .i64 x.v), fx (.bool false), fx (.bool false), fx (.slice (some ⟨b, o, none⟩) s.length c), fx (.int .i64 k), fx (.pointer (some ⟨b, o + k * 5, none⟩)), fx (.pointer (some ⟨b, o + k * 5 + 1, none⟩)), fx x.t.val, fx (.slice (some ⟨b', o', none⟩) s.length d), fx (.int .i64 k), fx (.pointer (some ⟨b', o' + k * 5, none⟩)), fx (.pointer (some ⟨b', o' + k * 5 + 1, none⟩)), fx yt.val, fx (.bool true), fx (.bool false), fx (.bool false)]
        (by kernel_rfl) (by kernel_rfl) (by repeat (first | exact Stable.nil | refine Stable.fix ?_)) ?_ ?_
      · refine ⟨?_, ?_, ?_, ?_, ?_, ?_, ?_, ?_, ?_, ?_, ?_, ?_, ?_, ?_, ?_, ?_, ?_, ?_, ?_, ?_, ?_, ?_, ?a22, ?_, ?_, trivial⟩
        all_goals
          intro a wz hg hold
          have h0 : a.tmps[0]?.getD undef = .slice (some ⟨b, o, none⟩) s.length c := hold 0 rfl
          have h1 : a.tmps[1]?.getD undef = .slice (some ⟨b', o', none⟩) s.length d := hold 1 rfl
          have h5 : a.tmps[5]?.getD undef = .int .i64 k := hold 5 rfl
          have z0 := Gr.at hg c0
          have z1 := Gr.at hg c1
          have z2 := Gr.at hg c2
          have z3 := Gr.at hg c3
          have z4 := Gr.at hg c4
          have y0 := Gr.at hg d0
          have y1 := Gr.at hg d1
          have y2 := Gr.at hg d2
          have y3 := Gr.at hg d3
          have y4 := Gr.at hg d4
          have Hg := Lib.hid hg
          clear hold c0 c1 c2 c3 c4 d0 d1 d2 d3 d4
          simp [predsImp, Region.binds, dstAt, fx, wantedE, Act.eval]
          intros
          first
            | (rw [if_pos (by simp [*])]
               intro K hK)
            | (rename_i K hK)
          go_simp
        case a22 =>
          have hsame := same_calls (Tm.In_below Hg.out Hti.out) (Tm.In_below Hg.out Hti'.out)
          rw [He2.out, (same_iff _ _).2 rfl] at hsame
          refine hsame.mono ?_
          rintro e w2 ⟨rfl, hb2⟩
          exact hK _ _ rfl hb2
        all_goals exact hK _ _ rfl (Gr.rfl' _)
      · intro w3 hg
        rintro _ rfl _ rfl _ rfl _ rfl _ rfl _ rfl _ rfl _ rfl _ rfl _ rfl _ rfl _ rfl _ rfl _ rfl _ rfl _ rfl _ rfl _ rfl _ rfl _ rfl _ rfl _ rfl _ rfl _ rfl _ rfl
        simp only [finAll, Act.put, Exit.then, List.setIfInBounds_toArray, List.set_cons_succ, List.set_cons_zero]
        have gw3 : Gr w w3 := Gr.trans gr hg
        clear c0 c1 c2 c3 c4 d0 d1 d2 d3 d4 hg
        go_wp2_with fail
        go_roundg (s.length - (k + 1))
        case measure => omega
        case rel => exact ⟨k + 1, by omega, rfl, by go_num, gw3⟩
    · obtain rfl : k = s.length := by omega
      go_wp2_with fail
      exact hR.out _ rfl _ gr
end Go.Proofs.Yteonakicoomjkaa

namespace Go.Proofs.Yteonakicoomjkaa
open Go.RowKit Go.Maps Go.Lib

set_option maxHeartbeats 1000000 in
set_option maxRecDepth 100000 in
theorem terms_calls (p : Option Addr) (c : Nat) (l : List Pr) (w : World) (h : (Prs.mk p c l).In w) :
    Calls Try.prog 46 #[.slice p l.length c] w (Ret (.bool (allP l)) w) := by
  have HP := Lib.hid h
  have hll := h.2.1.1
  simp only at hll
  have hR : Hid (∀ b w', b = allP l → Gr w w' → Ret (.bool (allP l)) w (.returned (.bool b)) w') := fun b w' h1 h2 => ⟨by rw [h1], h2⟩
  generalize Ret (.bool (allP l)) w = Q at hR ⊢
  have HR := hR
  clear h hR
  go_enter Try.func46, Try.ntmps46
  try simp only [List.append_eq, List.cons_append, List.nil_append]
  go_wp2_with fail
  go_loopg [3] l.length (fun m i wr => ∃ k : Nat, k ≤ l.length ∧ m = l.length - k ∧ i = .int .i64 k ∧ Hid (∀ (j : Nat) (h : j < l.length), j < k → l[j].a.erase.formed = true ∧ l[j].b.erase.formed = true) ∧ Gr w wr)
  case atStart => exact ⟨0, Nat.zero_le _, rfl, rfl, fun j _ h => absurd h (Nat.not_lt_zero j), Gr.rfl' _⟩
  case round =>
    obtain ⟨k, hk, rfl, rfl, hpre, gr⟩ := hrel
    by_cases hlt : k < l.length
    · obtain ⟨b, o, rfl⟩ := HP.out.ptr (by omega)
      obtain ⟨⟨⟨c0, c1, c2, c3⟩, ⟨d0, d1, d2, d3⟩⟩, ⟨hia, hib⟩, hbl⟩ := (HP.out.mono gr).elem k hlt
      have Hia := Lib.hid hia
      have Hib := Lib.hid hib
      have Hbad : Hid ((l[k].a.erase.formed && l[k].b.erase.formed) = false → false = allP l) := fun hb => (allP_not hlt hb).symm
      have Hok : Hid (l[k].a.erase.formed = true → l[k].b.erase.formed = true → ∀ (j : Nat) (h : j < l.length), j < k + 1 → l[j].a.erase.formed = true ∧ l[j].b.erase.formed = true) := fun h1 h2 j h hj => by
        rcases Nat.lt_or_ge j k with h3 | h3
        · exact hpre.out j h h3
        · obtain rfl : j = k := by omega
          exact ⟨h1, h2⟩
      clear hia hib
      generalize l[k] = y at *
      have hfa := fun w' (g : Gr wr w') => rformed_calls (t := y.a) (w := w') (Tm.In_below g Hia.out)
      have hfb := fun w' (g : Gr wr w') => rformed_calls (t := y.b) (w := w') (Tm.In_below g Hib.out)
      rw [show y.a.val = .agg #[.int .i64 y.a.k, .int .i64 y.a.n, .string y.a.s, .slice y.a.p y.a.l.length y.a.c] from rfl] at hfa
      rw [show y.b.val = .agg #[.int .i64 y.b.k, .int .i64 y.b.n, .string y.b.s, .slice y.b.p y.b.l.length y.b.c] from rfl] at hfb
      generalize y.a.erase.formed = fa at *
      generalize y.b.erase.formed = fb at *
      have Hfa := Lib.hid hfa
      have Hfb := Lib.hid hfb
      clear hfa hfb
      go_wp2_with fail
      refine (Hfa.out wr (Gr.rfl' _)).mono ?_
      rintro e w1 ⟨rfl, hg1⟩
      replace hg1 : Gr wr w1 := hg1
      have dd0 := Gr.at hg1 d0
      have dd1 := Gr.at hg1 d1
      have dd2 := Gr.at hg1 d2
      have dd3 := Gr.at hg1 d3
      clear c0 c1 c2 c3 d0 d1 d2 d3
      cases fa with
      | false =>
        have Hb := Lib.hid (Hbad.out (by rfl))
        go_wp2_with fail
        exact HR.out _ _ Hb.out (gr.trans hg1)
      | true =>
        go_wp2_with fail
        refine (Hfb.out w1 hg1).mono ?_
        rintro e w2 ⟨rfl, hg2⟩
        replace hg2 : Gr w1 w2 := hg2
        clear dd0 dd1 dd2 dd3
        have g2 : Gr w w2 := gr.trans (hg1.trans hg2)
        cases fb with
        | false =>
          have Hb := Lib.hid (Hbad.out (by rfl))
          go_wp2_with fail
          exact HR.out _ _ Hb.out g2
        | true =>
          have Hn := Lib.hid (Hok.out (by trivial) (by trivial))
          go_wp2_with fail
          go_roundg (l.length - (k + 1))
          case measure => omega
          case rel => exact ⟨k + 1, by omega, rfl, by go_num, Hn, g2⟩
    · obtain rfl : k = l.length := by omega
      have HA : Hid (true = allP l) := (allP_of fun j h hj => hpre.out j h hj).symm
      go_wp2_with fail
      exact HR.out _ _ HA.out gr

theorem formedP_of {l : List Pr} (h : allP l = true) : FormedP (seePrs l) := fun q hq => by
  obtain ⟨y, hy, rfl⟩ := List.mem_map.1 hq
  obtain ⟨j, hj, rfl⟩ := List.getElem_of_mem hy
  exact allP_at h hj

set_option maxHeartbeats 2000000 in
set_option maxRecDepth 100000 in
theorem unifySays_walk (x : Prs) (w : World) (h : x.In w) : Calls Try.prog 9 #[x.val] w (Ret (.bool true) w) := by
  obtain ⟨p, c, l⟩ := x
  have HP := Lib.hid h
  have Hfits := Lib.hid (fitsPairs_calls p c l w h)
  have Hsolve := Lib.hid (fun w' (g : Gr w w') => solve_calls p c l w' (h.mono g))
  have Hterms := Lib.hid (fun w' (g : Gr w w') => terms_calls p c l w' (h.mono g))
  have Huni := Lib.hid (fun (hf : allP l = true) w' (g : Gr w w') => runify_calls p c l w' (h.mono g) (fun y hy => by
    obtain ⟨j, hj, rfl⟩ := List.getElem_of_mem hy
    exact allP_at hf hj))
  have hR : Hid (∀ b w', true = b → Gr w w' → Ret (.bool true) w (.returned (.bool b)) w') := fun b w' h1 h2 => ⟨by rw [h1], h2⟩
  generalize Ret (.bool true) w = Q at hR ⊢
  have HR := hR
  clear h hR
  rw [show (Prs.mk p c l).val = .slice p l.length c from rfl]
  go_enter Try.func9, Try.ntmps9
  try simp only [List.append_eq, List.cons_append, List.nil_append]
  go_wp2_with fail
  refine Hfits.out.mono ?_
  rintro e w1 ⟨b, rfl, hfit, g1⟩
  have Hfit := Lib.hid hfit
  clear hfit Hfits
  cases b with
  | false =>
    go_wp2_with fail
    exact HR.out _ _ rfl g1
  | true =>
    go_wp2_with fail
    refine (Hsolve.out w1 g1).mono ?_
    rintro e w2 ⟨g2, hs⟩
    rcases hs with ⟨ha, rfl⟩ | ⟨ha, ⟨rfl, hun⟩ | ⟨ρ, p2, c2, s, rfl, ins, hlist, hcan, hho⟩⟩
    · have Ha := Lib.hid ha
      have Ht := Lib.hid (Hterms.out w2 (g1.trans g2))
      rw [ha] at Ht
      clear ha
      go_wp2_with fail
      refine Ht.out.mono ?_
      rintro e w3 ⟨rfl, g3⟩
      replace g3 : Gr w2 w3 := g3
      go_wp2_with fail
      exact HR.out _ _ rfl ((g1.trans g2).trans g3)
    · have Ha := Lib.hid ha
      have Hun := Lib.hid hun
      have Ht := Lib.hid (Hterms.out w2 (g1.trans g2))
      rw [ha] at Ht
      clear ha hun
      go_wp2_with fail
      refine Ht.out.mono ?_
      rintro e w3 ⟨rfl, g3⟩
      replace g3 : Gr w2 w3 := g3
      have g03 : Gr w w3 := (g1.trans g2).trans g3
      go_wp2_with fail
      refine (Huni.out Ha.out w3 g03).mono ?_
      rintro e w4 ⟨out, hrob, hout, g4⟩
      have hf := Hfit.out
      rw [PairsFit, if_pos Ha.out] at hf
      obtain ⟨o2, hr2, hng⟩ := hf
      obtain rfl := hr2.same_out hrob
      cases o2 with
      | grown => exact absurd rfl (hng rfl)
      | done r => exact absurd ((hrob.holds (formedP_of Ha.out)).2.1) (Hun.out r)
      | clash =>
        obtain rfl : e = _ := hout
        clear hrob hr2 hng
        go_wp2_with fail
        exact HR.out _ _ rfl (g03.trans g4)
    · have Ha := Lib.hid ha
      have Ht := Lib.hid (Hterms.out w2 (g1.trans g2))
      rw [ha] at Ht
      have Hl := Lib.hid hlist
      have Hc := Lib.hid hcan
      have Hh := Lib.hid hho
      have Ins := Lib.hid ins
      clear ha hlist hcan hho ins
      go_wp2_with fail
      refine Ht.out.mono ?_
      rintro e w3 ⟨rfl, g3⟩
      replace g3 : Gr w2 w3 := g3
      have g03 : Gr w w3 := (g1.trans g2).trans g3
      go_wp2_with fail
      refine (Huni.out Ha.out w3 g03).mono ?_
      rintro e w4 ⟨out, hrob, hout, g4⟩
      have hf := Hfit.out
      rw [PairsFit, if_pos Ha.out] at hf
      obtain ⟨o2, hr2, hng⟩ := hf
      obtain rfl := hr2.same_out hrob
      cases o2 with
      | grown => exact absurd rfl (hng rfl)
      | clash => exact absurd Hh.out.1 (Rob.none (formedP_of Ha.out) hrob ρ)
      | done r =>
        obtain rfl := Hh.out.rob (formedP_of Ha.out) Hc.out hrob
        obtain ⟨p4, c4, s4, rfl, in4, l4⟩ := hout
        have Hsb := Lib.hid (sameBinds_calls p2 p4 c2 c4 s s4 w4 (Ins.out.mono (g3.trans g4)) in4 (Hl.out.uniq l4))
        clear hrob hr2 hng in4 l4
        go_wp2_with fail
        refine Hsb.out.mono ?_
        rintro e w5 ⟨rfl, g5⟩
        replace g5 : Gr w4 w5 := g5
        go_wp2_with fail
        exact HR.out _ _ rfl ((g03.trans g4).trans g5)
end Go.Proofs.Yteonakicoomjkaa

namespace Go.Proofs.Yteonakicoomjkaa
open Go.RowKit

set_option maxHeartbeats 4000000 in
set_option maxRecDepth 100000 in
theorem rbindsF_calls (p : Option Addr) (c : Nat) (l : List Bd) (w : World) (hx : (Bds.mk p c l).In w) : Calls Try.prog 39 #[.slice p l.length c] w (Ret (.int .i64 (bindsErr l)) w) := by
  have HX := Lib.hid hx
  obtain ⟨hlc, ⟨hl64, hc⟩, _, _⟩ := hx
  simp only at hlc hl64 hc
  have hR : Hid (∀ n, bindsErr l = n → ∀ w', Gr w w' → Ret (.int .i64 (bindsErr l)) w (.returned (.int .i64 n)) w') := fun n h w' hg => ⟨by rw [h], hg⟩
  generalize hQ : Ret (.int .i64 (bindsErr l)) w = Q at hR ⊢
  clear hQ
  go_enter Try.func39, Try.ntmps39
  go_wp2_with fail
  go_loopw [3] (fun i wr => ∃ k : Nat, k ≤ l.length ∧ i = .int .i64 k ∧ Hid (((l.take k).all fun y => y.t.erase.formed) = true) ∧ Gr w wr) (fun i _ => l.length - (intOf i).toNat)
  case atStart => exact ⟨0, Nat.zero_le _, rfl, rfl, by go_grown⟩
  case round =>
    obtain ⟨k, hk, rfl, hpre, gr⟩ := hrel
    by_cases hlt : k < l.length
    · obtain ⟨b, o, rfl⟩ := HX.out.ptr (by omega)
      obtain ⟨⟨c0, c1, c2, c3, c4⟩, hti, _, hbl⟩ := (HX.out.mono gr).elem k hlt
      have Hti := Lib.hid hti
      have Hst : Hid (l[k].t.erase.formed = true → ((l.take (k + 1)).all fun y => y.t.erase.formed) = true) := fun h => all_take_snoc hlt hpre.out h
      have Hbad : Hid (l[k].t.erase.formed = false → bindsErr l = 2) := fun h => all_false hlt h
      clear hti
      generalize hye : l[k] = y at *
      go_wp2_with fail
      refine (rformed_calls (t := y.t) Hti.out).mono ?_
      cases hf : y.t.erase.formed with
      | false =>
        rintro e w1 ⟨rfl, hb1⟩
        have g1 : Gr w w1 := gr.trans hb1
        have Hb2 := Lib.hid (Hbad.out hf)
        clear c0 c1 c2 c3 c4 hb1 hf
        go_wp2_with fail
        exact hR.out _ Hb2.out _ (by go_grown)
      | true =>
        rintro e w1 ⟨rfl, hb1⟩
        have g1 : Gr w w1 := gr.trans hb1
        have Hf := Lib.hid hf
        clear c0 c1 c2 c3 c4 hb1 hf
        go_wp2_with fail
        go_roundw
        case rel => exact ⟨k + 1, by omega, by go_num, Hst.out Hf.out, by go_grown⟩
        case measure => simp [intOf]; omega
    · obtain rfl : k = l.length := by omega
      have Hall : Hid ((l.all fun y => y.t.erase.formed) = true) := by
        show _ = _
        have := hpre.out
        rwa [List.take_length] at this
      clear hpre
      go_wp2_with fail
      go_loopw [4] (fun i wr => ∃ (k : Nat) (last : Int), k ≤ l.length ∧ i = .int .i64 k ∧ Hid (((k = 0 ∧ last = -1) ∨ ∃ j, k = j + 1 ∧ ∃ h : j < l.length, l[j].v = last) ∧ -1 ≤ last ∧ ascB last (l.drop k) = ascB (-1) l) ∧ Gr w wr) (fun i _ => l.length - (intOf i).toNat)
      case atStart => exact ⟨0, -1, Nat.zero_le _, rfl, ⟨.inl ⟨rfl, rfl⟩, Int.le_refl _, rfl⟩, by go_grown⟩
      case round =>
        obtain ⟨k, last, hk, rfl, hasc, gr2⟩ := hrel
        by_cases hlt : k < l.length
        · obtain ⟨b, o, rfl⟩ := HX.out.ptr (by omega)
          obtain ⟨⟨c0, c1, c2, c3, c4⟩, _, ⟨hv1, hv2⟩, hbl⟩ := (HX.out.mono gr2).elem k hlt
          clear c1 c2 c3 c4
          obtain ⟨hprev, hlast, hst⟩ := hasc.out
          rw [asc_drop hlt] at hst
          have Hst := Lib.hid hst
          have HB1 : Hid (¬ (last < l[k].v ∧ l[k].v ≤ 1099511627776) → bindsErr l = 1) := fun h => by
            rw [bindsErr, if_pos Hall.out, if_neg]
            rw [← hst]
            intro h9
            simp only [Bool.and_eq_true, decide_eq_true_eq] at h9
            exact h ⟨h9.1, h9.2.1⟩
          have HN : Hid (last < l[k].v → l[k].v ≤ 1099511627776 → ((k + 1 = 0 ∧ l[k].v = -1) ∨ ∃ j, k + 1 = j + 1 ∧ ∃ h : j < l.length, l[j].v = l[k].v) ∧ -1 ≤ l[k].v ∧ ascB l[k].v (l.drop (k + 1)) = ascB (-1) l) := fun h1 h2 => ⟨.inr ⟨k, rfl, hlt, rfl⟩, by omega, by rw [← hst, decide_eq_true h1, decide_eq_true h2]; rfl⟩
          clear hst hasc
          generalize hye : l[k] = y at *
          obtain ⟨yv, yt⟩ := y
          simp only at *
          by_cases h0 : yv < 0
          · have h0' : decide (yv < 0) = true := decide_eq_true h0
            go_wp2_with fail
            go_quiet (fail)
            go_wp2_with fail
            exact hR.out _ (HB1.out (by omega)) _ (gr2.drewN _)
          by_cases h1 : 1099511627776 < yv
          · have h0' : decide (yv < 0) = false := decide_eq_false h0
            have h1' : decide (1099511627776 < yv) = true := decide_eq_true h1
            go_wp2_with fail
            go_quiet (fail)
            go_wp2_with fail
            exact hR.out _ (HB1.out (by omega)) _ (gr2.drewN _)
          have h0' : decide (yv < 0) = false := decide_eq_false h0
          have h1' : decide (1099511627776 < yv) = false := decide_eq_false h1
          by_cases hk0 : k = 0
          · have hpos : decide (0 < k) = false := decide_eq_false (by omega)
            have hl1 : last = -1 := by rcases hprev with h | ⟨j, h, _⟩; exact h.2; omega
            have HN2 := Lib.hid (HN.out (by omega) (by omega))
            clear hk0
            go_wp2_with fail
            go_quiet (fail)
            go_wp2_with fail
            go_roundw
            case rel => exact ⟨k + 1, yv, by omega, by go_num, HN2.out, gr2.drewN _⟩
            case measure => simp [intOf]; omega
          · obtain ⟨k, rfl⟩ : ∃ j, k = j + 1 := ⟨k - 1, by omega⟩
            obtain ⟨⟨d0, d1, d2, d3, d4⟩, _, ⟨hu1, hu2⟩, _⟩ := (HX.out.mono gr2).elem k (by omega)
            clear d1 d2 d3 d4
            have hl2 : l[k].v = last := by rcases hprev with h | ⟨j, h, hj, hv⟩; omega; (obtain rfl : k = j := by omega); exact hv
            generalize hue : l[k] = u at *
            obtain ⟨uv, ut⟩ := u
            simp only at *
            have hj : IntKind.i64.wrap (((k + 1 : Nat) : Int) - 1) = (k : Int) := by rw [IntWalk.i64_in _ (by omega)]; omega
            have hj2 : (((k + 1 : Nat) : Int) - 1) = (k : Int) := by omega
            have hpos : decide (0 < ((k + 1 : Nat) : Int)) = true := decide_eq_true (by omega)
            by_cases h2 : yv ≤ uv
            · have h2' : decide (yv ≤ uv) = true := decide_eq_true h2
              go_wp2_with fail
              go_quiet (fail)
              go_wp2_with fail
              exact hR.out _ (HB1.out (by omega)) _ (gr2.drewN _)
            · have h2' : decide (yv ≤ uv) = false := decide_eq_false h2
              have HN2 := Lib.hid (HN.out (by omega) (by omega))
              go_wp2_with fail
              go_quiet (fail)
              go_wp2_with fail
              go_roundw
              case rel => exact ⟨k + 1 + 1, yv, by omega, by go_num, HN2.out, gr2.drewN _⟩
              case measure => simp [intOf]; omega
        · go_wp2_with fail
          obtain rfl : k = l.length := by omega
          exact hR.out _ (by rw [bindsErr, if_pos Hall.out, if_pos (by rw [← hasc.out.2.2, List.drop_length, ascB])]) _ (by go_grown)
end Go.Proofs.Yteonakicoomjkaa
