/-
  term.Compose: the walk.
  hornref.Formed
  hornref.Binds in full.
  hornlaw.none
-/
import Derived.Test.YteonakicoomjkaaTB13
import Derived.Test.YteonakicoomjkaaTB01
import Derived.Test.YteonakicoomjkaaTB11
import Derived.Deep.QuietTactic
import Derived.BigQuiet
import Derived.Test.YteonakicoomjkaaTB04
namespace Go.Proofs.Yteonakicoomjkaa
open Go.RowKit Go.Maps Go.Lib

set_option maxHeartbeats 200000 in
set_option maxRecDepth 100000 in
theorem compose_calls (p q : Option Addr) (c d : Nat) (s u : List Bd) (w : World) (hs : (Bds.mk p c s).In w) (hu : (Bds.mk q d u).In w) :
    Calls Try.prog 38 #[.slice p s.length c, .slice q u.length d] w (RetComp s u w) := by
  have HS := Lib.hid hs
  have HU := Lib.hid hu
  have hsl := hs.2.1.1
  have hul := hu.2.1.1
  simp only at hsl hul
  have hR : Hid (∀ e : Int, compErr s u = e → e ≠ 0 → ∀ w', Gr w w' → RetComp s u w (.returned (.tuple #[.slice none 0 0, .int .i64 e])) w') := fun e he h0 w' hg => comp_err he h0 hg
  have hR2 : Hid (∀ e w1 w', Gr w w1 → compErr s u = 0 → ∀ p c l, e = .returned (.tuple #[.slice p l.length c, .int .i64 0]) → (Bds.mk p c l).In w' → IsBinds (compM s u) l → Gr w1 w' → RetComp s u w e w') := fun e w1 w' h1 h2 p c l h3 h4 h5 h6 => ⟨p, c, l, by rw [h2]; exact h3, h4, h1.trans h6, fun h => absurd h2 h, fun _ => h5⟩
  have hE : Hid (∀ a b, bindsErr s = a → bindsErr u = b → compErr s u = if a = 2 ∨ b = 2 then 2 else if a ≠ 0 ∨ b ≠ 0 then 1 else 0) := fun a b h1 h2 => by rw [compErr, h1, h2]
  have hcs := checkBinds_calls p c s w hs
  have hcu : ∀ w', Gr w w' → Calls Try.prog 109 #[.slice q u.length d] w' (Ret (.int .i64 (bindsErr u)) w') := fun w' g => checkBinds_calls q d u w' (HU.out.mono g)
  generalize hes : bindsErr s = a at hcs
  generalize heu : bindsErr u = b at hcu
  have HE := Lib.hid (hE.out a b hes heu)
  have Hes := Lib.hid hes
  have Heu := Lib.hid heu
  clear hs hu hes heu hE
  generalize hQ : RetComp s u w = Q at hR hR2 ⊢
  clear hQ
  have Hcs := Lib.hid hcs
  have Hcu := Lib.hid hcu
  clear hcs hcu
  go_enter Try.func38, Try.ntmps38
  try simp only [List.append_eq, List.cons_append, List.nil_append]
  go_upto_region 1 with fail
  go_wp2_with fail
  refine (Hcs.out).mono ?_
  rintro e w1 ⟨rfl, g1⟩
  go_wp2_with fail
  refine (Hcu.out w1 g1).mono ?_
  rintro e w2 ⟨rfl, g2⟩
  have g02 : Gr w w2 := Below.trans g1 (Below.mono g2 g1.size)
  have hmm := @run_makeMap Try.prog
  have h3 := bindsErr_cases3 s
  have h4 := bindsErr_cases3 u
  rw [Hes.out] at h3
  rw [Heu.out] at h4
  go_upto_region 2 with fail
  rcases h3 with rfl | rfl | rfl <;> rcases h4 with rfl | rfl | rfl
  case inl.inl =>
    go_upto_region 7 with fail
    have Hzs := Lib.hid (bindsErr_zero Hes.out)
    have Hzu := Lib.hid (bindsErr_zero Heu.out)
    have HE0 := Lib.hid (show compErr s u = 0 from HE.out.trans (by decide))
    have hM := TMap.made (fun x => w2.heap.size < x) w2
    have gA : Gr w (w2.alloc (.map #[] 0)) := Below.trans g02 (Below.mono (show Gr w2 _ by go_grown) g02.size)
    have hA : w2.heap.size < (w2.alloc (.map #[] 0)).heap.size := by simp
    have hwM : w.heap.size ≤ w2.heap.size := g02.size
    generalize w2.alloc (.map #[] 0) = wA at *
    generalize w2.heap.size = M at *
    have HM := Lib.hid hM
    clear hM hmm g1 g2 g02
    go_wp2_with fail
    go_loopg [34] u.length (fun m i wr => ∃ k : Nat, k ≤ u.length ∧ m = u.length - k ∧ i = .int .i64 k ∧ Gr w wr ∧ M < wr.heap.size ∧ Hid (TMap (fun x => M < x) wr M (putAll (fun y => y.t.erase) (u.take k) (fun _ => none))))
    case atStart => exact ⟨0, Nat.zero_le _, rfl, rfl, gA, hA, HM⟩
    case round =>
      obtain ⟨k, hk, rfl, rfl, gr, hMr, hmap⟩ := hrel
      by_cases hlt : k < u.length
      · obtain ⟨b, o, rfl⟩ := HU.out.ptr (by omega)
        obtain ⟨⟨c0, c1, c2, c3, c4⟩, hti, ⟨hv1, hv2⟩, hbl⟩ := (HU.out.mono gr).elem k hlt
        have Hti := Lib.hid hti
        have Hfy := Lib.hid (formed_at Hzu.out.1 k hlt)
        have Hay := Lib.hid (asc_at Hzu.out.2 k hlt)
        have Hput := Lib.hid (putAll_snoc (fun y => y.t.erase) u (fun _ => none) k hlt)
        clear hti
        generalize u[k] = y at *
        go_upto_region 10 with fail
        have hB := BlkT.new wr 75 (bdCells y)
        have gB : Gr wr (wr.alloc (.cells (bdCells y) 75)) := by go_grown
        simp only [bdCells] at hB gB
        generalize wr.alloc (.cells #[.int .i64 y.v, .int .i64 y.t.k, .int .i64 y.t.n, .string y.t.s, .slice y.t.p y.t.l.length y.t.c] 75) = wB at *
        have HB := Lib.hid hB
        have HtB := Lib.hid (Tm.In_below gB Hti.out)
        have hHl : wr.heap.size < wB.heap.size := HB.out.lt
        have grB : Gr w wB := Below.trans gr (Below.mono gB gr.size)
        have HmB := Lib.hid (hmap.out.kp (C := fun _ => False) (Kp.of_gr gB) id (fun _ _ => id))
        have hMB : M < wB.heap.size := Nat.lt_of_lt_of_le hMr gB.size
        generalize wr.heap.size = H at *
        clear hB c0 c1 c2 c3 c4 gB gr hmap
        have Hyv := Lib.hid (show y.t.val = .agg #[.int .i64 y.t.k, .int .i64 y.t.n, .string y.t.s, .slice y.t.p y.t.l.length y.t.c] from rfl)
        refine wp_region_rely_tail 6 [fx (.map (some M)), fx (.pointer (some ⟨H, 0, none⟩)), fx (.int .i64 y.v), fx (.pointer (some ⟨H, 1, none⟩)), fx y.t.val, tmIs (wB.heap.size ≤ ·) y.t.erase]
          (by kernel_rfl) (by kernel_rfl) (by decide) (by repeat (first | exact Stable.nil | refine Stable.fix ?_ | refine Stable.cons tmIs_stable ?_)) ?_ ?_
        · refine ⟨?_, ?_, ?_, ?_, ?_, ?a5, trivial⟩
          all_goals
            intro a wz hg hold
            have h8 : a.tmps[8]?.getD undef = .map (some M) := hold 8 rfl
            have h10 : a.tmps[10]?.getD undef = .pointer (some ⟨H, 0, none⟩) := hold 10 rfl
            clear hold
            have z0 := Gr.at hg (HB.out.cell 0 (v := .int .i64 y.v) rfl)
            have z1 := Gr.at hg (HB.out.cell 1 (v := .int .i64 y.t.k) rfl)
            have z2 := Gr.at hg (HB.out.cell 2 (v := .int .i64 y.t.n) rfl)
            have z3 := Gr.at hg (HB.out.cell 3 (v := .string y.t.s) rfl)
            have z4 := Gr.at hg (HB.out.cell 4 (v := .slice y.t.p y.t.l.length y.t.c) rfl)
            simp [predsImp, Region.binds, dstAt, fx]
            intros
            first
              | (rw [if_pos (by simp [*])]
                 intro K hK)
              | (rename_i K hK)
            go_simp
          case a5 =>
            refine (copy_calls (t := y.t) (Tm.In_below hg HtB.out) Hfy.out).mono ?_
            rintro e w10 ⟨z, i1, i2, rfl, ib, i3⟩
            exact hK _ _ ⟨z, rfl, i1, i2, i3.mono fun b hb => Nat.le_trans hg.size hb⟩ ib
          all_goals exact hK _ _ rfl (Gr.rfl' _)
        · intro wz hg
          rintro _ rfl _ rfl _ rfl _ rfl _ rfl _ ⟨z, rfl, i1, i2, i3⟩
          simp only [finAll, Act.put, List.setIfInBounds_toArray, List.set_cons_succ, List.set_cons_zero, List.drop_succ_cons, List.drop_zero, List.take_zero]
          obtain ⟨w5, hup, hm5, hg5⟩ := (HmB.out.kp (C := fun _ => False) (Kp.of_gr hg) id (fun _ _ => id)).store (fun x hx => Nat.ne_of_gt hx) Hay.out i1 (by rw [i2]; exact Hfy.out) (i3.mono fun x hx => Nat.lt_of_lt_of_le hMB hx)
          have gr5 : Gr w w5 := Below.trans (Below.trans grB (Below.mono hg grB.size)) ((Kp.of_grownBy (C := (· = M)) hg5 rfl).below (fun x hx => by omega) (by have := hg.size; have := grB.size; omega))
          have hM5 : M < w5.heap.size := Nat.lt_of_lt_of_le hMB (Nat.le_trans hg.size hg5.size)
          rw [i2] at hm5
          have Hm5 := Lib.hid hm5
          clear hm5
          go_wp2_with fail
          go_roundg (u.length - (k + 1))
          case measure => omega
          case rel => exact ⟨k + 1, by omega, rfl, by go_num, gr5, hM5, by show TMap _ _ _ _; rw [Hput.out]; exact Hm5.out⟩
      · obtain rfl : k = u.length := by omega
        have hmU := hmap.out
        rw [List.take_length] at hmU
        have HmU := Lib.hid hmU
        clear hmU hmap
        generalize hfU : putAll (fun y => y.t.erase) u (fun _ => none) = fU at *
        have HC := Lib.hid (show compM s u = putAll (fun y => T.map (lookupT u) y.t.erase) s fU by rw [compM, hfU])
        clear hfU
        go_wp2_with fail
        go_loopg [47] s.length (fun m i wx => ∃ k : Nat, k ≤ s.length ∧ m = s.length - k ∧ i = .int .i64 k ∧ Gr w wx ∧ M < wx.heap.size ∧ Hid (TMap (fun x => M < x) wx M (putAll (fun y => T.map (lookupT u) y.t.erase) (s.take k) fU)))
        case atStart => exact ⟨0, Nat.zero_le _, rfl, rfl, gr, hMr, HmU⟩
        case round =>
          clear gr hMr HmU hlt
          obtain ⟨k, hk, rfl, rfl, gr, hMr, hmap⟩ := hrel
          by_cases hlt : k < s.length
          · obtain ⟨b, o, rfl⟩ := HS.out.ptr (by omega)
            obtain ⟨⟨c0, c1, c2, c3, c4⟩, hti, ⟨hv1, hv2⟩, hbl⟩ := (HS.out.mono gr).elem k hlt
            have Htj := Lib.hid hti
            have Hfy := Lib.hid (formed_at Hzs.out.1 k hlt)
            have Hay := Lib.hid (asc_at Hzs.out.2 k hlt)
            have Hput := Lib.hid (putAll_snoc (fun y => T.map (lookupT u) y.t.erase) s fU k hlt)
            clear hti
            generalize s[k] = y at *
            go_upto_region 15 with fail
            have hB := BlkT.new wr 75 (bdCells y)
            have gB : Gr wr (wr.alloc (.cells (bdCells y) 75)) := by go_grown
            simp only [bdCells] at hB gB
            generalize wr.alloc (.cells #[.int .i64 y.v, .int .i64 y.t.k, .int .i64 y.t.n, .string y.t.s, .slice y.t.p y.t.l.length y.t.c] 75) = wB at *
            have HB := Lib.hid hB
            have HtB := Lib.hid (Tm.In_below gB Htj.out)
            have hHl : wr.heap.size < wB.heap.size := HB.out.lt
            have grB : Gr w wB := Below.trans gr (Below.mono gB gr.size)
            have HmB := Lib.hid (hmap.out.kp (C := fun _ => False) (Kp.of_gr gB) id (fun _ _ => id))
            have hMB : M < wB.heap.size := Nat.lt_of_lt_of_le hMr gB.size
            generalize wr.heap.size = H at *
            clear hB c0 c1 c2 c3 c4 gB gr hmap
            have Hyv := Lib.hid (show y.t.val = .agg #[.int .i64 y.t.k, .int .i64 y.t.n, .string y.t.s, .slice y.t.p y.t.l.length y.t.c] from rfl)
            refine wp_region_rely_tail 7 [fx (.map (some M)), fx (.pointer (some ⟨H, 0, none⟩)), fx (.int .i64 y.v), fx (.pointer (some ⟨H, 1, none⟩)), fx y.t.val, fx (.slice q u.length d), tmIs (wB.heap.size ≤ ·) (T.map (lookupT u) y.t.erase)]
              (by kernel_rfl) (by kernel_rfl) (by decide) (by repeat (first | exact Stable.nil | refine Stable.fix ?_ | refine Stable.cons tmIs_stable ?_)) ?_ ?_
            · refine ⟨?_, ?_, ?_, ?_, ?_, ?_, ?a5, trivial⟩
              all_goals
                intro a wz hg hold
                have h8 : a.tmps[8]?.getD undef = .map (some M) := hold 8 rfl
                have h1 : a.tmps[1]?.getD undef = .slice q u.length d := hold 1 rfl
                have h12 : a.tmps[12]?.getD undef = .pointer (some ⟨H, 0, none⟩) := hold 12 rfl
                clear hold
                have z0 := Gr.at hg (HB.out.cell 0 (v := .int .i64 y.v) rfl)
                have z1 := Gr.at hg (HB.out.cell 1 (v := .int .i64 y.t.k) rfl)
                have z2 := Gr.at hg (HB.out.cell 2 (v := .int .i64 y.t.n) rfl)
                have z3 := Gr.at hg (HB.out.cell 3 (v := .string y.t.s) rfl)
                have z4 := Gr.at hg (HB.out.cell 4 (v := .slice y.t.p y.t.l.length y.t.c) rfl)
                simp [predsImp, Region.binds, dstAt, fx]
                intros
                first
                  | (rw [if_pos (by simp [*])]
                     intro K hK)
                  | (rename_i K hK)
                go_simp
              case a5 =>
                refine (applied_calls y.t q d u wz (Tm.In_below hg HtB.out) Hfy.out (HU.out.mono (Below.trans grB (Below.mono hg grB.size))) Hzu.out.2 Hzu.out.1).mono ?_
                rintro e w10 ⟨z, i1, i2, rfl, ib, i3⟩
                exact hK _ _ ⟨z, rfl, i1, i2, i3.mono fun b hb => Nat.le_trans hg.size hb⟩ ib
              all_goals exact hK _ _ rfl (Gr.rfl' _)
            · intro wz hg
              rintro _ rfl _ rfl _ rfl _ rfl _ rfl _ rfl _ ⟨z, rfl, i1, i2, i3⟩
              simp only [finAll, Act.put, List.setIfInBounds_toArray, List.set_cons_succ, List.set_cons_zero, List.drop_succ_cons, List.drop_zero, List.take_zero]
              obtain ⟨w5, hup, hm5, hg5⟩ := (HmB.out.kp (C := fun _ => False) (Kp.of_gr hg) id (fun _ _ => id)).store (fun x hx => Nat.ne_of_gt hx) Hay.out i1 (by rw [i2]; exact formed_mapped _ (lookup_formed Hzu.out.1) _ Hfy.out) (i3.mono fun x hx => Nat.lt_of_lt_of_le hMB hx)
              have gr5 : Gr w w5 := Below.trans (Below.trans grB (Below.mono hg grB.size)) ((Kp.of_grownBy (C := (· = M)) hg5 rfl).below (fun x hx => by omega) (by have := hg.size; have := grB.size; omega))
              have hM5 : M < w5.heap.size := Nat.lt_of_lt_of_le hMB (Nat.le_trans hg.size hg5.size)
              rw [i2] at hm5
              have Hm5 := Lib.hid hm5
              clear hm5
              go_wp2_with fail
              go_roundg (s.length - (k + 1))
              case measure => omega
              case rel => exact ⟨k + 1, by omega, rfl, by go_num, gr5, hM5, by show TMap _ _ _ _; rw [Hput.out]; exact Hm5.out⟩
          · obtain rfl : k = s.length := by omega
            have hmS := hmap.out
            rw [List.take_length, ← HC.out] at hmS
            have HmS := Lib.hid hmS
            clear hmS hmap
            go_wp2_with (first
              | (go_at_call 111; refine (binds_calls M (compM s u) _ HmS.out).mono ?_; rintro e w6 ⟨p6, c6, l6, rfl, h6, hi6, _, g6⟩; have HI6 := Lib.hid (And.intro h6 hi6); clear h6 hi6)
              | fail)
            exact hR2.out _ _ _ gr HE0.out p6 c6 l6 rfl HI6.out.1 HI6.out.2 g6
  all_goals
    go_wp2_with fail
    exact hR.out _ (HE.out.trans (by decide)) (by decide) _ g02
end Go.Proofs.Yteonakicoomjkaa

namespace Go.Proofs.Yteonakicoomjkaa
open Go.RowKit

theorem formedL_prefix {l : List Tm} (k : Nat) (h : T.formedL (Tm.eraseL (l.take k)) = false) : T.formedL (Tm.eraseL l) = false := by
  induction l generalizing k with
  | nil => simp at h; exact h
  | cons x xs ih =>
    cases k with
    | zero => simp [Tm.eraseL, T.formedL] at h
    | succ k =>
      simp only [List.take_succ_cons, Tm.eraseL, T.formedL, Bool.and_eq_false_iff] at h ⊢
      exact h.imp id (ih k)

set_option maxHeartbeats 1000000 in
set_option maxRecDepth 100000 in
theorem rformed_leaf (k n : Int) (s : ByteArray) (p : Option Addr) (c : Nat) (l : List Tm) (w : World) (h : (Tm.mk k n s p c l).In w) (hk4 : k ≠ 4) :
    Calls Try.prog 15 #[(Tm.mk k n s p c l).val] w (Ret (.bool (T.formed (Tm.mk k n s p c l).erase)) w) := by
  rw [Tm.In] at h
  obtain ⟨⟨hk5, hk6⟩, ⟨hn1, hn2⟩, hs, hl, hc, _, _⟩ := h
  simp only [Tm.val, Tm.k, Tm.n, Tm.s, Tm.p, Tm.c, Tm.l, Tm.erase, T.formed, Tm.eraseL_length, toList_length]
  generalize hr : (if k = 1 then _ else _ : Bool) = r
  have Hr := Lib.hid hr
  clear hr
  by_cases hk1 : k = 1
  · subst hk1
    go_enter Try.func15, Try.ntmps15
    go_wp2_with fail
    all_goals
      go_ret
      refine ret_bool ?_ (by go_grown)
      refine Eq.trans ?_ Hr.out
      clear Hr
      first | (simp [*]; done) | (simp_all; done) | (simp_all; omega)
  by_cases hk2 : k = 2
  · subst hk2
    go_enter Try.func15, Try.ntmps15
    go_wp2_with fail
    all_goals
      go_ret
      refine ret_bool ?_ (by go_grown)
      refine Eq.trans ?_ Hr.out
      clear Hr
      first | (simp [*, len_beq_zero]; done) | (simp_all [len_beq_zero]; done) | (simp_all [len_beq_zero]; omega)
  by_cases hk3 : k = 3
  · subst hk3
    go_enter Try.func15, Try.ntmps15
    go_wp2_with fail
    all_goals
      go_ret
      refine ret_bool ?_ (by go_grown)
      refine Eq.trans ?_ Hr.out
      clear Hr
      first | (simp [*, len_beq_zero]; done) | (simp_all [len_beq_zero]; done) | (simp_all [len_beq_zero]; omega)
  · have Hfin : Hid (r = false) := by
      refine Hr.out.symm.trans ?_
      simp [hk1, hk2, hk3, hk4]
    clear Hr
    have hk1' : (k == 1) = false := by simp [hk1]
    have hk2' : (k == 2) = false := by simp [hk2]
    have hk3' : (k == 3) = false := by simp [hk3]
    have hk4' : (k == 4) = false := by simp [hk4]
    clear hk1 hk2 hk3 hk4
    go_enter Try.func15, Try.ntmps15
    go_wp2_with fail
    all_goals
      go_rounds 1
      go_ret
      exact ret_bool Hfin.out.symm (by go_grown)

set_option maxHeartbeats 1000000 in
set_option maxRecDepth 100000 in
theorem rformed_bad (n : Int) (s : ByteArray) (p : Option Addr) (c : Nat) (l : List Tm) (w : World) (h : (Tm.mk 4 n s p c l).In w) (hg : ¬ (n = 0 ∧ s.size ≤ 100 ∧ 1 ≤ l.length ∧ l.length ≤ 50)) :
    Calls Try.prog 15 #[(Tm.mk 4 n s p c l).val] w (Ret (.bool false) w) := by
  rw [Tm.In] at h
  obtain ⟨_, ⟨hn1, hn2⟩, hs, hl, hc, _, _⟩ := h
  simp only [Tm.val, Tm.k, Tm.n, Tm.s, Tm.p, Tm.c, Tm.l]
  by_cases h1 : n = 0
  · subst h1
    by_cases h2 : s.size ≤ 100
    · have h2' : (s.size : Int) ≤ 100 := by omega
      by_cases h3 : 1 ≤ l.length
      · have h3' : (1 : Int) ≤ l.length := by omega
        have h4 : ¬ (l.length : Int) ≤ 50 := by omega
        clear hg
        go_enter Try.func15, Try.ntmps15
        go_wp2_with fail
        all_goals
          go_rounds 1
          go_ret
          exact ret_bool rfl (by go_grown)
      · have h3' : ¬ (1 : Int) ≤ l.length := by omega
        clear hg
        go_enter Try.func15, Try.ntmps15
        go_wp2_with fail
        all_goals
          go_rounds 1
          go_ret
          exact ret_bool rfl (by go_grown)
    · have h2' : ¬ (s.size : Int) ≤ 100 := by omega
      clear hg
      go_enter Try.func15, Try.ntmps15
      go_wp2_with fail
      all_goals
        go_rounds 1
        go_ret
        exact ret_bool rfl (by go_grown)
  · have h1' : (n == 0) = false := by simp [h1]
    clear hg
    go_enter Try.func15, Try.ntmps15
    go_wp2_with fail
    all_goals
      go_rounds 1
      go_ret
      exact ret_bool rfl (by go_grown)

set_option maxHeartbeats 1000000 in
set_option maxRecDepth 100000 in
theorem rformed_any (N : Nat) : ∀ (t : Tm) (w : World), SizeOf.sizeOf t ≤ N → t.In w →
    Calls Try.prog 15 #[t.val] w (Ret (.bool (T.formed t.erase)) w) := by
  induction N with
  | zero => intro t w h _; cases t; simp at h
  | succ N ih =>
    intro t w hN h
    obtain ⟨k, n, s, p, c, l⟩ := t
    by_cases hk4 : k = 4
    · subst hk4
      have hr : T.formed (Tm.mk 4 n s p c l).erase = (decide (n = 0) && decide (s.size ≤ 100) && decide (1 ≤ l.length) && decide (l.length ≤ 50) && T.formedL (Tm.eraseL l)) := by
        simp only [Tm.erase, T.formed, Tm.eraseL_length, toList_length]
        rfl
      by_cases hg : n = 0 ∧ s.size ≤ 100 ∧ 1 ≤ l.length ∧ l.length ≤ 50
      · obtain ⟨rfl, h2, h3, h4⟩ := hg
        rw [hr]
        have hr2 : (decide ((0 : Int) = 0) && decide (s.size ≤ 100) && decide (1 ≤ l.length) && decide (l.length ≤ 50) && T.formedL (Tm.eraseL l)) = T.formedL (Tm.eraseL l) := by
          simp [h2, h3, h4]
        rw [hr2]
        clear hr hr2
        have H := Lib.hid h.sl
        have hsz := fun x (hx : x ∈ l) => Tm.sizeOf_mem hx 4 0 s p c
        rw [Tm.In] at h
        obtain ⟨_, _, hs, hl, hc, _, _⟩ := h
        have Hsz := Lib.hid hsz
        have Hih := Lib.hid ih
        clear hsz ih
        simp only [Tm.val, Tm.k, Tm.n, Tm.s, Tm.p, Tm.c, Tm.l]
        generalize hr : T.formedL (Tm.eraseL l) = r
        have Hr := Lib.hid hr
        clear hr
        obtain ⟨b, o, rfl⟩ := H.out.ptr (by omega)
        have h2' : (s.size : Int) ≤ 100 := by omega
        have h3' : (1 : Int) ≤ l.length := by omega
        have h4' : (l.length : Int) ≤ 50 := by omega
        go_enter Try.func15, Try.ntmps15
        go_wp2_with fail
        all_goals
          go_loopw [5, 6] (fun v5 v6 wr => ∃ (k : Nat) (ok : Bool), k ≤ l.length ∧ v5 = .bool ok ∧ v6 = .int .i64 k ∧ Hid (T.formedL (Tm.eraseL (l.take k)) = ok) ∧ Gr w wr ∧
              w.heap.size + 1 ≤ wr.heap.size ∧ wr.cell? ⟨w.heap.size, 3, none⟩ = some (.slice (some ⟨b, o, none⟩) l.length c))
            (fun _ i _ => l.length - (intOf i).toNat)
          case atStart => exact ⟨0, true, Nat.zero_le _, rfl, rfl, rfl, by go_grown, by simp, by go_cell⟩
          case round =>
            obtain ⟨k, ok, hk, rfl, rfl, hpre, hb, hbs, b1⟩ := hrel
            cases ok
            · go_wp2_with fail
              go_ret
              refine ret_bool ?_ hb
              rw [← Hr.out, formedL_prefix k hpre.out]
            · by_cases hlt : k < l.length
              · have hS := H.out.mono hb
                obtain ⟨⟨c0, c1, c2, c3⟩, hx, _⟩ := hS.elem k hlt
                have Hx := Lib.hid hx
                have hmem : l[k] ∈ l := List.getElem_mem hlt
                have Hz := Hsz.out _ hmem
                clear hS hx
                generalize hxe : l[k] = x at *
                go_wp2_with fail
                refine (Hih.out x _ (by omega) (Tm.In_below (by go_grown) Hx.out)).mono ?_
                rintro e w1 ⟨rfl, hb1⟩
                have b1' := Gr.at hb1 b1
                have hs1 := hb1.size
                generalize hxf : x.erase.formed = bx
                have Hxf := Lib.hid hxf
                clear hxf b1
                have Htk : Hid (T.formedL (Tm.eraseL (l.take (k + 1))) = bx) := by
                  have h9 := formedL_take l k hlt
                  rw [hpre.out, hxe, Hxf.out] at h9
                  exact h9
                go_wp2_with fail
                go_roundw
                case rel => exact ⟨k + 1, bx, by omega, rfl, by go_num, Htk.out, below_step hb1 (by go_grown), by omega, b1'⟩
                case measure => simp [intOf]; omega
              · go_wp2_with fail
                go_ret
                refine ret_bool ?_ hb
                rw [← Hr.out, ← hpre.out, List.take_of_length_le (by omega)]
      · have : T.formed (Tm.mk 4 n s p c l).erase = false := by
          rw [hr, Bool.eq_false_iff]
          intro h9
          simp only [Bool.and_eq_true, decide_eq_true_eq] at h9
          exact hg ⟨h9.1.1.1.1, h9.1.1.1.2, h9.1.1.2, h9.1.2⟩
        rw [this]
        exact rformed_bad n s p c l w h hg
    · exact rformed_leaf k n s p c l w h hk4

/-- hornref.Formed, of whatever term. -/
theorem rformed_calls {t : Tm} {w : World} (h : t.In w) : Calls Try.prog 15 #[t.val] w (Ret (.bool (T.formed t.erase)) w) :=
  rformed_any _ t w (Nat.le_refl _) h

end Go.Proofs.Yteonakicoomjkaa

namespace Go.Proofs.Yteonakicoomjkaa
open Go.RowKit

set_option maxHeartbeats 4000000 in
set_option maxRecDepth 100000 in
theorem rbindsF_calls (p : Option Addr) (c : Nat) (l : List Bd) (w : World) (hx : (Bds.mk p c l).In w) : Calls Try.prog 39 #[.slice p l.length c] w (Ret (.int .i64 (bindsErr l)) w) := by
  have HX := Lib.hid hx
  obtain ⟨hlc, ⟨hl64, hc⟩, _, _⟩ := hx
  simp only at hlc hl64 hc
  have hR : Hid (∀ n, bindsErr l = n → ∀ w', Gr w w' → Ret (.int .i64 (bindsErr l)) w (.returned (.int .i64 n)) w') := fun n h w' hg => ⟨by rw [h], hg⟩
  generalize hQ : Ret (.int .i64 (bindsErr l)) w = Q at hR ⊢
  clear hQ
  go_enter Try.func39, Try.ntmps39
  go_wp2_with fail
  go_loopw [3] (fun i wr => ∃ k : Nat, k ≤ l.length ∧ i = .int .i64 k ∧ Hid (((l.take k).all fun y => y.t.erase.formed) = true) ∧ Gr w wr) (fun i _ => l.length - (intOf i).toNat)
  case atStart => exact ⟨0, Nat.zero_le _, rfl, rfl, by go_grown⟩
  case round =>
    obtain ⟨k, hk, rfl, hpre, gr⟩ := hrel
    by_cases hlt : k < l.length
    · obtain ⟨b, o, rfl⟩ := HX.out.ptr (by omega)
      obtain ⟨⟨c0, c1, c2, c3, c4⟩, hti, _, hbl⟩ := (HX.out.mono gr).elem k hlt
      have Hti := Lib.hid hti
      have Hst : Hid (l[k].t.erase.formed = true → ((l.take (k + 1)).all fun y => y.t.erase.formed) = true) := fun h => all_take_snoc hlt hpre.out h
      have Hbad : Hid (l[k].t.erase.formed = false → bindsErr l = 2) := fun h => all_false hlt h
      clear hti
      generalize hye : l[k] = y at *
      go_wp2_with fail
      refine (rformed_calls (t := y.t) Hti.out).mono ?_
      cases hf : y.t.erase.formed with
      | false =>
        rintro e w1 ⟨rfl, hb1⟩
        have g1 : Gr w w1 := gr.trans hb1
        have Hb2 := Lib.hid (Hbad.out hf)
        clear c0 c1 c2 c3 c4 hb1 hf
        go_wp2_with fail
        exact hR.out _ Hb2.out _ (by go_grown)
      | true =>
        rintro e w1 ⟨rfl, hb1⟩
        have g1 : Gr w w1 := gr.trans hb1
        have Hf := Lib.hid hf
        clear c0 c1 c2 c3 c4 hb1 hf
        go_wp2_with fail
        go_roundw
        case rel => exact ⟨k + 1, by omega, by go_num, Hst.out Hf.out, by go_grown⟩
        case measure => simp [intOf]; omega
    · obtain rfl : k = l.length := by omega
      have Hall : Hid ((l.all fun y => y.t.erase.formed) = true) := by
        show _ = _
        have := hpre.out
        rwa [List.take_length] at this
      clear hpre
      go_wp2_with fail
      go_loopw [4] (fun i wr => ∃ (k : Nat) (last : Int), k ≤ l.length ∧ i = .int .i64 k ∧ Hid (((k = 0 ∧ last = -1) ∨ ∃ j, k = j + 1 ∧ ∃ h : j < l.length, l[j].v = last) ∧ -1 ≤ last ∧ ascB last (l.drop k) = ascB (-1) l) ∧ Gr w wr) (fun i _ => l.length - (intOf i).toNat)
      case atStart => exact ⟨0, -1, Nat.zero_le _, rfl, ⟨.inl ⟨rfl, rfl⟩, Int.le_refl _, rfl⟩, by go_grown⟩
      case round =>
        obtain ⟨k, last, hk, rfl, hasc, gr2⟩ := hrel
        by_cases hlt : k < l.length
        · obtain ⟨b, o, rfl⟩ := HX.out.ptr (by omega)
          obtain ⟨⟨c0, c1, c2, c3, c4⟩, _, ⟨hv1, hv2⟩, hbl⟩ := (HX.out.mono gr2).elem k hlt
          clear c1 c2 c3 c4
          obtain ⟨hprev, hlast, hst⟩ := hasc.out
          rw [asc_drop hlt] at hst
          have Hst := Lib.hid hst
          have HB1 : Hid (¬ (last < l[k].v ∧ l[k].v ≤ 1099511627776) → bindsErr l = 1) := fun h => by
            rw [bindsErr, if_pos Hall.out, if_neg]
            rw [← hst]
            intro h9
            simp only [Bool.and_eq_true, decide_eq_true_eq] at h9
            exact h ⟨h9.1, h9.2.1⟩
          have HN : Hid (last < l[k].v → l[k].v ≤ 1099511627776 → ((k + 1 = 0 ∧ l[k].v = -1) ∨ ∃ j, k + 1 = j + 1 ∧ ∃ h : j < l.length, l[j].v = l[k].v) ∧ -1 ≤ l[k].v ∧ ascB l[k].v (l.drop (k + 1)) = ascB (-1) l) := fun h1 h2 => ⟨.inr ⟨k, rfl, hlt, rfl⟩, by omega, by rw [← hst, decide_eq_true h1, decide_eq_true h2]; rfl⟩
          clear hst hasc
          generalize hye : l[k] = y at *
          obtain ⟨yv, yt⟩ := y
          simp only at *
          by_cases h0 : yv < 0
          · have h0' : decide (yv < 0) = true := decide_eq_true h0
            go_wp2_with fail
            go_quiet (fail)
            go_wp2_with fail
            exact hR.out _ (HB1.out (by omega)) _ (gr2.drewN _)
          by_cases h1 : 1099511627776 < yv
          · have h0' : decide (yv < 0) = false := decide_eq_false h0
            have h1' : decide (1099511627776 < yv) = true := decide_eq_true h1
            go_wp2_with fail
            go_quiet (fail)
            go_wp2_with fail
            exact hR.out _ (HB1.out (by omega)) _ (gr2.drewN _)
          have h0' : decide (yv < 0) = false := decide_eq_false h0
          have h1' : decide (1099511627776 < yv) = false := decide_eq_false h1
          by_cases hk0 : k = 0
          · have hpos : decide (0 < k) = false := decide_eq_false (by omega)
            have hl1 : last = -1 := by rcases hprev with h | ⟨j, h, _⟩; exact h.2; omega
            have HN2 := Lib.hid (HN.out (by omega) (by omega))
            clear hk0
            go_wp2_with fail
            go_quiet (fail)
            go_wp2_with fail
            go_roundw
            case rel => exact ⟨k + 1, yv, by omega, by go_num, HN2.out, gr2.drewN _⟩
            case measure => simp [intOf]; omega
          · obtain ⟨k, rfl⟩ : ∃ j, k = j + 1 := ⟨k - 1, by omega⟩
            obtain ⟨⟨d0, d1, d2, d3, d4⟩, _, ⟨hu1, hu2⟩, _⟩ := (HX.out.mono gr2).elem k (by omega)
            clear d1 d2 d3 d4
            have hl2 : l[k].v = last := by rcases hprev with h | ⟨j, h, hj, hv⟩; omega; (obtain rfl : k = j := by omega); exact hv
            generalize hue : l[k] = u at *
            obtain ⟨uv, ut⟩ := u
            simp only at *
            have hj : IntKind.i64.wrap (((k + 1 : Nat) : Int) - 1) = (k : Int) := by rw [IntWalk.i64_in _ (by omega)]; omega
            have hj2 : (((k + 1 : Nat) : Int) - 1) = (k : Int) := by omega
            have hpos : decide (0 < ((k + 1 : Nat) : Int)) = true := decide_eq_true (by omega)
            by_cases h2 : yv ≤ uv
            · have h2' : decide (yv ≤ uv) = true := decide_eq_true h2
              go_wp2_with fail
              go_quiet (fail)
              go_wp2_with fail
              exact hR.out _ (HB1.out (by omega)) _ (gr2.drewN _)
            · have h2' : decide (yv ≤ uv) = false := decide_eq_false h2
              have HN2 := Lib.hid (HN.out (by omega) (by omega))
              go_wp2_with fail
              go_quiet (fail)
              go_wp2_with fail
              go_roundw
              case rel => exact ⟨k + 1 + 1, yv, by omega, by go_num, HN2.out, gr2.drewN _⟩
              case measure => simp [intOf]; omega
        · go_wp2_with fail
          obtain rfl : k = l.length := by omega
          exact hR.out _ (by rw [bindsErr, if_pos Hall.out, if_pos (by rw [← hasc.out.2.2, List.drop_length, ascB])]) _ (by go_grown)
end Go.Proofs.Yteonakicoomjkaa

namespace Go.Proofs.Yteonakicoomjkaa
open Go.RowKit

set_option maxHeartbeats 1000000 in
set_option maxRecDepth 100000 in
theorem none_gen (p : Option Addr) (c : Nat) (w : World) : Calls Try.prog 16 #[(Tm.mk 0 0 ⟨#[]⟩ p c []).val] w (Ret (.bool true) w) := by
  simp only [Tm.val, Tm.k, Tm.n, Tm.s, Tm.p, Tm.c, Tm.l, List.length_nil]
  go_enter Try.func16, Try.ntmps16
  go_wp2_with fail
  go_ret
  exact ret_bool rfl (by go_grown)

theorem toList_nil {s : ByteArray} (h : s.toList = []) : s = ⟨#[]⟩ := by
  rw [ByteArray.toList_eq] at h
  cases s with
  | mk d =>
    congr 1
    exact Array.toList_eq_nil_iff.1 h

theorem none_calls {t : Tm} (h : t.erase = zeroT) (w : World) : Calls Try.prog 16 #[t.val] w (Ret (.bool true) w) := by
  obtain ⟨k, n, s, p, c, l⟩ := t
  rw [Tm.erase, zeroT] at h
  injection h with h1 h2 h3 h4
  subst h1; subst h2
  have hs := toList_nil h3
  subst hs
  have hl : l = [] := by
    have := Tm.eraseL_length l
    rw [h4] at this
    exact List.eq_nil_of_length_eq_zero this.symm
  subst hl
  exact none_gen p c w

end Go.Proofs.Yteonakicoomjkaa
