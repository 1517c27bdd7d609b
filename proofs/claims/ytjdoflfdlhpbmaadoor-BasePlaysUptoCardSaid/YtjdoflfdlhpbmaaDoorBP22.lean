/-
  hornref.Make
-/
import Derived.Test.YtjdoflfdlhpbmaaDoorBP08
import Derived.Test.YtjdoflfdlhpbmaaDoorBP20
import Derived.Test.YtjdoflfdlhpbmaaDoorBP21
import Derived.Test.YtjdoflfdlhpbmaaDoorBP02
namespace Go.Proofs.YtjdoflfdlhpbmaaDoor
open Go.RowKit

theorem atomR_exact (s : ByteArray) (w : World) : Calls Tryd.prog 140 #[.string s] w fun e w' => e = .returned (.agg #[.int .i64 3, .int .i64 0, .string s, .slice none 0 0]) ∧ w' = w.alloc (.cells #[.int .i64 3, .int .i64 0, .string s, .slice none 0 0] 34) := by
  go_enter Tryd.func140, Tryd.ntmps140
  go_wp2_with fail
  exact bodyPost_ret (v := .agg #[.int .i64 3, .int .i64 0, .string s, .slice none 0 0]) (by simp [results, Tryd.results140, go_sem]) rfl ⟨rfl, rfl⟩

theorem callable_formed {t : T} (h : t.formed = true) : t.callable = (!(t.k == 1) && !(t.k == 2)) := by
  obtain ⟨k, n, s, l⟩ := t
  simp only [T.callable, T.k]
  by_cases h1 : k = 1
  · subst h1; rfl
  by_cases h2 : k = 2
  · subst h2; rfl
  by_cases h3 : k = 3
  · subst h3; rfl
  by_cases h4 : k = 4
  · subst h4; rfl
  · rw [T.formed] at h
    simp [h1, h2, h3, h4] at h

theorem clVal_eq' (h b : Tm) : clVal h b = .agg #[.int .i64 h.k, .int .i64 h.n, .string h.s, .slice h.p h.l.length h.c, .int .i64 b.k, .int .i64 b.n, .string b.s, .slice b.p b.l.length b.c] := rfl

/-- The value is a clause of such two terms. -/
def clIs (S : Nat → Prop) (t u : T) : VP := fun v w => ∃ h b : Tm, v = clVal h b ∧ h.In w ∧ b.In w ∧ h.erase = t ∧ b.erase = u ∧ h.On S ∧ b.On S
theorem clIs_stable {S : Nat → Prop} {t u : T} : ∀ v w w', clIs S t u v w → Gr w w' → clIs S t u v w' := fun _ _ _ ⟨h, b, h1, h2, h3, h4⟩ hg => ⟨h, b, h1, Tm.In_below hg h2, Tm.In_below hg h3, h4⟩

/-- A clause is handed back, and whether there is one; nothing where there is none. -/
def RetRC (r : Option (T × T)) (w : World) (e : Ending) (w' : World) : Prop :=
  ∃ (hm bm : Tm), e = .returned (.tuple #[clVal hm bm, .bool r.isSome]) ∧ hm.In w' ∧ bm.In w' ∧ (hm.erase, bm.erase) = r.getD (zeroT, zeroT) ∧ Gr w w'

set_option maxHeartbeats 8000000 in
set_option maxRecDepth 100000 in
theorem rMake_calls (t : Tm) (w : World) (m₀ : Int) (hm₀ : w.cell? ⟨0, 0, none⟩ = some (.int .i64 m₀)) (hin : t.In w) (hf : t.erase.formed = true) : Calls Tryd.prog 119 #[t.val] w (RetRC (T.make reserved t.erase) w) := by
  have Hin := Lib.hid hin
  have HM := Lib.hid hm₀
  have Hf := Lib.hid hf
  have hR0 : Hid (T.make reserved t.erase = none → ∀ w', Gr w w' → RetRC (T.make reserved t.erase) w (.returned (.tuple #[clVal zeroTm zeroTm, .bool false])) w') := fun hE w' hg => by
    rw [hE]; exact ⟨zeroTm, zeroTm, rfl, zeroTm_in _, zeroTm_in _, by rw [zeroTm_erase]; rfl, hg⟩
  have hR1 : Hid (∀ (hm bm : Tm), T.make reserved t.erase = some (hm.erase, bm.erase) → ∀ w', hm.In w' → bm.In w' → Gr w w' → RetRC (T.make reserved t.erase) w (.returned (.tuple #[clVal hm bm, .bool true])) w') := fun hm bm hb w' h1 h2 hg => by rw [hb]; exact ⟨hm, bm, rfl, h1, h2, rfl, hg⟩
  generalize hQ : RetRC (T.make reserved t.erase) w = Q at *
  clear hQ hin hm₀ hf
  have Hv := Lib.hid (show t.val = .agg #[.int .i64 t.k, .int .i64 t.n, .string t.s, .slice t.p t.l.length t.c] from rfl)
  rw [Hv.out]
  go_enter Tryd.func119, Tryd.ntmps119
  try simp only [List.append_eq, List.cons_append, List.nil_append]
  go_upto_region 1 with fail
  obtain ⟨HB2, HR2, g3⟩ := blocks48 w (.int .i64 t.k) (.int .i64 t.n) (.string t.s) (.slice t.p t.l.length t.c) (.int .i64 0) (.int .i64 0) (.string ⟨#[]⟩) (.slice none 0 0) (.int .i64 0) (.int .i64 0) (.string ⟨#[]⟩) (.slice none 0 0)
  generalize (w.alloc (.cells #[.int .i64 t.k, .int .i64 t.n, .string t.s, .slice t.p t.l.length t.c] 34)).alloc (.cells #[.int .i64 0, .int .i64 0, .string ⟨#[]⟩, .slice none 0 0, .int .i64 0, .int .i64 0, .string ⟨#[]⟩, .slice none 0 0] 36) = w' at *
  have hszA : w.heap.size + 1 < w'.heap.size := HR2.out.lt
  go_cut [4, 5, 6, 8, 9] from 8 to 9 (fun p q ok _ _ wx => ok = .bool true ∧ ∃ b4 b5, p = .pointer (some ⟨b4, 0, none⟩) ∧ q = .pointer (some ⟨b5, 0, none⟩) ∧ b4 ≠ b5 ∧ w'.heap.size ≤ b4 ∧ w'.heap.size ≤ b5 ∧ Blk4 wx b4 (.int .i64 t.k) (.int .i64 t.n) (.string t.s) (.slice t.p t.l.length t.c) ∧ Blk4 wx b5 (.int .i64 3) (.int .i64 0) (.string ⟨#[116, 114, 117, 101]⟩) (.slice none 0 0) ∧ Gr w' wx)
  case first =>
    obtain ⟨⟨b0, b1, b2, b3⟩, _, hltB⟩ := HB2.out.parts
    have hlt1 : w.heap.size < w'.heap.size + 1 := by omega
    have hlt2 : w.heap.size < w'.heap.size + 1 + 1 := by omega
    have hlt3 : w.heap.size < w'.heap.size + 1 + 1 + 1 := by omega
    go_region_with (first
      | (go_at_call 140; refine (atomR_exact _ _).mono ?_; rintro e w'' ⟨rfl, rfl⟩)
      | fail)
    all_goals
      go_wp2_with fail
      go_meet
      refine ⟨rfl, _, _, rfl, rfl, by omega, by omega, by omega, ?_, ?_, by go_grown⟩ <;> first | exact three0 w' _ _ _ _ _ _ | exact three1 w' _ _ _ _ _ _ | exact three2 w' _ _ _ _ _ _
  case rest =>
    obtain ⟨rfl, b4, b5, rfl, rfl, hne, h4', h5', HK4, HK5, gx⟩ := hcut
    replace HK4 := Lib.hid HK4
    replace HK5 := Lib.hid HK5
    have h4 : w.heap.size + 2 ≤ b4 := by omega
    have h5 : w.heap.size + 2 ≤ b5 := by omega
    have gw := g3.trans gx
    have HBx := Lib.hid (HB2.out.gr gx)
    have HRx := Lib.hid (HR2.out.gr gx)
    clear h4' h5' gx g3 HB2 HR2
    obtain ⟨⟨b0, b1, b2, b3⟩, _, _⟩ := HBx.out.parts
    have HN := Lib.hid (show t.erase.isOf (ByteArray.mk #[58, 45]).toList 2 = t.erase.isOf sNeck 2 by rw [blNeck])
    cases hj : t.erase.isOf sNeck 2 with
    | false =>
      replace HN := Lib.hid (HN.out.trans hj)
      have Hpt : Hid (t.erase.parts = (t.erase, atomT sTrue)) := by show _ = _; rw [T.parts, hj]; rfl
      have hmk : Hid (T.make reserved t.erase = if t.erase.callable && !reserved t.erase.s (t.erase.l.length : Int) then some (T.map (swapF 0 (T.varsL [t.erase, atomT sTrue] [])) t.erase, T.map (swapF 0 (T.varsL [t.erase, atomT sTrue] [])) (atomT sTrue)) else none) := by
        show _ = _; rw [T.make, Hpt.out]; simp only; rw [body_true]
      clear hj
      go_upto_region 5 with (first
        | (go_at_call 47; rewrite [← Hv.out]; refine (ris_calls _ _ _ _).mono ?_; rintro e w3 ⟨rfl, hb⟩; rewrite [HN.out]; replace HK4 := Lib.hid (HK4.out.gr hb); replace HK5 := Lib.hid (HK5.out.gr hb); replace HRx := Lib.hid (HRx.out.gr hb); replace gw := gw.trans hb; clear hb b0 b1 b2 b3)
        | fail)
      have Him := Hin
      have Hhf := Hf
      have Hib := Lib.hid (atomTm_in (s := ⟨#[116, 114, 117, 101]⟩) (by decide) w3)
      have hbe : Hid ((atomTm ⟨#[116, 114, 117, 101]⟩).erase = atomT sTrue) := by show _ = _; rw [atomTm_erase, blTrue]
      have hbf : Hid ((atomTm ⟨#[116, 114, 117, 101]⟩).erase.formed = true) := by show _ = _; rw [hbe.out]; exact formed_atom (by decide)
      replace HK5 : Hid (Blk4 w3 b5 (.int .i64 (atomTm ⟨#[116, 114, 117, 101]⟩).k) (.int .i64 (atomTm ⟨#[116, 114, 117, 101]⟩).n) (.string (atomTm ⟨#[116, 114, 117, 101]⟩).s) (.slice (atomTm ⟨#[116, 114, 117, 101]⟩).p (atomTm ⟨#[116, 114, 117, 101]⟩).l.length (atomTm ⟨#[116, 114, 117, 101]⟩).c)) := HK5
      rw [← hbe.out] at hmk
      clear hbe Hpt
      obtain ⟨bm, hbm⟩ : ∃ bm : Tm, bm = atomTm ⟨#[116, 114, 117, 101]⟩ := ⟨_, rfl⟩
      rw [← hbm] at hmk Hib HK5 hbf
      clear hbm
      have hes : Hid (t.erase.k = t.k ∧ t.erase.s = t.s.toList ∧ t.erase.l.length = t.l.length) := by obtain ⟨k, n, s, p, c, l⟩ := t; exact ⟨rfl, rfl, by rw [Tm.erase]; exact Tm.eraseL_length l⟩
      have hcal : Hid (t.erase.callable = (!(t.k == 1) && !(t.k == 2))) := by show _ = _; rw [callable_formed Hhf.out, hes.out.1]
      have Hmv := Lib.hid (show t.val = .agg #[.int .i64 t.k, .int .i64 t.n, .string t.s, .slice t.p t.l.length t.c] from rfl)
      obtain ⟨⟨p0, p1, p2, p3⟩, _, hlt4⟩ := HK4.out.parts
      obtain ⟨⟨q0, q1, q2, q3⟩, _, hlt5⟩ := HK5.out.parts
      cases hk1 : (t.k == 1) with
      | true =>
        have hv := Lib.hid (hR0.out (by rw [hmk.out, hcal.out, hk1]; rfl))
        obtain ⟨y0, y1, y2, y3, y4, y5, y6, y7⟩ := (HRx.out).cells; obtain ⟨f0, f1, f2, f3, f4, f5, f6, f7⟩ := (HRx.out).open_
        go_wp2_with fail
        exact bodyPost_ret (by simp (maxDischargeDepth := 9) [results, Tryd.results119, go_sem, clVal, zeroTm, Tm.val, Tm.k, Tm.n, Tm.s, Tm.p, Tm.c, Tm.l, y0, y1, y2, y3, y4, y5, y6, y7]) rfl (hv.out _ (by go_grown))
      | false =>
      cases hk2 : (t.k == 2) with
      | true =>
        have hv := Lib.hid (hR0.out (by rw [hmk.out, hcal.out, hk2]; rw [Bool.not_true, Bool.and_false]; rfl))
        obtain ⟨y0, y1, y2, y3, y4, y5, y6, y7⟩ := (HRx.out).cells; obtain ⟨f0, f1, f2, f3, f4, f5, f6, f7⟩ := (HRx.out).open_
        go_wp2_with fail
        exact bodyPost_ret (by simp (maxDischargeDepth := 9) [results, Tryd.results119, go_sem, clVal, zeroTm, Tm.val, Tm.k, Tm.n, Tm.s, Tm.p, Tm.c, Tm.l, y0, y1, y2, y3, y4, y5, y6, y7]) rfl (hv.out _ (by go_grown))
      | false =>
      have Hcal : Hid (t.erase.callable = true) := by show _ = _; rw [hcal.out, hk1, hk2]; rfl
      cases hrs : reserved t.s.toList (t.l.length : Int) with
      | true =>
        have hv := Lib.hid (hR0.out (by rw [hmk.out, hes.out.2.1, hes.out.2.2, hrs, Hcal.out]; rfl))
        have Hrs := Lib.hid hrs
        clear hrs
        go_wp2_with (first
          | (go_at_call 48; refine (rreserved_calls _ _ _ m₀ (Gr.at gw HM.out)).mono ?_; rw [Hrs.out]; rintro e w8 ⟨rfl, hb⟩; obtain ⟨y0, y1, y2, y3, y4, y5, y6, y7⟩ := (HRx.out.gr hb).cells; obtain ⟨f0, f1, f2, f3, f4, f5, f6, f7⟩ := (HRx.out.gr hb).open_; have gw8 := gw.trans hb; clear hb p0 p1 p2 p3 q0 q1 q2 q3)
          | fail)
        exact bodyPost_ret (by simp (maxDischargeDepth := 9) [results, Tryd.results119, go_sem, clVal, zeroTm, Tm.val, Tm.k, Tm.n, Tm.s, Tm.p, Tm.c, Tm.l, y0, y1, y2, y3, y4, y5, y6, y7]) rfl (hv.out _ (by go_grown))
      | false =>
        have hv : Hid (T.make reserved t.erase = some (T.map (swapF 0 (T.varsL [t.erase, bm.erase] [])) t.erase, T.map (swapF 0 (T.varsL [t.erase, bm.erase] [])) bm.erase)) := by show _ = _; rw [hmk.out, hes.out.2.1, hes.out.2.2, hrs, Hcal.out]; rfl
        have Hrs := Lib.hid hrs
        clear hrs
        go_upto_region 7 with (first
          | (go_at_call 48; refine (rreserved_calls _ _ _ m₀ (Gr.at gw HM.out)).mono ?_; rw [Hrs.out]; rintro e w8 ⟨rfl, hb⟩; have HR8 := Lib.hid (HRx.out.gr hb); have gw8 := gw.trans hb; have Hb8 := Lib.hid (Tm.In_below hb Hib.out); have HK48 := Lib.hid (HK4.out.gr hb); have HK58 := Lib.hid (HK5.out.gr hb); clear hb p0 p1 p2 p3 q0 q1 q2 q3)
          | fail)
        have hall : Hid (∀ z ∈ ([t, bm] : List Tm), z.erase.formed = true) := by
          intro z hz
          simp only [List.mem_cons, List.mem_nil_iff, or_false] at hz
          rcases hz with h | h
          · rw [h]; exact Hhf.out
          · rw [h]; exact hbf.out
        have Hbv := Lib.hid (show bm.val = .agg #[.int .i64 bm.k, .int .i64 bm.n, .string bm.s, .slice bm.p bm.l.length bm.c] from rfl)
        obtain ⟨⟨p0, p1, p2, p3⟩, _, _⟩ := HK48.out.parts
        obtain ⟨⟨q0, q1, q2, q3⟩, _, _⟩ := HK58.out.parts
        go_upto_region 8 with (first
          | (go_at_call 50; refine (rvars_calls _ 2 [t, bm] _ (two_new (t := t) (u := bm) (Tm.In_below gw8 Him.out) Hb8.out (Gr.rfl' _)) hall.out).mono ?_; rintro e w9 ⟨pr, cr, rfl, hsl, hg⟩; have hg' : Gr w8 w9 := below_step hg (by go_grown); have HR9 := Lib.hid (HR8.out.gr hg'); have HK49 := Lib.hid (HK48.out.gr hg'); have HK59 := Lib.hid (HK58.out.gr hg'); have gw9 : Gr w w9 := gw8.trans hg'; have Hsl := Lib.hid hsl; have Hb9 := Lib.hid (Tm.In_below hg' Hb8.out); clear hsl hg hg' p0 p1 p2 p3 q0 q1 q2 q3)
          | fail)
        obtain ⟨⟨p0, p1, p2, p3⟩, _, _⟩ := HK49.out.parts
        obtain ⟨⟨q0, q1, q2, q3⟩, _, _⟩ := HK59.out.parts
        have HV : Hid (VarsOk (T.varsL (Tm.eraseL [t, bm]) [])) := VarsOk.varsL _ VarsOk.nil (formedL_erase hall.out)
        generalize hVV : T.varsL (Tm.eraseL [t, bm]) [] = V at *
        refine wp_region_rely_tail 7 [fx t.val, fx (.slice pr V.length cr), tmIs (w9.heap.size ≤ ·) (T.map (swapF 0 V) t.erase), fx bm.val, fx (.slice pr V.length cr), tmIs (w9.heap.size ≤ ·) (T.map (swapF 0 V) bm.erase), clIs (w9.heap.size ≤ ·) (T.map (swapF 0 V) t.erase) (T.map (swapF 0 V) bm.erase)]
          (by kernel_rfl) (by kernel_rfl) (by decide) (by repeat (first | exact Stable.nil | refine Stable.fix ?_ | refine Stable.cons tmIs_stable ?_ | refine Stable.cons clIs_stable ?_)) ?_ ?_
        · refine ⟨?_, ?_, ?a2, ?_, ?_, ?a5, ?a6, trivial⟩
          all_goals
            intro a wr hg hold
            have h2 : a.tmps[2]?.getD undef = .pointer (some ⟨w.heap.size + 1, 0, none⟩) := hold 2 rfl
            have h4' : a.tmps[4]?.getD undef = .pointer (some ⟨b4, 0, none⟩) := hold 4 rfl
            have h5' : a.tmps[5]?.getD undef = .pointer (some ⟨b5, 0, none⟩) := hold 5 rfl
            have h7 : a.tmps[7]?.getD undef = .slice pr V.length cr := hold 7 rfl
            clear hold
            have z0 := Gr.at hg p0
            have z1 := Gr.at hg p1
            have z2 := Gr.at hg p2
            have z3 := Gr.at hg p3
            have z4 := Gr.at hg q0
            have z5 := Gr.at hg q1
            have z6 := Gr.at hg q2
            have z7 := Gr.at hg q3
            have gr9 : Gr w wr := gw9.trans hg
            clear p0 p1 p2 p3 q0 q1 q2 q3
            simp [predsImp, Region.binds, dstAt, fx]
            intros
            first
              | (rw [if_pos (by simp [*])]
                 intro K hK)
              | (rename_i K hK)
            go_simp
          case a2 =>
            refine (swap_calls (t := t) (d := 0) (V := V) (Tm.In_below gr9 Him.out) Hhf.out (Hsl.out.mono hg) HV.out ⟨by omega, by omega⟩).mono ?_
            rintro e w10 ⟨z, i1, i2, rfl, ib, i3⟩
            exact hK _ _ ⟨z, rfl, i1, i2, i3.mono fun b hb => Nat.le_trans hg.size hb⟩ ib
          case a5 =>
            refine (swap_calls (t := bm) (d := 0) (V := V) (Tm.In_below hg Hb9.out) hbf.out (Hsl.out.mono hg) HV.out ⟨by omega, by omega⟩).mono ?_
            rintro e w10 ⟨z, i1, i2, rfl, ib, i3⟩
            exact hK _ _ ⟨z, rfl, i1, i2, i3.mono fun b hb => Nat.le_trans hg.size hb⟩ ib
          case a6 =>
            have hp : tmIs (w9.heap.size ≤ ·) (T.map (swapF 0 V) t.erase) (a.tmps[51]?.getD undef) wr := by assumption
            have hq : tmIs (w9.heap.size ≤ ·) (T.map (swapF 0 V) bm.erase) (a.tmps[54]?.getD undef) wr := by assumption
            obtain ⟨r1, e1, i1, j1, o1⟩ := hp
            obtain ⟨r2, e2, i2, j2, o2⟩ := hq
            rw [e1, e2]
            simp only [Tm.val]
            go_simp
            exact hK _ _ ⟨r1, r2, rfl, i1, i2, j1, j2, o1, o2⟩ (Gr.rfl' _)
          all_goals exact hK _ _ rfl (Gr.rfl' _)
        · intro wr hg
          have gr9 : Gr w wr := gw9.trans hg
          obtain ⟨y0, y1, y2, y3, y4, y5, y6, y7⟩ := (HR9.out.gr hg).cells
          obtain ⟨f0, f1, f2, f3, f4, f5, f6, f7⟩ := (HR9.out.gr hg).open_
          have hltR := HR9.out.lt
          rintro _ rfl _ rfl _ ⟨_, rfl, _, _, _⟩ _ rfl _ rfl _ ⟨_, rfl, _, _, _⟩ _ ⟨r1, r2, rfl, i1, i2, j1, j2, o1, o2⟩
          have I1 := Lib.hid i1
          have I2 := Lib.hid i2
          have hVV' : T.varsL [t.erase, bm.erase] [] = V := by rw [← hVV, Tm.eraseL, Tm.eraseL, Tm.eraseL]
          have J1 := Lib.hid (hv.out.trans (by rw [hVV', ← j1, ← j2] : _ = some (r1.erase, r2.erase)))
          have O1 := Lib.hid o1
          have O2 := Lib.hid o2
          clear i1 i2 j1 j2 o1 o2 p0 p1 p2 p3 q0 q1 q2 q3
          simp only [finAll, Act.put, List.setIfInBounds_toArray, List.set_cons_succ, List.set_cons_zero, clVal_eq', List.drop_succ_cons, List.drop_zero, List.take_zero]
          have hfin : Hid (∀ W, Kp (fun b => b = w.heap.size + 1) wr W → Q (.returned (.tuple #[clVal r1 r2, .bool true])) W) := by
            intro W hK
            have hs9 := hg.size
            have hsw := gw9.size
            exact hR1.out r1 r2 J1.out W (in_after' I1.out O1.out fun b h1 hb o => World.cell?_of_block (hK.block b hb (by omega))) (in_after' I2.out O2.out fun b h1 hb o => World.cell?_of_block (hK.block b hb (by omega))) (Below.trans gr9 (hK.below (B := w.heap.size) (fun b hb => by omega) (by omega)))
          go_wp2_with fail
          refine bodyPost_ret (v := .tuple #[clVal r1 r2, .bool true]) (by simp (maxDischargeDepth := 9) [results, Tryd.results119, go_sem, clVal, y0, y1, y2, y3, y4, y5, y6, y7]) rfl ?_
          exact hfin.out _ ((Kp.set4 (C := fun b => b = w.heap.size + 1) rfl).trans (Kp.set4 (C := fun b => b = w.heap.size + 1) rfl))
    | true =>
      obtain ⟨x, y, hl⟩ : ∃ x y, t.l = [x, y] := by
        obtain ⟨k, n, X, Y, he⟩ := isOf_two hj
        obtain ⟨k', n', s', p', c', l'⟩ := t
        rw [Tm.erase] at he
        injection he with _ _ _ he
        match l', he with
        | [x, y], _ => exact ⟨x, y, rfl⟩
        | [], he => rw [Tm.eraseL] at he; cases he
        | [_], he => rw [Tm.eraseL, Tm.eraseL] at he; cases he
        | _ :: _ :: _ :: _, he => rw [Tm.eraseL, Tm.eraseL, Tm.eraseL] at he; cases he
      replace HN := Lib.hid (HN.out.trans hj)
      have Hpt : Hid (t.erase.parts = (x.erase, y.erase)) := by
        show _ = _
        rw [T.parts, hj]
        obtain ⟨k', n', s', p', c', l'⟩ := t
        simp only [Tm.l] at hl
        subst hl
        rw [Tm.erase, Tm.eraseL, Tm.eraseL, Tm.eraseL]
        rfl
      have Hfp := Lib.hid (parts_formed Hf.out)
      rw [Hpt.out] at Hfp
      have Hl := Lib.hid hl
      clear hj hl
      go_upto_region 3 with (first
        | (go_at_call 47; rewrite [← Hv.out]; refine (ris_calls _ _ _ _).mono ?_; rintro e w2 ⟨rfl, hb⟩; rewrite [HN.out]; replace HK4 := Lib.hid (HK4.out.gr hb); replace HK5 := Lib.hid (HK5.out.gr hb); replace HRx := Lib.hid (HRx.out.gr hb); replace gw := gw.trans hb; replace HBx := Lib.hid (HBx.out.gr hb); clear hb b0 b1 b2 b3; obtain ⟨⟨b0, b1, b2, b3⟩, _, _⟩ := HBx.out.parts)
        | fail)
      have hl := Hl.out
      clear Hl
      obtain ⟨k, n, s, p, c, l⟩ := t
      simp only [Tm.l] at hl
      subst hl
      simp only [Tm.k, Tm.n, Tm.s, Tm.p, Tm.c, Tm.l] at b0 b1 b2 b3 HK4
      obtain ⟨bb, oo, rfl⟩ := Hin.out.sl.ptr (by simp)
      obtain ⟨⟨x0, x1, x2, x3⟩, _, _⟩ := (Hin.out.sl.mono gw).elem 0 (by simp)
      obtain ⟨⟨z0, z1, z2, z3⟩, _, _⟩ := (Hin.out.sl.mono gw).elem 1 (by simp)
      simp only [List.getElem_cons_zero, List.getElem_cons_succ, Nat.zero_mul, Nat.add_zero, Nat.one_mul] at x0 x1 x2 x3 z0 z1 z2 z3
      have Him : Hid (x.In w) := Tm.InL_mem Hin.out.sl.2.2.2 x (by simp)
      have Hhf := Lib.hid Hfp.out.1
      have Hyi : Hid (y.In w) := Tm.InL_mem Hin.out.sl.2.2.2 y (by simp)
      have Hyv := Lib.hid (show y.val = .agg #[.int .i64 y.k, .int .i64 y.n, .string y.s, .slice y.p y.l.length y.c] from rfl)
      obtain ⟨⟨p0, p1, p2, p3⟩, ⟨f0, f1, f2, f3⟩, _⟩ := HK4.out.parts
      obtain ⟨⟨q0, q1, q2, q3⟩, ⟨e0, e1, e2, e3⟩, _⟩ := HK5.out.parts
      go_upto_region 4 with fail
      have hK : Kp (fun b => b = b4) w2 ((((w2.setCell ⟨b4, 0, none⟩ (.int .i64 x.k)).setCell ⟨b4, 1, none⟩ (.int .i64 x.n)).setCell ⟨b4, 2, none⟩ (.string x.s)).setCell ⟨b4, 3, none⟩ (.slice x.p x.l.length x.c)) := Kp.set4 rfl
      have hB4 := HK4.out.set4 (.int .i64 x.k) (.int .i64 x.n) (.string x.s) (.slice x.p x.l.length x.c)
      generalize ((((w2.setCell ⟨b4, 0, none⟩ (.int .i64 x.k)).setCell ⟨b4, 1, none⟩ (.int .i64 x.n)).setCell ⟨b4, 2, none⟩ (.string x.s)).setCell ⟨b4, 3, none⟩ (.slice x.p x.l.length x.c)) = w3 at *
      replace HK4 := Lib.hid hB4
      replace HK5 := Lib.hid (HK5.out.kp hK (by omega))
      replace HRx := Lib.hid (HRx.out.kp hK (by omega))
      replace HBx := Lib.hid (HBx.out.kp hK (by omega))
      replace gw : Gr w w3 := Below.trans gw (hK.below (B := w.heap.size) (fun b hb => by omega) (by have := gw.size; omega))
      clear hK hB4 b0 b1 b2 b3 x0 x1 x2 x3 z0 z1 z2 z3 p0 p1 p2 p3 q0 q1 q2 q3 f0 f1 f2 f3 e0 e1 e2 e3
      obtain ⟨⟨b0, b1, b2, b3⟩, _, _⟩ := HBx.out.parts
      simp only [Tm.k, Tm.n, Tm.s, Tm.p, Tm.c, Tm.l] at b0 b1 b2 b3
      obtain ⟨⟨z0, z1, z2, z3⟩, _, _⟩ := (Hin.out.sl.mono gw).elem 1 (by simp)
      simp only [List.getElem_cons_zero, List.getElem_cons_succ, Nat.one_mul] at z0 z1 z2 z3
      have hgs := gw.size
      have hlt4 := HK4.out.parts.2.2
      have hlt5 := HK5.out.parts.2.2
      go_upto_region 5 with (first
        | (go_at_call 90; rewrite [← Hyv.out]; refine (rbody_calls (t := y) (S := (· < w.heap.size)) (Tm.In_below gw Hyi.out) Hfp.out.2 Hyi.out.on (fun b hb => Nat.lt_of_lt_of_le hb hgs)).mono ?_; rintro e w4 ⟨bm, ok, rfl, hbi, hok, hbu, hbb, hbo, hbz⟩; have Hib4 := Lib.hid hbi; have Hok := Lib.hid hok; have Hbu := Lib.hid hbu; have Hbo := Lib.hid hbo; have HK44 := Lib.hid (HK4.out.gr hbb); have HK54 := Lib.hid (HK5.out.gr hbb); have HR4 := Lib.hid (HRx.out.gr hbb); have gw4 := gw.trans hbb; have hs4 := hbb.size; clear hbi hok hbu hbb hbo hbz b0 b1 b2 b3 z0 z1 z2 z3; have Hbmv := Lib.hid (show bm.val = .agg #[.int .i64 bm.k, .int .i64 bm.n, .string bm.s, .slice bm.p bm.l.length bm.c] from rfl); rewrite [Hbmv.out]; obtain ⟨⟨q0, q1, q2, q3⟩, ⟨f0, f1, f2, f3⟩, _⟩ := HK54.out.parts)
        | fail)
      have hK : Kp (fun b => b = b5) w4 ((((w4.setCell ⟨b5, 0, none⟩ (.int .i64 bm.k)).setCell ⟨b5, 1, none⟩ (.int .i64 bm.n)).setCell ⟨b5, 2, none⟩ (.string bm.s)).setCell ⟨b5, 3, none⟩ (.slice bm.p bm.l.length bm.c)) := Kp.set4 rfl
      have hB5 := HK54.out.set4 (.int .i64 bm.k) (.int .i64 bm.n) (.string bm.s) (.slice bm.p bm.l.length bm.c)
      generalize ((((w4.setCell ⟨b5, 0, none⟩ (.int .i64 bm.k)).setCell ⟨b5, 1, none⟩ (.int .i64 bm.n)).setCell ⟨b5, 2, none⟩ (.string bm.s)).setCell ⟨b5, 3, none⟩ (.slice bm.p bm.l.length bm.c)) = w6 at *
      replace HK4 := Lib.hid (HK44.out.kp hK hne)
      replace HK5 := Lib.hid hB5
      replace HRx := Lib.hid (HR4.out.kp hK (by omega))
      have hb2i : bm.In w6 := in_after' Hib4.out Hbo.out fun b h1 h2 o => World.cell?_of_block (hK.block b h2 (by rcases h1 with h1 | h1 <;> omega))
      have Hib := Lib.hid hb2i
      replace gw : Gr w w6 := Below.trans gw4 (hK.below (B := w.heap.size) (fun b hb => by omega) (by omega))
      clear hK hB5 hb2i q0 q1 q2 q3 f0 f1 f2 f3 HK44 HK54 HR4 HBx Hib4 Hbo gw4 Hbmv
      cases hbd : T.body y.erase with
      | none =>
        have hv := Lib.hid (hR0.out (by rw [T.make, Hpt.out]; simp only; rw [hbd]))
        obtain rfl : ok = false := by have := Hok.out; rw [hbd] at this; exact this
        clear hbd
        obtain ⟨y0, y1, y2, y3, y4, y5, y6, y7⟩ := HRx.out.cells
        obtain ⟨f0, f1, f2, f3, f4, f5, f6, f7⟩ := HRx.out.open_
        go_wp2_with fail
        exact bodyPost_ret (by simp (maxDischargeDepth := 9) [results, Tryd.results119, go_sem, clVal, zeroTm, Tm.val, Tm.k, Tm.n, Tm.s, Tm.p, Tm.c, Tm.l, y0, y1, y2, y3, y4, y5, y6, y7]) rfl (hv.out _ (by go_grown))
      | some u =>
        obtain rfl : ok = true := by have := Hok.out; rw [hbd] at this; exact this
        have Hu : Hid (bm.erase = u) := Hbu.out u hbd
        have hbf : Hid (bm.erase.formed = true) := by show _ = _; rw [Hu.out]; exact body_formed _ _ _ (Nat.le_refl _) Hfp.out.2 hbd
        have hmk : Hid (T.make reserved (Tm.mk k n s (some ⟨bb, oo, none⟩) c [x, y]).erase = if x.erase.callable && !reserved x.erase.s (x.erase.l.length : Int) then some (T.map (swapF 0 (T.varsL [x.erase, bm.erase] [])) x.erase, T.map (swapF 0 (T.varsL [x.erase, bm.erase] [])) bm.erase) else none) := by
          show _ = _; rw [T.make, Hpt.out]; simp only; rw [hbd, Hu.out]
        clear hbd
        have hes : Hid (x.erase.k = x.k ∧ x.erase.s = x.s.toList ∧ x.erase.l.length = x.l.length) := by obtain ⟨k, n, s, p, c, l⟩ := x; exact ⟨rfl, rfl, by rw [Tm.erase]; exact Tm.eraseL_length l⟩
        have hcal : Hid (x.erase.callable = (!(x.k == 1) && !(x.k == 2))) := by show _ = _; rw [callable_formed Hhf.out, hes.out.1]
        have Hmv := Lib.hid (show x.val = .agg #[.int .i64 x.k, .int .i64 x.n, .string x.s, .slice x.p x.l.length x.c] from rfl)
        obtain ⟨⟨p0, p1, p2, p3⟩, _, hlt4⟩ := HK4.out.parts
        obtain ⟨⟨q0, q1, q2, q3⟩, _, hlt5⟩ := HK5.out.parts
        cases hk1 : (x.k == 1) with
        | true =>
          have hv := Lib.hid (hR0.out (by rw [hmk.out, hcal.out, hk1]; rfl))
          obtain ⟨y0, y1, y2, y3, y4, y5, y6, y7⟩ := (HRx.out).cells; obtain ⟨f0, f1, f2, f3, f4, f5, f6, f7⟩ := (HRx.out).open_
          go_wp2_with fail
          exact bodyPost_ret (by simp (maxDischargeDepth := 9) [results, Tryd.results119, go_sem, clVal, zeroTm, Tm.val, Tm.k, Tm.n, Tm.s, Tm.p, Tm.c, Tm.l, y0, y1, y2, y3, y4, y5, y6, y7]) rfl (hv.out _ (by go_grown))
        | false =>
        cases hk2 : (x.k == 2) with
        | true =>
          have hv := Lib.hid (hR0.out (by rw [hmk.out, hcal.out, hk2]; rw [Bool.not_true, Bool.and_false]; rfl))
          obtain ⟨y0, y1, y2, y3, y4, y5, y6, y7⟩ := (HRx.out).cells; obtain ⟨f0, f1, f2, f3, f4, f5, f6, f7⟩ := (HRx.out).open_
          go_wp2_with fail
          exact bodyPost_ret (by simp (maxDischargeDepth := 9) [results, Tryd.results119, go_sem, clVal, zeroTm, Tm.val, Tm.k, Tm.n, Tm.s, Tm.p, Tm.c, Tm.l, y0, y1, y2, y3, y4, y5, y6, y7]) rfl (hv.out _ (by go_grown))
        | false =>
        have Hcal : Hid (x.erase.callable = true) := by show _ = _; rw [hcal.out, hk1, hk2]; rfl
        cases hrs : reserved x.s.toList (x.l.length : Int) with
        | true =>
          have hv := Lib.hid (hR0.out (by rw [hmk.out, hes.out.2.1, hes.out.2.2, hrs, Hcal.out]; rfl))
          have Hrs := Lib.hid hrs
          clear hrs
          go_wp2_with (first
            | (go_at_call 48; refine (rreserved_calls _ _ _ m₀ (Gr.at gw HM.out)).mono ?_; rw [Hrs.out]; rintro e w8 ⟨rfl, hb⟩; obtain ⟨y0, y1, y2, y3, y4, y5, y6, y7⟩ := (HRx.out.gr hb).cells; obtain ⟨f0, f1, f2, f3, f4, f5, f6, f7⟩ := (HRx.out.gr hb).open_; have gw8 := gw.trans hb; clear hb p0 p1 p2 p3 q0 q1 q2 q3)
            | fail)
          exact bodyPost_ret (by simp (maxDischargeDepth := 9) [results, Tryd.results119, go_sem, clVal, zeroTm, Tm.val, Tm.k, Tm.n, Tm.s, Tm.p, Tm.c, Tm.l, y0, y1, y2, y3, y4, y5, y6, y7]) rfl (hv.out _ (by go_grown))
        | false =>
          have hv : Hid (T.make reserved (Tm.mk k n s (some ⟨bb, oo, none⟩) c [x, y]).erase = some (T.map (swapF 0 (T.varsL [x.erase, bm.erase] [])) x.erase, T.map (swapF 0 (T.varsL [x.erase, bm.erase] [])) bm.erase)) := by show _ = _; rw [hmk.out, hes.out.2.1, hes.out.2.2, hrs, Hcal.out]; rfl
          have Hrs := Lib.hid hrs
          clear hrs
          go_upto_region 7 with (first
            | (go_at_call 48; refine (rreserved_calls _ _ _ m₀ (Gr.at gw HM.out)).mono ?_; rw [Hrs.out]; rintro e w8 ⟨rfl, hb⟩; have HR8 := Lib.hid (HRx.out.gr hb); have gw8 := gw.trans hb; have Hb8 := Lib.hid (Tm.In_below hb Hib.out); have HK48 := Lib.hid (HK4.out.gr hb); have HK58 := Lib.hid (HK5.out.gr hb); clear hb p0 p1 p2 p3 q0 q1 q2 q3)
            | fail)
          have hall : Hid (∀ z ∈ ([x, bm] : List Tm), z.erase.formed = true) := by
            intro z hz
            simp only [List.mem_cons, List.mem_nil_iff, or_false] at hz
            rcases hz with h | h
            · rw [h]; exact Hhf.out
            · rw [h]; exact hbf.out
          have Hbv := Lib.hid (show bm.val = .agg #[.int .i64 bm.k, .int .i64 bm.n, .string bm.s, .slice bm.p bm.l.length bm.c] from rfl)
          obtain ⟨⟨p0, p1, p2, p3⟩, _, _⟩ := HK48.out.parts
          obtain ⟨⟨q0, q1, q2, q3⟩, _, _⟩ := HK58.out.parts
          go_upto_region 8 with (first
            | (go_at_call 50; refine (rvars_calls _ 2 [x, bm] _ (two_new (t := x) (u := bm) (Tm.In_below gw8 Him.out) Hb8.out (Gr.rfl' _)) hall.out).mono ?_; rintro e w9 ⟨pr, cr, rfl, hsl, hg⟩; have hg' : Gr w8 w9 := below_step hg (by go_grown); have HR9 := Lib.hid (HR8.out.gr hg'); have HK49 := Lib.hid (HK48.out.gr hg'); have HK59 := Lib.hid (HK58.out.gr hg'); have gw9 : Gr w w9 := gw8.trans hg'; have Hsl := Lib.hid hsl; have Hb9 := Lib.hid (Tm.In_below hg' Hb8.out); clear hsl hg hg' p0 p1 p2 p3 q0 q1 q2 q3)
            | fail)
          obtain ⟨⟨p0, p1, p2, p3⟩, _, _⟩ := HK49.out.parts
          obtain ⟨⟨q0, q1, q2, q3⟩, _, _⟩ := HK59.out.parts
          have HV : Hid (VarsOk (T.varsL (Tm.eraseL [x, bm]) [])) := VarsOk.varsL _ VarsOk.nil (formedL_erase hall.out)
          generalize hVV : T.varsL (Tm.eraseL [x, bm]) [] = V at *
          refine wp_region_rely_tail 7 [fx x.val, fx (.slice pr V.length cr), tmIs (w9.heap.size ≤ ·) (T.map (swapF 0 V) x.erase), fx bm.val, fx (.slice pr V.length cr), tmIs (w9.heap.size ≤ ·) (T.map (swapF 0 V) bm.erase), clIs (w9.heap.size ≤ ·) (T.map (swapF 0 V) x.erase) (T.map (swapF 0 V) bm.erase)]
            (by kernel_rfl) (by kernel_rfl) (by decide) (by repeat (first | exact Stable.nil | refine Stable.fix ?_ | refine Stable.cons tmIs_stable ?_ | refine Stable.cons clIs_stable ?_)) ?_ ?_
          · refine ⟨?_, ?_, ?a2, ?_, ?_, ?a5, ?a6, trivial⟩
            all_goals
              intro a wr hg hold
              have h2 : a.tmps[2]?.getD undef = .pointer (some ⟨w.heap.size + 1, 0, none⟩) := hold 2 rfl
              have h4' : a.tmps[4]?.getD undef = .pointer (some ⟨b4, 0, none⟩) := hold 4 rfl
              have h5' : a.tmps[5]?.getD undef = .pointer (some ⟨b5, 0, none⟩) := hold 5 rfl
              have h7 : a.tmps[7]?.getD undef = .slice pr V.length cr := hold 7 rfl
              clear hold
              have z0 := Gr.at hg p0
              have z1 := Gr.at hg p1
              have z2 := Gr.at hg p2
              have z3 := Gr.at hg p3
              have z4 := Gr.at hg q0
              have z5 := Gr.at hg q1
              have z6 := Gr.at hg q2
              have z7 := Gr.at hg q3
              have gr9 : Gr w wr := gw9.trans hg
              clear p0 p1 p2 p3 q0 q1 q2 q3
              simp [predsImp, Region.binds, dstAt, fx]
              intros
              first
                | (rw [if_pos (by simp [*])]
                   intro K hK)
                | (rename_i K hK)
              go_simp
            case a2 =>
              refine (swap_calls (t := x) (d := 0) (V := V) (Tm.In_below gr9 Him.out) Hhf.out (Hsl.out.mono hg) HV.out ⟨by omega, by omega⟩).mono ?_
              rintro e w10 ⟨z, i1, i2, rfl, ib, i3⟩
              exact hK _ _ ⟨z, rfl, i1, i2, i3.mono fun b hb => Nat.le_trans hg.size hb⟩ ib
            case a5 =>
              refine (swap_calls (t := bm) (d := 0) (V := V) (Tm.In_below hg Hb9.out) hbf.out (Hsl.out.mono hg) HV.out ⟨by omega, by omega⟩).mono ?_
              rintro e w10 ⟨z, i1, i2, rfl, ib, i3⟩
              exact hK _ _ ⟨z, rfl, i1, i2, i3.mono fun b hb => Nat.le_trans hg.size hb⟩ ib
            case a6 =>
              have hp : tmIs (w9.heap.size ≤ ·) (T.map (swapF 0 V) x.erase) (a.tmps[51]?.getD undef) wr := by assumption
              have hq : tmIs (w9.heap.size ≤ ·) (T.map (swapF 0 V) bm.erase) (a.tmps[54]?.getD undef) wr := by assumption
              obtain ⟨r1, e1, i1, j1, o1⟩ := hp
              obtain ⟨r2, e2, i2, j2, o2⟩ := hq
              rw [e1, e2]
              simp only [Tm.val]
              go_simp
              exact hK _ _ ⟨r1, r2, rfl, i1, i2, j1, j2, o1, o2⟩ (Gr.rfl' _)
            all_goals exact hK _ _ rfl (Gr.rfl' _)
          · intro wr hg
            have gr9 : Gr w wr := gw9.trans hg
            obtain ⟨y0, y1, y2, y3, y4, y5, y6, y7⟩ := (HR9.out.gr hg).cells
            obtain ⟨f0, f1, f2, f3, f4, f5, f6, f7⟩ := (HR9.out.gr hg).open_
            have hltR := HR9.out.lt
            rintro _ rfl _ rfl _ ⟨_, rfl, _, _, _⟩ _ rfl _ rfl _ ⟨_, rfl, _, _, _⟩ _ ⟨r1, r2, rfl, i1, i2, j1, j2, o1, o2⟩
            have I1 := Lib.hid i1
            have I2 := Lib.hid i2
            have hVV' : T.varsL [x.erase, bm.erase] [] = V := by rw [← hVV, Tm.eraseL, Tm.eraseL, Tm.eraseL]
            have J1 := Lib.hid (hv.out.trans (by rw [hVV', ← j1, ← j2] : _ = some (r1.erase, r2.erase)))
            have O1 := Lib.hid o1
            have O2 := Lib.hid o2
            clear i1 i2 j1 j2 o1 o2 p0 p1 p2 p3 q0 q1 q2 q3
            simp only [finAll, Act.put, List.setIfInBounds_toArray, List.set_cons_succ, List.set_cons_zero, clVal_eq', List.drop_succ_cons, List.drop_zero, List.take_zero]
            have hfin : Hid (∀ W, Kp (fun b => b = w.heap.size + 1) wr W → Q (.returned (.tuple #[clVal r1 r2, .bool true])) W) := by
              intro W hK
              have hs9 := hg.size
              have hsw := gw9.size
              exact hR1.out r1 r2 J1.out W (in_after' I1.out O1.out fun b h1 hb o => World.cell?_of_block (hK.block b hb (by omega))) (in_after' I2.out O2.out fun b h1 hb o => World.cell?_of_block (hK.block b hb (by omega))) (Below.trans gr9 (hK.below (B := w.heap.size) (fun b hb => by omega) (by omega)))
            go_wp2_with fail
            refine bodyPost_ret (v := .tuple #[clVal r1 r2, .bool true]) (by simp (maxDischargeDepth := 9) [results, Tryd.results119, go_sem, clVal, y0, y1, y2, y3, y4, y5, y6, y7]) rfl ?_
            exact hfin.out _ ((Kp.set4 (C := fun b => b = w.heap.size + 1) rfl).trans (Kp.set4 (C := fun b => b = w.heap.size + 1) rfl))
end Go.Proofs.YtjdoflfdlhpbmaaDoor
