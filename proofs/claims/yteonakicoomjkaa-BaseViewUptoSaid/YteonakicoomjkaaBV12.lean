/-
  (*base.Base).Add where the base is new.
  (*base.Base).Get where the base has one clause.
-/
import Derived.Test.YteonakicoomjkaaBV11
namespace Go.Proofs.Yteonakicoomjkaa
open Go.RowKit Go.Maps Go.Lib

/-- What Add on a new base does. -/
def RetAdd (B M1 M2 : Nat) (s : ByteArray) (n : Int) (t u : T) (w : World) (e : Ending) (w' : World) : Prop :=
  e = .returned (.tuple #[.int .i64 1, .int .i64 0]) ∧ OneBase w' B M1 M2 s n t u ∧ Kp (fun x => x = B ∨ x = M1 ∨ x = M2) w w'

set_option maxHeartbeats 8000000 in
set_option maxRecDepth 100000 in
theorem add_calls (B M1 M2 : Nat) (h b : Tm) (first : Bool) (w : World) (S : Nat → Prop) (hB : NewBase w B M1 M2) (hh : h.In w) (hb : b.In w) (oh : h.On S) (ob : b.On S) (hS : ∀ x, S x → ¬ (x = B ∨ x = M1 ∨ x = M2)) (hp : plainErr reserved h.erase b.erase = 0) (fh : h.erase.formed = true) (fb : b.erase.formed = true) (hs : h.s.size ≤ 1000) (hl : h.l.length ≤ 1000) :
    Calls Try.prog 32 #[.pointer (some ⟨B, 0, none⟩), clVal h b, .bool first] w (RetAdd B M1 M2 h.s h.l.length h.erase b.erase w) := by
  have Hh := Lib.hid hh
  have Hb := Lib.hid hb
  have Oh := Lib.hid oh
  have Ob := Lib.hid ob
  have HS := Lib.hid hS
  have Fh := Lib.hid fh
  have Fb := Lib.hid fb
  have HNB := Lib.hid hB
  have hBl := hB.blk.lt
  have hM1l := hB.m1.lt
  have hM2l := hB.m2.lt
  have hn1 := hB.n1
  have hn2 := hB.n2
  have hn3 := hB.n3
  have Hkey := Lib.hid (keyOf_bpred (s := h.s) (n := (h.l.length : Int)) (by simp only [maxLen]; omega) (wf_64 ⟨by omega, by omega⟩))
  have Hkey1 := Lib.hid (keyOf_int_mk Try.underlying3 (wf_64 (c := 1) ⟨by omega, by omega⟩))
  have hpa := Lib.hid (plainAns_ok hp)
  have hl64 : IntKind.i64.wrap (h.l.length : Int) = h.l.length := IntWalk.i64_in _ (by omega)
  have hR : Hid (∀ w', OneBase w' B M1 M2 h.s h.l.length h.erase b.erase → Kp (fun x => x = B ∨ x = M1 ∨ x = M2) w w' → RetAdd B M1 M2 h.s h.l.length h.erase b.erase w (.returned (.tuple #[.int .i64 1, .int .i64 0])) w') := fun w' h1 h2 => ⟨rfl, h1, h2⟩
  generalize hQ : RetAdd B M1 M2 h.s h.l.length h.erase b.erase w = Q at hR ⊢
  clear hQ hh hb fh fb hp hB oh ob hS
  have Hcv := Lib.hid (clVal_eq h b)
  have Hhv := Lib.hid (show h.val = .agg #[.int .i64 h.k, .int .i64 h.n, .string h.s, .slice h.p h.l.length h.c] from rfl)
  rw [clVal_eq]
  go_enter Try.func32, Try.ntmps32
  try simp only [List.append_eq, List.cons_append, List.nil_append]
  go_upto_region 1 with fail
  have hN : Blk8 (w.alloc (.cells #[.int .i64 h.k, .int .i64 h.n, .string h.s, .slice h.p h.l.length h.c, .int .i64 b.k, .int .i64 b.n, .string b.s, .slice b.p b.l.length b.c] 41)) w.heap.size (.int .i64 h.k) (.int .i64 h.n) (.string h.s) (.slice h.p h.l.length h.c) (.int .i64 b.k) (.int .i64 b.n) (.string b.s) (.slice b.p b.l.length b.c) := heap_alloc_new _ _
  have gw : Gr w (w.alloc (.cells #[.int .i64 h.k, .int .i64 h.n, .string h.s, .slice h.p h.l.length h.c, .int .i64 b.k, .int .i64 b.n, .string b.s, .slice b.p b.l.length b.c] 41)) := by go_grown
  generalize w.alloc (.cells #[.int .i64 h.k, .int .i64 h.n, .string h.s, .slice h.p h.l.length h.c, .int .i64 b.k, .int .i64 b.n, .string b.s, .slice b.p b.l.length b.c] 41) = wA at *
  have HC := Lib.hid hN
  clear hN
  obtain ⟨c0, c1, c2, c3, c4, c5, c6, c7⟩ := HC.out.cells
  go_upto_region 2 with (first
    | (go_at_call 30; rewrite [← Hcv.out]; refine (Plain_calls h b _ (Tm.In_below gw Hh.out) (Tm.In_below gw Hb.out)).mono ?_; rw [hpa.out]; rintro e w1 ⟨p1, rfl, hi, he, hb⟩; replace HC := Lib.hid (HC.out.gr hb); replace gw := gw.trans hb; have Vp1 := Lib.hid (show p1.val = .agg #[.int .i64 p1.k, .int .i64 p1.n, .string p1.s, .slice p1.p p1.l.length p1.c] from rfl); rewrite [Vp1.out]; clear hi he hb c0 c1 c2 c3 c4 c5 c6 c7)
    | fail)
  have gB : Gr w1 (w1.alloc (.cells #[.int .i64 p1.k, .int .i64 p1.n, .string p1.s, .slice p1.p p1.l.length p1.c] 24)) := by go_grown
  generalize w1.alloc (.cells #[.int .i64 p1.k, .int .i64 p1.n, .string p1.s, .slice p1.p p1.l.length p1.c] 24) = w2 at *
  replace HC := Lib.hid (HC.out.gr gB)
  replace gw := gw.trans gB
  clear gB
  have hsz := gw.size
  have HBl := Lib.hid (HNB.out.blk.gr gw)
  have b0 := HBl.out.cell 0 (v := .int .i64 0) rfl
  have f0 := HBl.out.open_ 0
  go_upto_region 5 with fail
  have hK : Kp (fun x => x = B) w2 (w2.setCell ⟨B, 0, none⟩ (.int .i64 1)) := Kp.set rfl
  have hB2 := HBl.out.set 0 (.int .i64 1)
  simp only [List.setIfInBounds_toArray, List.set_cons_zero] at hB2
  generalize w2.setCell ⟨B, 0, none⟩ (.int .i64 1) = w3 at *
  have kw : Kp (fun x => x = B ∨ x = M1 ∨ x = M2) w w3 := (Kp.of_gr gw).trans (hK.mono fun x hx => .inl hx)
  have HT1 := Lib.hid ((HNB.out.m1.gr gw).kp hK hn1)
  have HT2 := Lib.hid ((HNB.out.m2.gr gw).kp hK hn2)
  replace HBl := Lib.hid hB2
  have hCl := HC.out.lt
  replace HC := Lib.hid (HC.out.kp hK (by have := HNB.out.blk.lt; omega))
  clear hK hB2 b0 f0
  obtain ⟨c0, c1, c2, c3, c4, c5, c6, c7⟩ := HC.out.cells
  go_upto_region 6 with (first
    | (go_at_call 99; rewrite [← Hhv.out]; refine (of_calls h _).mono ?_; rintro e w4 ⟨rfl, hb⟩; have g34 : Gr w3 w4 := hb; clear hb c0 c1 c2 c3 c4 c5 c6 c7)
    | fail)
  have hP : BlkT (w4.alloc (.cells #[.string h.s, .int .i64 h.l.length] 138)) w4.heap.size 138 #[.string h.s, .int .i64 h.l.length] := BlkT.new _ _ _
  have g45 : Gr w4 (w4.alloc (.cells #[.string h.s, .int .i64 h.l.length] 138)) := by go_grown
  have hp0 : w.heap.size + 1 ≤ w4.heap.size := by have := HC.out.lt; have := g34.size; omega
  generalize w4.alloc (.cells #[.string h.s, .int .i64 h.l.length] 138) = w5 at *
  generalize w4.heap.size = p at *
  have g35 : Gr w3 w5 := Gr.trans g34 g45
  replace kw := kw.trans (Kp.of_gr g35)
  replace HT1 := Lib.hid (HT1.out.gr g35)
  replace HT2 := Lib.hid (HT2.out.gr g35)
  replace HBl := Lib.hid (HBl.out.gr g35)
  replace HC := Lib.hid (HC.out.gr g35)
  have HP := Lib.hid hP
  clear hP g34 g45 g35
  obtain ⟨c0, c1, c2, c3, c4, c5, c6, c7⟩ := HC.out.cells
  have b0 := HBl.out.cell 0 (v := .int .i64 1) rfl
  have b1 := HBl.out.cell 1 (v := .slice none 0 0) rfl
  have b2 := HBl.out.cell 2 (v := .map (some M1)) rfl
  have b3 := HBl.out.cell 3 (v := .map (some M2)) rfl
  have p0 := HP.out.cell 0 (v := .string h.s) rfl
  have p1 := HP.out.cell 1 (v := .int .i64 h.l.length) rfl
  have hlk := (HT1.out.run bpred_keyed Try.underlying133 (zero_held w5) (x := (h.s, (h.l.length : Int))) Hkey.out).1
  simp only [kPred, Option.getD_none] at hlk
  refine wp_region_rely [fx (.pointer (some ⟨B, 0, none⟩)), fx (.pointer (some ⟨B, 0, none⟩)), fx (.pointer (some ⟨B, 2, none⟩)), fx (.map (some M1)), fx (.agg #[.string h.s, .int .i64 h.l.length]), fx (.slice none 0 0), fx (.int .i64 0), fx (.pointer (some ⟨B, 0, none⟩)), fx (.pointer (some ⟨B, 0, none⟩)), fx (.pointer (some ⟨B, 1, none⟩)), fx (.slice none 0 0), fx (.int .i64 0), fx (.int .i64 0), fx (.int .i64 0)]
    (by kernel_rfl) (by kernel_rfl) (by repeat (first | exact Stable.nil | refine Stable.fix ?_)) ?_ ?_
  · refine ⟨?_, ?_, ?_, ?_, ?_, ?_, ?_, ?_, ?_, ?_, ?_, ?_, ?_, ?_, trivial⟩
    all_goals
      intro a wr hg hold
      have h0 : a.tmps[0]?.getD undef = .pointer (some ⟨B, 0, none⟩) := hold 0 rfl
      have h10 : a.tmps[10]?.getD undef = .pointer (some ⟨p, 0, none⟩) := hold 10 rfl
      clear hold
      have z1 := Gr.at hg b1
      have z2 := Gr.at hg b2
      have z4 := Gr.at hg p0
      have z5 := Gr.at hg p1
      have hlk := (GMap.run (HT1.out.gr hg) bpred_keyed Try.underlying133 (zero_held wr) (x := (h.s, (h.l.length : Int))) Hkey.out).1
      simp only [kPred, Option.getD_none] at hlk
      clear c0 c1 c2 c3 c4 c5 c6 c7 b0 b1 b2 b3 p0 p1
      simp [predsImp, Region.binds, dstAt, fx]
      intros
      first
        | (rw [if_pos (by simp [*])]
           intro K hK)
        | (rename_i K hK)
      go_simp
    all_goals exact hK _ _ rfl (Gr.rfl' _)
  · intro w9 hg
    rintro _ rfl _ rfl _ rfl _ rfl _ rfl _ rfl _ rfl _ rfl _ rfl _ rfl _ rfl _ rfl _ rfl _ rfl
    replace kw := kw.trans (Kp.of_gr hg)
    replace HT1 := Lib.hid (HT1.out.gr hg)
    replace HT2 := Lib.hid (HT2.out.gr hg)
    replace HBl := Lib.hid (HBl.out.gr hg)
    replace HC := Lib.hid (HC.out.gr hg)
    replace HP := Lib.hid (HP.out.gr hg)
    clear hg c0 c1 c2 c3 c4 c5 c6 c7 b0 b1 b2 b3 p0 p1 hlk
    simp only [finAll, Act.put, List.setIfInBounds_toArray, List.set_cons_succ, List.set_cons_zero]
    cases first
    all_goals
      go_upto_region 9 with fail
      have gks := kw.size
      have Hh9 := Lib.hid (in_after' Hh.out Oh.out (W := w9) fun x hx hlt o => World.cell?_of_block (kw.block x hlt (HS.out x hx)))
      have Hb9 := Lib.hid (in_after' Hb.out Ob.out (W := w9) fun x hx hlt o => World.cell?_of_block (kw.block x hlt (HS.out x hx)))
      obtain ⟨c0, c1, c2, c3, c4, c5, c6, c7⟩ := HC.out.cells
      have b0 := HBl.out.cell 0 (v := .int .i64 1) rfl
      have b2 := HBl.out.cell 2 (v := .map (some M1)) rfl
      have p0 := HP.out.cell 0 (v := .string h.s) rfl
      have p1 := HP.out.cell 1 (v := .int .i64 h.l.length) rfl
      refine wp_region_rely_tail 31 [fx (.pointer (some ⟨B, 0, none⟩)), fx (.pointer (some ⟨B, 0, none⟩)), fx (.pointer (some ⟨B, 2, none⟩)), fx (.map (some M1)), fx (.agg #[.string h.s, .int .i64 h.l.length]), fx (.pointer (some ⟨B, 0, none⟩)), fx (.pointer (some ⟨B, 0, none⟩)), fx (.pointer (some ⟨B, 2, none⟩)), fx (.map (some M1)), fx (.agg #[.string h.s, .int .i64 h.l.length]), fx (.slice none 0 0), fx (.int .i64 0), fx (.slice none 0 0), fx (.pointer (some ⟨B, 0, none⟩)), fx (.pointer (some ⟨B, 0, none⟩)), fx (.pointer (some ⟨B, 0, none⟩)), fx (.int .i64 1), fx (clVal h b), clNew (w9.heap.size ≤ ·) h.erase b.erase, heldV (w9.heap.size ≤ ·) h.erase b.erase, rowV (w9.heap.size ≤ ·) h.erase b.erase, fx (.pointer (some ⟨B, 0, none⟩)), fx (.pointer (some ⟨B, 0, none⟩)), fx (.pointer (some ⟨B, 2, none⟩)), fx (.map (some M1)), fx (.agg #[.string h.s, .int .i64 h.l.length]), fx (.slice none 0 0), fx (.int .i64 0), fx (.slice none 0 0), threeV (w9.heap.size ≤ ·) h.erase b.erase, ownV w9.heap.size (w9.heap.size ≤ ·) h.erase b.erase]
        (by kernel_rfl) (by kernel_rfl) (by decide) (by repeat (first | exact Stable.nil | refine Stable.fix ?_ | refine Stable.cons clNew_stable ?_ | refine Stable.cons heldV_stable ?_ | refine Stable.cons rowV_stable ?_ | refine Stable.cons threeV_stable ?_ | refine Stable.cons ownV_stable ?_)) ?_ ?_
      · refine ⟨?_, ?_, ?_, ?_, ?_, ?_, ?_, ?_, ?_, ?_, ?_, ?_, ?_, ?_, ?_, ?_, ?_, ?_, ?a18, ?a19, ?a20, ?_, ?_, ?_, ?_, ?_, ?_, ?_, ?_, ?a29, ?a30, trivial⟩
        all_goals
          intro a wr hg hold
          have h0 : a.tmps[0]?.getD undef = .pointer (some ⟨B, 0, none⟩) := hold 0 rfl
          have h10 : a.tmps[10]?.getD undef = .pointer (some ⟨p, 0, none⟩) := hold 10 rfl
          have h4 : a.tmps[4]?.getD undef = .pointer (some ⟨w.heap.size, 0, none⟩) := hold 4 rfl
          have h11 : a.tmps[11]?.getD undef = .int .i64 0 := hold 11 rfl
          clear hold
          have z0 := Gr.at hg c0
          have z1 := Gr.at hg c1
          have z2 := Gr.at hg c2
          have z3 := Gr.at hg c3
          have z4 := Gr.at hg c4
          have z5 := Gr.at hg c5
          have z6 := Gr.at hg c6
          have z7 := Gr.at hg c7
          have y0 := Gr.at hg b0
          have y2 := Gr.at hg b2
          have x0 := Gr.at hg p0
          have x1 := Gr.at hg p1
          have hlk := (GMap.run (HT1.out.gr hg) bpred_keyed Try.underlying133 (zero_held wr) (x := (h.s, (h.l.length : Int))) Hkey.out).1
          simp only [kPred, Option.getD_none] at hlk
          have Hhr := Lib.hid (Tm.In_below hg Hh9.out)
          have Hbr := Lib.hid (Tm.In_below hg Hb9.out)
          clear c0 c1 c2 c3 c4 c5 c6 c7 b0 b2 p0 p1
          simp [predsImp, Region.binds, dstAt, fx]
          intros
          first
            | (rw [if_pos (by simp [*])]
               intro K hK)
            | (rename_i K hK)
          go_simp
        case a18 =>
          refine (copied_calls h b wr Hhr.out Hbr.out Fh.out Fb.out).mono ?_
          rintro e w10 ⟨h2, b2, rfl, i1, i2, j1, j2, o1, o2, hg2⟩
          exact hK _ _ ⟨h2, b2, rfl, i1, i2, j1, j2, o1.mono fun x hx => Nat.le_trans hg.size hx, o2.mono fun x hx => Nat.le_trans hg.size hx⟩ hg2
        case a19 =>
          have hq : clNew (w9.heap.size ≤ ·) h.erase b.erase (a.tmps[62]?.getD undef) wr := by assumption
          obtain ⟨h2, b2, e1, hr⟩ := hq
          rw [e1]
          simp only [clVal]
          go_simp
          exact hK _ _ ⟨h2, b2, rfl, hr⟩ (Gr.rfl' _)
        case a20 =>
          have hq : heldV (w9.heap.size ≤ ·) h.erase b.erase (a.tmps[63]?.getD undef) wr := by assumption
          obtain ⟨h2, b2, e1, i1, i2, hr⟩ := hq
          rw [e1]
          simp only [heldCells]
          go_simp
          have hn := BlkT.new wr 143 (heldCells 1 h2 b2).toArray
          have hgn : Gr wr (wr.alloc (.cells (heldCells 1 h2 b2).toArray 143)) := by go_grown
          exact hK _ _ ⟨h2, b2, _, rfl, fun j x hx => hn.cell j (by simpa using hx), Tm.In_below hgn i1, Tm.In_below hgn i2, hr⟩ hgn
        case a29 =>
          have hq : rowV (w9.heap.size ≤ ·) h.erase b.erase (a.tmps[64]?.getD undef) wr := by assumption
          obtain ⟨h2, b2, g, e1, hc, i1, i2, hr⟩ := hq
          rw [e1]
          go_simp
          have hn := BlkT.new wr 140 #[.slice none 0 0, .slice (some ⟨g, 0, none⟩) 1 1, .slice none 0 0]
          have hgn : Gr wr (wr.alloc (.cells #[.slice none 0 0, .slice (some ⟨g, 0, none⟩) 1 1, .slice none 0 0] 140)) := by go_grown
          exact hK _ _ ⟨h2, b2, g, _, rfl, hn.cell 0 rfl, hn.cell 1 rfl, hn.cell 2 rfl, fun j x hx => Gr.at hgn (hc j x hx), Tm.In_below hgn i1, Tm.In_below hgn i2, hr⟩ hgn
        case a30 =>
          have hq : threeV (w9.heap.size ≤ ·) h.erase b.erase (a.tmps[73]?.getD undef) wr := by assumption
          obtain ⟨h2, b2, g, a0, e1, d0, d1, d2, hc, i1, i2, hr⟩ := hq
          rw [e1]
          refine (concat_calls a0 g (heldCells 1 h2 b2) wr rfl (heldCells_one _ _ _) hc d0 d1 d2).mono ?_
          rintro e w10 ⟨v, rfl, ho, hg2⟩
          exact hK _ _ ⟨h2, b2, row_le ho hg.size, Tm.In_below hg2 i1, Tm.In_below hg2 i2, hr⟩ hg2
        all_goals exact hK _ _ rfl (Gr.rfl' _)
      · intro wc hg
        rintro _ rfl _ rfl _ rfl _ rfl _ rfl _ rfl _ rfl _ rfl _ rfl _ rfl _ rfl _ rfl _ rfl _ rfl _ rfl _ rfl _ rfl _ rfl v18 _ v19 _ v20 _ _ rfl _ rfl _ rfl _ rfl _ rfl _ rfl _ rfl _ rfl v29 _ hv ⟨h9, b9, ho, i1, i2, j1, j2, o1, o2⟩
        replace kw := kw.trans (Kp.of_gr hg)
        have Ho := Lib.hid ho
        have I1 := Lib.hid i1
        have I2 := Lib.hid i2
        have J1 := Lib.hid j1
        have J2 := Lib.hid j2
        have O1 := Lib.hid o1
        have O2 := Lib.hid o2
        have hgs := hg.size
        replace HT2 := Lib.hid (HT2.out.gr hg)
        replace HBl := Lib.hid (HBl.out.gr hg)
        replace HP := Lib.hid (HP.out.gr hg)
        obtain ⟨f1, hf1, hf2⟩ : ∃ f : ByteArray × Int → Option Value, f (h.s, (h.l.length : Int)) = some hv ∧ ∀ y, y ≠ (h.s, (h.l.length : Int)) → f y = none := put_fun _ _
        obtain ⟨w10, hrun, HM, hgb⟩ := GMap.update (HT1.out.gr hg) bpred_keyed Try.underlying133 (x := (h.s, (h.l.length : Int))) Hkey.out (fun y => kPred_inj) hv hf1 hf2
        simp only [kPred] at hrun
        clear hf2 ho i1 i2 j1 j2 o1 o2 hg c0 c1 c2 c3 c4 c5 c6 c7 b0 b2 p0 p1
        simp only [finAll, Act.put, List.setIfInBounds_toArray, List.set_cons_succ, List.set_cons_zero, clVal_four, List.drop_succ_cons, List.drop_zero, List.take_zero]
        go_upto_region 10 with fail
        have hk1 : Kp (fun x => x = M1) wc w10 := Kp.of_grownBy hgb rfl
        have kr : Kp (fun x => x = B ∨ x = M1 ∨ x = M2) wc w10 := hk1.mono fun x hx => .inr (.inl hx)
        replace kw := kw.trans kr
        replace HT2 := Lib.hid (HT2.out.kp hk1 (Ne.symm hn3))
        replace HBl := Lib.hid (HBl.out.kp hk1 (Ne.symm hn1))
        replace HP := Lib.hid (HP.out.kp hk1 (by omega))
        replace HM := Lib.hid HM
        clear hrun hgb hk1
        have b0 := HBl.out.cell 0 (v := .int .i64 1) rfl
        have b1 := HBl.out.cell 1 (v := .slice none 0 0) rfl
        refine wp_region_rely_tail 14 [fx (.pointer (some ⟨B, 0, none⟩)), fx (.pointer (some ⟨B, 0, none⟩)), fx (.pointer (some ⟨B, 0, none⟩)), fx (.pointer (some ⟨B, 1, none⟩)), fx (.slice none 0 0), fx (.int .i64 0), fx (.pointer (some ⟨B, 0, none⟩)), fx (.pointer (some ⟨B, 0, none⟩)), fx (.pointer (some ⟨B, 0, none⟩)), fx (.int .i64 1), oneIntV 1, sliceV, fx (.pointer (some ⟨B, 0, none⟩)), fx (.pointer (some ⟨B, 1, none⟩))]
          (by kernel_rfl) (by kernel_rfl) (by decide) (by repeat (first | exact Stable.nil | refine Stable.fix ?_ | refine Stable.cons oneIntV_stable ?_ | refine Stable.cons sliceV_stable ?_)) ?_ ?_
        · refine ⟨?_, ?_, ?_, ?_, ?_, ?_, ?_, ?_, ?_, ?_, ?a10, ?a11, ?_, ?_, trivial⟩
          all_goals
            intro a wr hg hold
            have h0 : a.tmps[0]?.getD undef = .pointer (some ⟨B, 0, none⟩) := hold 0 rfl
            have h12 : a.tmps[12]?.getD undef = .int .i64 0 := hold 12 rfl
            clear hold
            have y0 := Gr.at hg b0
            have y1 := Gr.at hg b1
            clear b0 b1
            simp [predsImp, Region.binds, dstAt, fx]
            intros
            first
              | (rw [if_pos (by simp [*])]
                 intro K hK)
              | (rename_i K hK)
            go_simp
          case a10 =>
            exact hK _ _ ⟨_, rfl, (BlkT.new wr 3 #[.int .i64 1]).cell 0 rfl⟩ (by go_grown)
          case a11 =>
            have hq : oneIntV 1 (a.tmps[85]?.getD undef) wr := by assumption
            obtain ⟨g, e1, d0⟩ := hq
            rw [e1]
            refine (insert_calls g 1 wr d0).mono ?_
            rintro e w11 ⟨q, cq, rfl, hg2⟩
            exact hK _ _ ⟨q, 1, cq, rfl⟩ hg2
          all_goals exact hK _ _ rfl (Gr.rfl' _)
        · intro wd hg
          rintro _ rfl _ rfl _ rfl _ rfl _ rfl _ rfl _ rfl _ rfl _ rfl _ rfl v10 _ _ ⟨q, n, cq, rfl⟩ _ rfl _ rfl
          replace kw := kw.trans (Kp.of_gr hg)
          replace kr := kr.trans (Kp.of_gr hg)
          replace HM := Lib.hid (HM.out.gr hg)
          replace HT2 := Lib.hid (HT2.out.gr hg)
          replace HBl := Lib.hid (HBl.out.gr hg)
          replace HP := Lib.hid (HP.out.gr hg)
          have f1' := HBl.out.open_ 1
          have e1 := HBl.out.cell 1 (v := .slice none 0 0) rfl
          clear hg b0 b1
          simp only [finAll, Act.put, List.setIfInBounds_toArray, List.set_cons_succ, List.set_cons_zero, List.drop_succ_cons, List.drop_zero, List.take_zero]
          go_upto_region 11 with fail
          have hk2 : Kp (fun x => x = B) wd (wd.setCell ⟨B, 1, none⟩ (.slice q n cq)) := Kp.set rfl
          have hB2 := HBl.out.set 1 (.slice q n cq)
          simp only [List.setIfInBounds_toArray, List.set_cons_succ, List.set_cons_zero] at hB2
          generalize wd.setCell ⟨B, 1, none⟩ (.slice q n cq) = we at *
          replace kw := kw.trans (hk2.mono fun x hx => .inl hx)
          replace kr := kr.trans (hk2.mono fun x hx => .inl hx)
          replace HM := Lib.hid (HM.out.kp hk2 hn1)
          replace HT2 := Lib.hid (HT2.out.kp hk2 hn2)
          replace HP := Lib.hid (HP.out.kp hk2 (by omega))
          replace HBl := Lib.hid hB2
          clear hk2 hB2 f1' e1
          have b0 := HBl.out.cell 0 (v := .int .i64 1) rfl
          have b3 := HBl.out.cell 3 (v := .map (some M2)) rfl
          have p0 := HP.out.cell 0 (v := .string h.s) rfl
          have p1 := HP.out.cell 1 (v := .int .i64 h.l.length) rfl
          refine wp_region_rely_tail 9 [fx (.pointer (some ⟨B, 0, none⟩)), fx (.pointer (some ⟨B, 0, none⟩)), fx (.pointer (some ⟨B, 3, none⟩)), fx (.map (some M2)), fx (.pointer (some ⟨B, 0, none⟩)), fx (.pointer (some ⟨B, 0, none⟩)), fx (.pointer (some ⟨B, 0, none⟩)), fx (.int .i64 1), fx (.agg #[.string h.s, .int .i64 h.l.length])]
            (by kernel_rfl) (by kernel_rfl) (by decide) (by repeat (first | exact Stable.nil | refine Stable.fix ?_)) ?_ ?_
          · refine ⟨?_, ?_, ?_, ?_, ?_, ?_, ?_, ?_, ?_, trivial⟩
            all_goals
              intro a wr hg hold
              have h0 : a.tmps[0]?.getD undef = .pointer (some ⟨B, 0, none⟩) := hold 0 rfl
              have h10 : a.tmps[10]?.getD undef = .pointer (some ⟨p, 0, none⟩) := hold 10 rfl
              clear hold
              have y0 := Gr.at hg b0
              have y3 := Gr.at hg b3
              have x0 := Gr.at hg p0
              have x1 := Gr.at hg p1
              clear b0 b3 p0 p1
              simp [predsImp, Region.binds, dstAt, fx]
              intros
              first
                | (rw [if_pos (by simp [*])]
                   intro K hK)
                | (rename_i K hK)
              go_simp
            all_goals exact hK _ _ rfl (Gr.rfl' _)
          · intro wf hg
            rintro _ rfl _ rfl _ rfl _ rfl _ rfl _ rfl _ rfl _ rfl _ rfl
            replace kw := kw.trans (Kp.of_gr hg)
            replace kr := kr.trans (Kp.of_gr hg)
            replace HM := Lib.hid (HM.out.gr hg)
            replace HBl := Lib.hid (HBl.out.gr hg)
            obtain ⟨f2, hf3, hf4⟩ : ∃ f : Int → Option Value, f 1 = some (.agg #[.string h.s, .int .i64 h.l.length]) ∧ ∀ y, y ≠ 1 → f y = none := put_fun _ _
            obtain ⟨wg, hrun, HM2, hgb⟩ := GMap.update (HT2.out.gr hg) (int_keyed Try.underlying3) Try.underlying134 (x := (1 : Int)) Hkey1.out (fun y => kInt_inj) (.agg #[.string h.s, .int .i64 h.l.length]) hf3 hf4
            simp only [kInt] at hrun
            have hk3 : Kp (fun x => x = M2) wf wg := Kp.of_grownBy hgb rfl
            replace kw := kw.trans (hk3.mono fun x hx => .inr (.inr hx))
            replace kr := kr.trans (hk3.mono fun x hx => .inr (.inr hx))
            replace HM := Lib.hid (HM.out.kp hk3 hn3)
            replace HBl := Lib.hid (HBl.out.kp hk3 (Ne.symm hn2))
            replace HM2 := Lib.hid HM2
            clear hg hgb hk3 hf4 b0 b3 p0 p1
            have hK : ∀ x, w9.heap.size ≤ x → ¬ (x = B ∨ x = M1 ∨ x = M2) := fun x hx h => by omega
            have hone : Hid (OneBase wg B M1 M2 h.s h.l.length h.erase b.erase) := ⟨⟨_, HBl.out⟩, ⟨hv, f1, HM.out, hf1, h9, b9, row_le (ownsRow_kp Ho.out kr hK) (Nat.zero_le _),
              in_after' I1.out O1.out (fun x hx hlt o => World.cell?_of_block (kr.block x hlt (hK x hx))), in_after' I2.out O2.out (fun x hx hlt o => World.cell?_of_block (kr.block x hlt (hK x hx))), J1.out, J2.out⟩, ⟨f2, HM2.out, hf3⟩⟩
            have b0 := HBl.out.cell 0 (v := .int .i64 1) rfl
            simp only [finAll, Act.put, List.setIfInBounds_toArray, List.set_cons_succ, List.set_cons_zero, List.drop_succ_cons, List.drop_zero, List.take_zero]
            go_wp2_with fail
            exact hR.out _ hone.out kw
end Go.Proofs.Yteonakicoomjkaa

namespace Go.Proofs.Yteonakicoomjkaa
open Go.RowKit Go.Maps Go.Lib

set_option maxRecDepth 100000 in
theorem get1_calls (h b : Tm) (p : Nat) (w : World) (hp : w.cell? ⟨p, 0, none⟩ = some (.int .i64 1)) :
    Calls Try.prog 104 #[.agg #[.int .i64 1, .int .i64 h.k, .int .i64 h.n, .string h.s, .slice h.p h.l.length h.c, .int .i64 b.k, .int .i64 b.n, .string b.s, .slice b.p b.l.length b.c], .pointer (some ⟨p, 0, none⟩)] w (Ret (.bool true) w) := by
  have hR : Hid (∀ w', Gr w w' → Ret (.bool true) w (.returned (.bool true)) w') := fun w' hg => ⟨rfl, hg⟩
  generalize hQ : Ret (.bool true) w = Q at hR ⊢
  clear hQ
  go_enter Try.func104, Try.ntmps104
  try simp only [List.append_eq, List.cons_append, List.nil_append]
  go_upto_region 1 with fail
  have hN := BlkT.new w 143 #[.int .i64 1, .int .i64 h.k, .int .i64 h.n, .string h.s, .slice h.p h.l.length h.c, .int .i64 b.k, .int .i64 b.n, .string b.s, .slice b.p b.l.length b.c]
  have gA : Gr w (w.alloc (.cells #[.int .i64 1, .int .i64 h.k, .int .i64 h.n, .string h.s, .slice h.p h.l.length h.c, .int .i64 b.k, .int .i64 b.n, .string b.s, .slice b.p b.l.length b.c] 143)) := by go_grown
  generalize w.alloc (.cells #[.int .i64 1, .int .i64 h.k, .int .i64 h.n, .string h.s, .slice h.p h.l.length h.c, .int .i64 b.k, .int .i64 b.n, .string b.s, .slice b.p b.l.length b.c] 143) = wA at *
  have c0 := hN.cell 0 (v := .int .i64 1) rfl
  replace hp := Gr.at gA hp
  clear hN
  go_wp2_with fail
  exact hR.out _ gA

set_option maxHeartbeats 1000000 in
set_option maxRecDepth 100000 in
theorem indexHeld_calls (h b : Tm) (g c p : Nat) (w : World) (hc : ∀ j u, (heldCells 1 h b)[j]? = some u → w.cell? ⟨g, j, none⟩ = some u) (hp : w.cell? ⟨p, 0, none⟩ = some (.int .i64 1)) :
    Calls Try.prog 103 #[.slice (some ⟨g, 0, none⟩) 1 c, .func (Fn.func 104) #[] #[.pointer (some ⟨p, 0, none⟩)]] w (Ret (.int .i64 0) w) := by
  have hR : Hid (∀ w', Gr w w' → Ret (.int .i64 0) w (.returned (.int .i64 0)) w') := fun w' hg => ⟨rfl, hg⟩
  generalize hQ : Ret (.int .i64 0) w = Q at hR ⊢
  clear hQ
  have hen : ∀ args w, (callFunc 104 args).run Try.prog w = .ok (.enter 104 args) w := fun args w => by kernel_rfl
  have HC := Lib.hid hc
  have HP := Lib.hid hp
  clear hc hp
  go_enter Try.func103, Try.ntmps103
  try simp only [List.append_eq, List.cons_append, List.nil_append]
  go_wp2_with fail
  go_loopg [8] 0 (fun m i wr => i = .int .i64 0 ∧ w = wr)
  case atStart => exact ⟨rfl, rfl⟩
  case round =>
    obtain ⟨rfl, rfl⟩ := hrel
    have c0 := HC.out 0 _ rfl
    have c1 := HC.out 1 _ rfl
    have c2 := HC.out 2 _ rfl
    have c3 := HC.out 3 _ rfl
    have c4 := HC.out 4 _ rfl
    have c5 := HC.out 5 _ rfl
    have c6 := HC.out 6 _ rfl
    have c7 := HC.out 7 _ rfl
    have c8 := HC.out 8 _ rfl
    go_wp2_with (first | (go_at_call 104; refine (get1_calls h b p w HP.out).mono ?_; rintro e w' ⟨rfl, hg⟩) | fail)
    exact hR.out _ hg

/-- A clause is handed back, and no error. -/
def RetClE (t u : T) (w : World) (e : Ending) (w' : World) : Prop := ∃ h b : Tm, e = .returned (.tuple #[clVal h b, .int .i64 0]) ∧ h.In w' ∧ b.In w' ∧ h.erase = t ∧ b.erase = u ∧ Gr w w'

set_option maxHeartbeats 8000000 in
set_option maxRecDepth 100000 in
theorem get_calls (B M1 M2 : Nat) (s : ByteArray) (n : Int) (t u : T) (w : World) (hB : OneBase w B M1 M2 s n t u) (ft : t.formed = true) (fu : u.formed = true) (hs : s.size ≤ 1000) (hn : 0 ≤ n ∧ n ≤ 1000) :
    Calls Try.prog 33 #[.pointer (some ⟨B, 0, none⟩), .int .i64 1] w (RetClE t u w) := by
  have hR : Hid (∀ (h b : Tm) (w' : World), h.In w' → b.In w' → h.erase = t → b.erase = u → Gr w w' → RetClE t u w (.returned (.tuple #[clVal h b, .int .i64 0])) w') := fun h b w' h1 h2 h3 h4 hg => ⟨h, b, rfl, h1, h2, h3, h4, hg⟩
  generalize hQ : RetClE t u w = Q at hR ⊢
  clear hQ
  have Hkey := Lib.hid (keyOf_bpred (s := s) (n := n) (by simp only [maxLen]; omega) (wf_64 ⟨by omega, by omega⟩))
  have Hkey1 := Lib.hid (keyOf_int_mk Try.underlying3 (wf_64 (c := 1) ⟨by omega, by omega⟩))
  obtain ⟨⟨av, hbl⟩, ⟨hv, f, hm1, hf1, h, b, ho, ih, ib, eh, eb⟩, ⟨f2, hm2, hf2⟩⟩ := hB
  obtain ⟨g, cap, rfl, _, hcs⟩ := row_cells ho
  have HCs := Lib.hid hcs
  clear hcs
  have HBl := Lib.hid hbl
  have HM1 := Lib.hid hm1
  have HM2 := Lib.hid hm2
  have HF1 := Lib.hid hf1
  have HF2 := Lib.hid hf2
  have HO := Lib.hid ho
  have IH := Lib.hid ih
  have IB := Lib.hid ib
  have FH : Hid (h.erase.formed = true) := by show _ = _; rw [eh]; exact ft
  have FB : Hid (b.erase.formed = true) := by show _ = _; rw [eb]; exact fu
  have EH := Lib.hid eh
  have EB := Lib.hid eb
  clear hbl hm1 hm2 hf1 hf2 ho ih ib eh eb ft fu
  go_enter Try.func33, Try.ntmps33
  try simp only [List.append_eq, List.cons_append, List.nil_append]
  go_upto_region 1 with fail
  have hI := BlkT.new w 3 #[.int .i64 1]
  have g1 : Gr w (w.alloc (.cells #[.int .i64 1] 3)) := by go_grown
  have hN : Blk8 ((w.alloc (.cells #[.int .i64 1] 3)).alloc (.cells #[.int .i64 0, .int .i64 0, .string ⟨#[]⟩, .slice none 0 0, .int .i64 0, .int .i64 0, .string ⟨#[]⟩, .slice none 0 0] 41)) (w.alloc (.cells #[.int .i64 1] 3)).heap.size (.int .i64 0) (.int .i64 0) (.string ⟨#[]⟩) (.slice none 0 0) (.int .i64 0) (.int .i64 0) (.string ⟨#[]⟩) (.slice none 0 0) := heap_alloc_new _ _
  rw [World.size_alloc] at hN
  have g2 : Gr (w.alloc (.cells #[.int .i64 1] 3)) ((w.alloc (.cells #[.int .i64 1] 3)).alloc (.cells #[.int .i64 0, .int .i64 0, .string ⟨#[]⟩, .slice none 0 0, .int .i64 0, .int .i64 0, .string ⟨#[]⟩, .slice none 0 0] 41)) := by go_grown
  have hI2 := hI.gr g2
  have gA := g1.trans g2
  generalize (w.alloc (.cells #[.int .i64 1] 3)).alloc (.cells #[.int .i64 0, .int .i64 0, .string ⟨#[]⟩, .slice none 0 0, .int .i64 0, .int .i64 0, .string ⟨#[]⟩, .slice none 0 0] 41) = wA at *
  clear hI g1 g2
  have HI := Lib.hid hI2
  have HR := Lib.hid hN
  have hszA := HR.out.lt
  clear hI2 hN
  have b3 := (HBl.out.gr gA).cell 3 (v := .map (some M2)) rfl
  have i0 := HI.out.cell 0 (v := .int .i64 1) rfl
  have hlt0 : w.heap.size < wA.heap.size := by omega
  have hltB : B < wA.heap.size := by have := HBl.out.lt; have := gA.size; omega
  have hlk : ∀ W, Gr wA W → (Instr.lookup 134 (.map (some M2)) (.int .i64 1) true).run Try.prog W = .ok (.tuple #[.agg #[.string s, .int .i64 n], .bool true]) W := by
    intro W hW
    have h := (GMap.run (HM2.out.gr (gA.trans hW)) (int_keyed Try.underlying3) Try.underlying134 (zero_bpred W) (x := (1 : Int)) Hkey1.out).2
    rw [HF2.out] at h
    exact h
  have hlA := hlk wA.drew (by go_grown)
  have hlB := hlk (wA.alloc (.cells #[.string ⟨#[]⟩, .int .i64 0] 138)).drew (by go_grown)
  replace hlk := Lib.hid hlk
  go_region
  all_goals
    have hP := BlkT.new wA 138 #[.string s, .int .i64 n]
    have gB : Gr wA (wA.alloc (.cells #[.string s, .int .i64 n] 138)).drew := by go_grown
    have hP2 := hP.gr (by go_grown : Gr _ (wA.alloc (.cells #[.string s, .int .i64 n] 138)).drew)
    generalize (wA.alloc (.cells #[.string s, .int .i64 n] 138)).drew = wB at *
    clear hP hlA hlB hlk b3 i0
    have HP := Lib.hid hP2
    clear hP2
    generalize wA.heap.size = p at *
    have gAB := gA.trans gB
    replace HI := Lib.hid (HI.out.gr gB)
    replace HR := Lib.hid (HR.out.gr gB)
    have b2 := (HBl.out.gr gAB).cell 2 (v := .map (some M1)) rfl
    have p0 := HP.out.cell 0 (v := .string s) rfl
    have p1 := HP.out.cell 1 (v := .int .i64 n) rfl
    go_upto_region 4 with fail
    refine wp_region_rely [fx (.pointer (some ⟨B, 0, none⟩)), fx (.pointer (some ⟨B, 0, none⟩)), fx (.pointer (some ⟨B, 2, none⟩)), fx (.map (some M1)), fx (.agg #[.string s, .int .i64 n]), fx (.slice (some ⟨g, 0, none⟩) 1 cap), fx (.slice (some ⟨g, 0, none⟩) 1 cap)]
      (by kernel_rfl) (by kernel_rfl) (by repeat (first | exact Stable.nil | refine Stable.fix ?_)) ?_ ?_
    · refine ⟨?_, ?_, ?_, ?_, ?_, ?_, ?_, trivial⟩
      all_goals
        intro a wr hg hold
        have h0 : a.tmps[0]?.getD undef = .pointer (some ⟨B, 0, none⟩) := hold 0 rfl
        have h6 : a.tmps[6]?.getD undef = .pointer (some ⟨p, 0, none⟩) := hold 6 rfl
        clear hold
        have y2 := Gr.at hg b2
        have x0 := Gr.at hg p0
        have x1 := Gr.at hg p1
        have hlk := (GMap.run (HM1.out.gr (gAB.trans hg)) bpred_keyed Try.underlying133 (zero_held wr) (x := (s, n)) Hkey.out).1
        rw [HF1.out] at hlk
        simp only [kPred, Option.getD_some] at hlk
        clear b2 p0 p1
        simp [predsImp, Region.binds, dstAt, fx]
        intros
        first
          | (rw [if_pos (by simp [*])]
             intro K hK)
          | (rename_i K hK)
        go_simp
      all_goals exact hK _ _ rfl (Gr.rfl' _)
    · intro wc hg
      rintro _ rfl _ rfl _ rfl _ rfl _ rfl _ rfl _ rfl
      have gC := gAB.trans hg
      replace HI := Lib.hid (HI.out.gr hg)
      replace HR := Lib.hid (HR.out.gr hg)
      have i0 := HI.out.cell 0 (v := .int .i64 1) rfl
      clear b2 p0 p1 hg gB gAB
      simp only [finAll, Act.put, List.setIfInBounds_toArray, List.set_cons_succ, List.set_cons_zero]
      go_upto_region 6 with (first
        | (go_at_call 103; refine (indexHeld_calls h b g cap _ wc (fun j x hx => Gr.at gC (HCs.out j x hx)) i0).mono ?_; rintro e wd ⟨rfl, hb⟩; have gD := gC.trans hb; replace HR := Lib.hid (HR.out.gr hb); clear hb i0)
        | fail)
      have z0 := Gr.at gD (HCs.out 0 _ rfl)
      have z1 := Gr.at gD (HCs.out 1 _ rfl)
      have z2 := Gr.at gD (HCs.out 2 _ rfl)
      have z3 := Gr.at gD (HCs.out 3 _ rfl)
      have z4 := Gr.at gD (HCs.out 4 _ rfl)
      have z5 := Gr.at gD (HCs.out 5 _ rfl)
      have z6 := Gr.at gD (HCs.out 6 _ rfl)
      have z7 := Gr.at gD (HCs.out 7 _ rfl)
      have z8 := Gr.at gD (HCs.out 8 _ rfl)
      have Hcv := Lib.hid (clVal_eq h b)
      go_wp2_with (first
        | (go_at_call 101; rewrite [← Hcv.out]; refine (copied_calls h b _ (Tm.In_below gD IH.out) (Tm.In_below gD IB.out) FH.out FB.out).mono ?_; rintro e we ⟨h2, b2, rfl, i1, i2, j1, j2, o1, o2, hb⟩; have I1 := Lib.hid i1; have I2 := Lib.hid i2; have J1 := Lib.hid j1; have J2 := Lib.hid j2; have O1 := Lib.hid o1; have O2 := Lib.hid o2; have gE := gD.trans hb; have hszd := gD.size; have hltr := HR.out.lt; replace HR := Lib.hid (HR.out.gr hb); rewrite [clVal_eq]; clear i1 i2 j1 j2 o1 o2 hb z0 z1 z2 z3 z4 z5 z6 z7 z8; obtain ⟨y0, y1, y2, y3, y4, y5, y6, y7⟩ := HR.out.cells; obtain ⟨f0, f1, f2, f3, f4, f5, f6, f7⟩ := HR.out.open_)
        | fail)
      have hfin : Hid (∀ W, Kp (fun x => x = w.heap.size + 1) we W → Q (.returned (.tuple #[clVal h2 b2, .int .i64 0])) W) := fun W hK =>
        hR.out h2 b2 W (in_after' I1.out O1.out fun x h1 hx o => World.cell?_of_block (hK.block x hx (by omega))) (in_after' I2.out O2.out fun x h1 hx o => World.cell?_of_block (hK.block x hx (by omega))) (J1.out.trans EH.out) (J2.out.trans EB.out) (Below.trans gE (hK.below (B := w.heap.size) (fun x hx => by omega) (by have := gE.size; omega)))
      refine bodyPost_ret (v := .tuple #[clVal h2 b2, .int .i64 0]) (by simp (maxDischargeDepth := 9) [results, Try.results33, go_sem, clVal, y0, y1, y2, y3, y4, y5, y6, y7]) rfl ?_
      exact hfin.out _ ((Kp.set4 (C := fun x => x = w.heap.size + 1) rfl).trans (Kp.set4 (C := fun x => x = w.heap.size + 1) rfl))
end Go.Proofs.Yteonakicoomjkaa
