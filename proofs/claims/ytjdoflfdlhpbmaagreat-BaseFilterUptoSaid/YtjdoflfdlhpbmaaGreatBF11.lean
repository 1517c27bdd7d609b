/-
  (*base.Base).Add where the base is new.
  (*base.Base).Get where the base has one clause.
  base.lets without Args, (*base.View).Next of one clause.
-/
import Derived.Test.YtjdoflfdlhpbmaaGreatBF10
namespace Go.Proofs.YtjdoflfdlhpbmaaGreat
open Go.RowKit Go.Maps Go.Lib

/-- What Add on a new base does. -/
def RetAdd (B M1 M2 : Nat) (s : ByteArray) (n : Int) (t u : T) (w : World) (e : Ending) (w' : World) : Prop :=
  e = .returned (.tuple #[.int .i64 1, .int .i64 0]) ∧ OneBase w' B M1 M2 s n t u ∧ Kp (fun x => x = B ∨ x = M1 ∨ x = M2) w w'

set_option maxHeartbeats 8000000 in
set_option maxRecDepth 100000 in
theorem add_calls (B M1 M2 : Nat) (h b : Tm) (first : Bool) (w : World) (S : Nat → Prop) (hB : NewBase w B M1 M2) (hh : h.In w) (hb : b.In w) (oh : h.On S) (ob : b.On S) (hS : ∀ x, S x → ¬ (x = B ∨ x = M1 ∨ x = M2)) (hp : plainErr reserved h.erase b.erase = 0) (fh : h.erase.formed = true) (fb : b.erase.formed = true) (hs : h.s.size ≤ 1000) (hl : h.l.length ≤ 1000) :
    Calls Tryz.prog 7 #[.pointer (some ⟨B, 0, none⟩), clVal h b, .bool first] w (RetAdd B M1 M2 h.s h.l.length h.erase b.erase w) := by
  have Hh := Lib.hid hh
  have Hb := Lib.hid hb
  have Oh := Lib.hid oh
  have Ob := Lib.hid ob
  have HS := Lib.hid hS
  have Fh := Lib.hid fh
  have Fb := Lib.hid fb
  have HNB := Lib.hid hB
  have hBl := hB.blk.lt
  have hM1l := hB.m1.lt
  have hM2l := hB.m2.lt
  have hn1 := hB.n1
  have hn2 := hB.n2
  have hn3 := hB.n3
  have Hkey := Lib.hid (keyOf_bpred (s := h.s) (n := (h.l.length : Int)) (by simp only [maxLen]; omega) (wf_64 ⟨by omega, by omega⟩))
  have Hkey1 := Lib.hid (keyOf_int_mk Tryz.underlying3 (wf_64 (c := 1) ⟨by omega, by omega⟩))
  have hpa := Lib.hid (plainAns_ok hp)
  have hl64 : IntKind.i64.wrap (h.l.length : Int) = h.l.length := IntWalk.i64_in _ (by omega)
  have hR : Hid (∀ w', OneBase w' B M1 M2 h.s h.l.length h.erase b.erase → Kp (fun x => x = B ∨ x = M1 ∨ x = M2) w w' → RetAdd B M1 M2 h.s h.l.length h.erase b.erase w (.returned (.tuple #[.int .i64 1, .int .i64 0])) w') := fun w' h1 h2 => ⟨rfl, h1, h2⟩
  generalize hQ : RetAdd B M1 M2 h.s h.l.length h.erase b.erase w = Q at hR ⊢
  clear hQ hh hb fh fb hp hB oh ob hS
  have Hcv := Lib.hid (clVal_eq h b)
  have Hhv := Lib.hid (show h.val = .agg #[.int .i64 h.k, .int .i64 h.n, .string h.s, .slice h.p h.l.length h.c] from rfl)
  rw [clVal_eq]
  go_enter Tryz.func7, Tryz.ntmps7
  try simp only [List.append_eq, List.cons_append, List.nil_append]
  go_upto_region 1 with fail
  have hN : Blk8 (w.alloc (.cells #[.int .i64 h.k, .int .i64 h.n, .string h.s, .slice h.p h.l.length h.c, .int .i64 b.k, .int .i64 b.n, .string b.s, .slice b.p b.l.length b.c] 29)) w.heap.size (.int .i64 h.k) (.int .i64 h.n) (.string h.s) (.slice h.p h.l.length h.c) (.int .i64 b.k) (.int .i64 b.n) (.string b.s) (.slice b.p b.l.length b.c) := heap_alloc_new _ _
  have gw : Gr w (w.alloc (.cells #[.int .i64 h.k, .int .i64 h.n, .string h.s, .slice h.p h.l.length h.c, .int .i64 b.k, .int .i64 b.n, .string b.s, .slice b.p b.l.length b.c] 29)) := by go_grown
  generalize w.alloc (.cells #[.int .i64 h.k, .int .i64 h.n, .string h.s, .slice h.p h.l.length h.c, .int .i64 b.k, .int .i64 b.n, .string b.s, .slice b.p b.l.length b.c] 29) = wA at *
  have HC := Lib.hid hN
  clear hN
  obtain ⟨c0, c1, c2, c3, c4, c5, c6, c7⟩ := HC.out.cells
  go_upto_region 2 with (first
    | (go_at_call 25; rewrite [← Hcv.out]; refine (Plain_calls h b _ (Tm.In_below gw Hh.out) (Tm.In_below gw Hb.out)).mono ?_; rw [hpa.out]; rintro e w1 ⟨p1, rfl, hi, he, hb⟩; replace HC := Lib.hid (HC.out.gr hb); replace gw := gw.trans hb; have Vp1 := Lib.hid (show p1.val = .agg #[.int .i64 p1.k, .int .i64 p1.n, .string p1.s, .slice p1.p p1.l.length p1.c] from rfl); rewrite [Vp1.out]; clear hi he hb c0 c1 c2 c3 c4 c5 c6 c7)
    | fail)
  have gB : Gr w1 (w1.alloc (.cells #[.int .i64 p1.k, .int .i64 p1.n, .string p1.s, .slice p1.p p1.l.length p1.c] 24)) := by go_grown
  generalize w1.alloc (.cells #[.int .i64 p1.k, .int .i64 p1.n, .string p1.s, .slice p1.p p1.l.length p1.c] 24) = w2 at *
  replace HC := Lib.hid (HC.out.gr gB)
  replace gw := gw.trans gB
  clear gB
  have hsz := gw.size
  have HBl := Lib.hid (HNB.out.blk.gr gw)
  have b0 := HBl.out.cell 0 (v := .int .i64 0) rfl
  have f0 := HBl.out.open_ 0
  go_upto_region 5 with fail
  have hK : Kp (fun x => x = B) w2 (w2.setCell ⟨B, 0, none⟩ (.int .i64 1)) := Kp.set rfl
  have hB2 := HBl.out.set 0 (.int .i64 1)
  simp only [List.setIfInBounds_toArray, List.set_cons_zero] at hB2
  generalize w2.setCell ⟨B, 0, none⟩ (.int .i64 1) = w3 at *
  have kw : Kp (fun x => x = B ∨ x = M1 ∨ x = M2) w w3 := (Kp.of_gr gw).trans (hK.mono fun x hx => .inl hx)
  have HT1 := Lib.hid ((HNB.out.m1.gr gw).kp hK hn1)
  have HT2 := Lib.hid ((HNB.out.m2.gr gw).kp hK hn2)
  replace HBl := Lib.hid hB2
  have hCl := HC.out.lt
  replace HC := Lib.hid (HC.out.kp hK (by have := HNB.out.blk.lt; omega))
  clear hK hB2 b0 f0
  obtain ⟨c0, c1, c2, c3, c4, c5, c6, c7⟩ := HC.out.cells
  go_upto_region 6 with (first
    | (go_at_call 26; rewrite [← Hhv.out]; refine (of_calls h _).mono ?_; rintro e w4 ⟨rfl, hb⟩; have g34 : Gr w3 w4 := hb; clear hb c0 c1 c2 c3 c4 c5 c6 c7)
    | fail)
  have hP : BlkT (w4.alloc (.cells #[.string h.s, .int .i64 h.l.length] 68)) w4.heap.size 68 #[.string h.s, .int .i64 h.l.length] := BlkT.new _ _ _
  have g45 : Gr w4 (w4.alloc (.cells #[.string h.s, .int .i64 h.l.length] 68)) := by go_grown
  have hp0 : w.heap.size + 1 ≤ w4.heap.size := by have := HC.out.lt; have := g34.size; omega
  generalize w4.alloc (.cells #[.string h.s, .int .i64 h.l.length] 68) = w5 at *
  generalize w4.heap.size = p at *
  have g35 : Gr w3 w5 := Gr.trans g34 g45
  replace kw := kw.trans (Kp.of_gr g35)
  replace HT1 := Lib.hid (HT1.out.gr g35)
  replace HT2 := Lib.hid (HT2.out.gr g35)
  replace HBl := Lib.hid (HBl.out.gr g35)
  replace HC := Lib.hid (HC.out.gr g35)
  have HP := Lib.hid hP
  clear hP g34 g45 g35
  obtain ⟨c0, c1, c2, c3, c4, c5, c6, c7⟩ := HC.out.cells
  have b0 := HBl.out.cell 0 (v := .int .i64 1) rfl
  have b1 := HBl.out.cell 1 (v := .slice none 0 0) rfl
  have b2 := HBl.out.cell 2 (v := .map (some M1)) rfl
  have b3 := HBl.out.cell 3 (v := .map (some M2)) rfl
  have p0 := HP.out.cell 0 (v := .string h.s) rfl
  have p1 := HP.out.cell 1 (v := .int .i64 h.l.length) rfl
  have hlk := (HT1.out.run bpred_keyed Tryz.underlying54 (zero_held w5) (x := (h.s, (h.l.length : Int))) Hkey.out).1
  simp only [kPred, Option.getD_none] at hlk
  refine wp_region_rely [fx (.pointer (some ⟨B, 0, none⟩)), fx (.pointer (some ⟨B, 0, none⟩)), fx (.pointer (some ⟨B, 2, none⟩)), fx (.map (some M1)), fx (.agg #[.string h.s, .int .i64 h.l.length]), fx (.slice none 0 0), fx (.int .i64 0), fx (.pointer (some ⟨B, 0, none⟩)), fx (.pointer (some ⟨B, 0, none⟩)), fx (.pointer (some ⟨B, 1, none⟩)), fx (.slice none 0 0), fx (.int .i64 0), fx (.int .i64 0), fx (.int .i64 0)]
    (by kernel_rfl) (by kernel_rfl) (by repeat (first | exact Stable.nil | refine Stable.fix ?_)) ?_ ?_
  · refine ⟨?_, ?_, ?_, ?_, ?_, ?_, ?_, ?_, ?_, ?_, ?_, ?_, ?_, ?_, trivial⟩
    all_goals
      intro a wr hg hold
      have h0 : a.tmps[0]?.getD undef = .pointer (some ⟨B, 0, none⟩) := hold 0 rfl
      have h10 : a.tmps[10]?.getD undef = .pointer (some ⟨p, 0, none⟩) := hold 10 rfl
      clear hold
      have z1 := Gr.at hg b1
      have z2 := Gr.at hg b2
      have z4 := Gr.at hg p0
      have z5 := Gr.at hg p1
      have hlk := (GMap.run (HT1.out.gr hg) bpred_keyed Tryz.underlying54 (zero_held wr) (x := (h.s, (h.l.length : Int))) Hkey.out).1
      simp only [kPred, Option.getD_none] at hlk
      clear c0 c1 c2 c3 c4 c5 c6 c7 b0 b1 b2 b3 p0 p1
      simp [predsImp, Region.binds, dstAt, fx]
      intros
      first
        | (rw [if_pos (by simp [*])]
           intro K hK)
        | (rename_i K hK)
      go_simp
    all_goals exact hK _ _ rfl (Gr.rfl' _)
  · intro w9 hg
    rintro _ rfl _ rfl _ rfl _ rfl _ rfl _ rfl _ rfl _ rfl _ rfl _ rfl _ rfl _ rfl _ rfl _ rfl
    replace kw := kw.trans (Kp.of_gr hg)
    replace HT1 := Lib.hid (HT1.out.gr hg)
    replace HT2 := Lib.hid (HT2.out.gr hg)
    replace HBl := Lib.hid (HBl.out.gr hg)
    replace HC := Lib.hid (HC.out.gr hg)
    replace HP := Lib.hid (HP.out.gr hg)
    clear hg c0 c1 c2 c3 c4 c5 c6 c7 b0 b1 b2 b3 p0 p1 hlk
    simp only [finAll, Act.put, List.setIfInBounds_toArray, List.set_cons_succ, List.set_cons_zero]
    cases first
    all_goals
      go_upto_region 9 with fail
      have gks := kw.size
      have Hh9 := Lib.hid (in_after' Hh.out Oh.out (W := w9) fun x hx hlt o => World.cell?_of_block (kw.block x hlt (HS.out x hx)))
      have Hb9 := Lib.hid (in_after' Hb.out Ob.out (W := w9) fun x hx hlt o => World.cell?_of_block (kw.block x hlt (HS.out x hx)))
      obtain ⟨c0, c1, c2, c3, c4, c5, c6, c7⟩ := HC.out.cells
      have b0 := HBl.out.cell 0 (v := .int .i64 1) rfl
      have b2 := HBl.out.cell 2 (v := .map (some M1)) rfl
      have p0 := HP.out.cell 0 (v := .string h.s) rfl
      have p1 := HP.out.cell 1 (v := .int .i64 h.l.length) rfl
      refine wp_region_rely_tail 31 [fx (.pointer (some ⟨B, 0, none⟩)), fx (.pointer (some ⟨B, 0, none⟩)), fx (.pointer (some ⟨B, 2, none⟩)), fx (.map (some M1)), fx (.agg #[.string h.s, .int .i64 h.l.length]), fx (.pointer (some ⟨B, 0, none⟩)), fx (.pointer (some ⟨B, 0, none⟩)), fx (.pointer (some ⟨B, 2, none⟩)), fx (.map (some M1)), fx (.agg #[.string h.s, .int .i64 h.l.length]), fx (.slice none 0 0), fx (.int .i64 0), fx (.slice none 0 0), fx (.pointer (some ⟨B, 0, none⟩)), fx (.pointer (some ⟨B, 0, none⟩)), fx (.pointer (some ⟨B, 0, none⟩)), fx (.int .i64 1), fx (clVal h b), clNew (w9.heap.size ≤ ·) h.erase b.erase, heldV (w9.heap.size ≤ ·) h.erase b.erase, rowV (w9.heap.size ≤ ·) h.erase b.erase, fx (.pointer (some ⟨B, 0, none⟩)), fx (.pointer (some ⟨B, 0, none⟩)), fx (.pointer (some ⟨B, 2, none⟩)), fx (.map (some M1)), fx (.agg #[.string h.s, .int .i64 h.l.length]), fx (.slice none 0 0), fx (.int .i64 0), fx (.slice none 0 0), threeV (w9.heap.size ≤ ·) h.erase b.erase, ownV w9.heap.size (w9.heap.size ≤ ·) h.erase b.erase]
        (by kernel_rfl) (by kernel_rfl) (by decide) (by repeat (first | exact Stable.nil | refine Stable.fix ?_ | refine Stable.cons clNew_stable ?_ | refine Stable.cons heldV_stable ?_ | refine Stable.cons rowV_stable ?_ | refine Stable.cons threeV_stable ?_ | refine Stable.cons ownV_stable ?_)) ?_ ?_
      · refine ⟨?_, ?_, ?_, ?_, ?_, ?_, ?_, ?_, ?_, ?_, ?_, ?_, ?_, ?_, ?_, ?_, ?_, ?_, ?a18, ?a19, ?a20, ?_, ?_, ?_, ?_, ?_, ?_, ?_, ?_, ?a29, ?a30, trivial⟩
        all_goals
          intro a wr hg hold
          have h0 : a.tmps[0]?.getD undef = .pointer (some ⟨B, 0, none⟩) := hold 0 rfl
          have h10 : a.tmps[10]?.getD undef = .pointer (some ⟨p, 0, none⟩) := hold 10 rfl
          have h4 : a.tmps[4]?.getD undef = .pointer (some ⟨w.heap.size, 0, none⟩) := hold 4 rfl
          have h11 : a.tmps[11]?.getD undef = .int .i64 0 := hold 11 rfl
          clear hold
          have z0 := Gr.at hg c0
          have z1 := Gr.at hg c1
          have z2 := Gr.at hg c2
          have z3 := Gr.at hg c3
          have z4 := Gr.at hg c4
          have z5 := Gr.at hg c5
          have z6 := Gr.at hg c6
          have z7 := Gr.at hg c7
          have y0 := Gr.at hg b0
          have y2 := Gr.at hg b2
          have x0 := Gr.at hg p0
          have x1 := Gr.at hg p1
          have hlk := (GMap.run (HT1.out.gr hg) bpred_keyed Tryz.underlying54 (zero_held wr) (x := (h.s, (h.l.length : Int))) Hkey.out).1
          simp only [kPred, Option.getD_none] at hlk
          have Hhr := Lib.hid (Tm.In_below hg Hh9.out)
          have Hbr := Lib.hid (Tm.In_below hg Hb9.out)
          clear c0 c1 c2 c3 c4 c5 c6 c7 b0 b2 p0 p1
          simp [predsImp, Region.binds, dstAt, fx]
          intros
          first
            | (rw [if_pos (by simp [*])]
               intro K hK)
            | (rename_i K hK)
          go_simp
        case a18 =>
          refine (copied_calls h b wr Hhr.out Hbr.out Fh.out Fb.out).mono ?_
          rintro e w10 ⟨h2, b2, rfl, i1, i2, j1, j2, o1, o2, hg2⟩
          exact hK _ _ ⟨h2, b2, rfl, i1, i2, j1, j2, o1.mono fun x hx => Nat.le_trans hg.size hx, o2.mono fun x hx => Nat.le_trans hg.size hx⟩ hg2
        case a19 =>
          have hq : clNew (w9.heap.size ≤ ·) h.erase b.erase (a.tmps[62]?.getD undef) wr := by assumption
          obtain ⟨h2, b2, e1, hr⟩ := hq
          rw [e1]
          simp only [clVal]
          go_simp
          exact hK _ _ ⟨h2, b2, rfl, hr⟩ (Gr.rfl' _)
        case a20 =>
          have hq : heldV (w9.heap.size ≤ ·) h.erase b.erase (a.tmps[63]?.getD undef) wr := by assumption
          obtain ⟨h2, b2, e1, i1, i2, hr⟩ := hq
          rw [e1]
          simp only [heldCells]
          go_simp
          have hn := BlkT.new wr 73 (heldCells 1 h2 b2).toArray
          have hgn : Gr wr (wr.alloc (.cells (heldCells 1 h2 b2).toArray 73)) := by go_grown
          exact hK _ _ ⟨h2, b2, _, rfl, fun j x hx => hn.cell j (by simpa using hx), Tm.In_below hgn i1, Tm.In_below hgn i2, hr⟩ hgn
        case a29 =>
          have hq : rowV (w9.heap.size ≤ ·) h.erase b.erase (a.tmps[64]?.getD undef) wr := by assumption
          obtain ⟨h2, b2, g, e1, hc, i1, i2, hr⟩ := hq
          rw [e1]
          go_simp
          have hn := BlkT.new wr 70 #[.slice none 0 0, .slice (some ⟨g, 0, none⟩) 1 1, .slice none 0 0]
          have hgn : Gr wr (wr.alloc (.cells #[.slice none 0 0, .slice (some ⟨g, 0, none⟩) 1 1, .slice none 0 0] 70)) := by go_grown
          exact hK _ _ ⟨h2, b2, g, _, rfl, hn.cell 0 rfl, hn.cell 1 rfl, hn.cell 2 rfl, fun j x hx => Gr.at hgn (hc j x hx), Tm.In_below hgn i1, Tm.In_below hgn i2, hr⟩ hgn
        case a30 =>
          have hq : threeV (w9.heap.size ≤ ·) h.erase b.erase (a.tmps[73]?.getD undef) wr := by assumption
          obtain ⟨h2, b2, g, a0, e1, d0, d1, d2, hc, i1, i2, hr⟩ := hq
          rw [e1]
          refine (concat_calls a0 g (heldCells 1 h2 b2) wr rfl (heldCells_one _ _ _) hc d0 d1 d2).mono ?_
          rintro e w10 ⟨v, rfl, ho, hg2⟩
          exact hK _ _ ⟨h2, b2, row_le ho hg.size, Tm.In_below hg2 i1, Tm.In_below hg2 i2, hr⟩ hg2
        all_goals exact hK _ _ rfl (Gr.rfl' _)
      · intro wc hg
        rintro _ rfl _ rfl _ rfl _ rfl _ rfl _ rfl _ rfl _ rfl _ rfl _ rfl _ rfl _ rfl _ rfl _ rfl _ rfl _ rfl _ rfl _ rfl v18 _ v19 _ v20 _ _ rfl _ rfl _ rfl _ rfl _ rfl _ rfl _ rfl _ rfl v29 _ hv ⟨h9, b9, ho, i1, i2, j1, j2, o1, o2⟩
        replace kw := kw.trans (Kp.of_gr hg)
        have Ho := Lib.hid ho
        have I1 := Lib.hid i1
        have I2 := Lib.hid i2
        have J1 := Lib.hid j1
        have J2 := Lib.hid j2
        have O1 := Lib.hid o1
        have O2 := Lib.hid o2
        have hgs := hg.size
        replace HT2 := Lib.hid (HT2.out.gr hg)
        replace HBl := Lib.hid (HBl.out.gr hg)
        replace HP := Lib.hid (HP.out.gr hg)
        obtain ⟨f1, hf1, hf2⟩ : ∃ f : ByteArray × Int → Option Value, f (h.s, (h.l.length : Int)) = some hv ∧ ∀ y, y ≠ (h.s, (h.l.length : Int)) → f y = none := put_fun _ _
        obtain ⟨w10, hrun, HM, hgb⟩ := GMap.update (HT1.out.gr hg) bpred_keyed Tryz.underlying54 (x := (h.s, (h.l.length : Int))) Hkey.out (fun y => kPred_inj) hv hf1 hf2
        simp only [kPred] at hrun
        clear hf2 ho i1 i2 j1 j2 o1 o2 hg c0 c1 c2 c3 c4 c5 c6 c7 b0 b2 p0 p1
        simp only [finAll, Act.put, List.setIfInBounds_toArray, List.set_cons_succ, List.set_cons_zero, clVal_four, List.drop_succ_cons, List.drop_zero, List.take_zero]
        go_upto_region 10 with fail
        have hk1 : Kp (fun x => x = M1) wc w10 := Kp.of_grownBy hgb rfl
        have kr : Kp (fun x => x = B ∨ x = M1 ∨ x = M2) wc w10 := hk1.mono fun x hx => .inr (.inl hx)
        replace kw := kw.trans kr
        replace HT2 := Lib.hid (HT2.out.kp hk1 (Ne.symm hn3))
        replace HBl := Lib.hid (HBl.out.kp hk1 (Ne.symm hn1))
        replace HP := Lib.hid (HP.out.kp hk1 (by omega))
        replace HM := Lib.hid HM
        clear hrun hgb hk1
        have b0 := HBl.out.cell 0 (v := .int .i64 1) rfl
        have b1 := HBl.out.cell 1 (v := .slice none 0 0) rfl
        refine wp_region_rely_tail 14 [fx (.pointer (some ⟨B, 0, none⟩)), fx (.pointer (some ⟨B, 0, none⟩)), fx (.pointer (some ⟨B, 0, none⟩)), fx (.pointer (some ⟨B, 1, none⟩)), fx (.slice none 0 0), fx (.int .i64 0), fx (.pointer (some ⟨B, 0, none⟩)), fx (.pointer (some ⟨B, 0, none⟩)), fx (.pointer (some ⟨B, 0, none⟩)), fx (.int .i64 1), oneIntV 1, sliceV, fx (.pointer (some ⟨B, 0, none⟩)), fx (.pointer (some ⟨B, 1, none⟩))]
          (by kernel_rfl) (by kernel_rfl) (by decide) (by repeat (first | exact Stable.nil | refine Stable.fix ?_ | refine Stable.cons oneIntV_stable ?_ | refine Stable.cons sliceV_stable ?_)) ?_ ?_
        · refine ⟨?_, ?_, ?_, ?_, ?_, ?_, ?_, ?_, ?_, ?_, ?a10, ?a11, ?_, ?_, trivial⟩
          all_goals
            intro a wr hg hold
            have h0 : a.tmps[0]?.getD undef = .pointer (some ⟨B, 0, none⟩) := hold 0 rfl
            have h12 : a.tmps[12]?.getD undef = .int .i64 0 := hold 12 rfl
            clear hold
            have y0 := Gr.at hg b0
            have y1 := Gr.at hg b1
            clear b0 b1
            simp [predsImp, Region.binds, dstAt, fx]
            intros
            first
              | (rw [if_pos (by simp [*])]
                 intro K hK)
              | (rename_i K hK)
            go_simp
          case a10 =>
            exact hK _ _ ⟨_, rfl, (BlkT.new wr 3 #[.int .i64 1]).cell 0 rfl⟩ (by go_grown)
          case a11 =>
            have hq : oneIntV 1 (a.tmps[85]?.getD undef) wr := by assumption
            obtain ⟨g, e1, d0⟩ := hq
            rw [e1]
            refine (insert_calls g 1 wr d0).mono ?_
            rintro e w11 ⟨q, cq, rfl, hg2⟩
            exact hK _ _ ⟨q, 1, cq, rfl⟩ hg2
          all_goals exact hK _ _ rfl (Gr.rfl' _)
        · intro wd hg
          rintro _ rfl _ rfl _ rfl _ rfl _ rfl _ rfl _ rfl _ rfl _ rfl _ rfl v10 _ _ ⟨q, n, cq, rfl⟩ _ rfl _ rfl
          replace kw := kw.trans (Kp.of_gr hg)
          replace kr := kr.trans (Kp.of_gr hg)
          replace HM := Lib.hid (HM.out.gr hg)
          replace HT2 := Lib.hid (HT2.out.gr hg)
          replace HBl := Lib.hid (HBl.out.gr hg)
          replace HP := Lib.hid (HP.out.gr hg)
          have f1' := HBl.out.open_ 1
          have e1 := HBl.out.cell 1 (v := .slice none 0 0) rfl
          clear hg b0 b1
          simp only [finAll, Act.put, List.setIfInBounds_toArray, List.set_cons_succ, List.set_cons_zero, List.drop_succ_cons, List.drop_zero, List.take_zero]
          go_upto_region 11 with fail
          have hk2 : Kp (fun x => x = B) wd (wd.setCell ⟨B, 1, none⟩ (.slice q n cq)) := Kp.set rfl
          have hB2 := HBl.out.set 1 (.slice q n cq)
          simp only [List.setIfInBounds_toArray, List.set_cons_succ, List.set_cons_zero] at hB2
          generalize wd.setCell ⟨B, 1, none⟩ (.slice q n cq) = we at *
          replace kw := kw.trans (hk2.mono fun x hx => .inl hx)
          replace kr := kr.trans (hk2.mono fun x hx => .inl hx)
          replace HM := Lib.hid (HM.out.kp hk2 hn1)
          replace HT2 := Lib.hid (HT2.out.kp hk2 hn2)
          replace HP := Lib.hid (HP.out.kp hk2 (by omega))
          replace HBl := Lib.hid hB2
          clear hk2 hB2 f1' e1
          have b0 := HBl.out.cell 0 (v := .int .i64 1) rfl
          have b3 := HBl.out.cell 3 (v := .map (some M2)) rfl
          have p0 := HP.out.cell 0 (v := .string h.s) rfl
          have p1 := HP.out.cell 1 (v := .int .i64 h.l.length) rfl
          refine wp_region_rely_tail 9 [fx (.pointer (some ⟨B, 0, none⟩)), fx (.pointer (some ⟨B, 0, none⟩)), fx (.pointer (some ⟨B, 3, none⟩)), fx (.map (some M2)), fx (.pointer (some ⟨B, 0, none⟩)), fx (.pointer (some ⟨B, 0, none⟩)), fx (.pointer (some ⟨B, 0, none⟩)), fx (.int .i64 1), fx (.agg #[.string h.s, .int .i64 h.l.length])]
            (by kernel_rfl) (by kernel_rfl) (by decide) (by repeat (first | exact Stable.nil | refine Stable.fix ?_)) ?_ ?_
          · refine ⟨?_, ?_, ?_, ?_, ?_, ?_, ?_, ?_, ?_, trivial⟩
            all_goals
              intro a wr hg hold
              have h0 : a.tmps[0]?.getD undef = .pointer (some ⟨B, 0, none⟩) := hold 0 rfl
              have h10 : a.tmps[10]?.getD undef = .pointer (some ⟨p, 0, none⟩) := hold 10 rfl
              clear hold
              have y0 := Gr.at hg b0
              have y3 := Gr.at hg b3
              have x0 := Gr.at hg p0
              have x1 := Gr.at hg p1
              clear b0 b3 p0 p1
              simp [predsImp, Region.binds, dstAt, fx]
              intros
              first
                | (rw [if_pos (by simp [*])]
                   intro K hK)
                | (rename_i K hK)
              go_simp
            all_goals exact hK _ _ rfl (Gr.rfl' _)
          · intro wf hg
            rintro _ rfl _ rfl _ rfl _ rfl _ rfl _ rfl _ rfl _ rfl _ rfl
            replace kw := kw.trans (Kp.of_gr hg)
            replace kr := kr.trans (Kp.of_gr hg)
            replace HM := Lib.hid (HM.out.gr hg)
            replace HBl := Lib.hid (HBl.out.gr hg)
            obtain ⟨f2, hf3, hf4⟩ : ∃ f : Int → Option Value, f 1 = some (.agg #[.string h.s, .int .i64 h.l.length]) ∧ ∀ y, y ≠ 1 → f y = none := put_fun _ _
            obtain ⟨wg, hrun, HM2, hgb⟩ := GMap.update (HT2.out.gr hg) (int_keyed Tryz.underlying3) Tryz.underlying55 (x := (1 : Int)) Hkey1.out (fun y => kInt_inj) (.agg #[.string h.s, .int .i64 h.l.length]) hf3 hf4
            simp only [kInt] at hrun
            have hk3 : Kp (fun x => x = M2) wf wg := Kp.of_grownBy hgb rfl
            replace kw := kw.trans (hk3.mono fun x hx => .inr (.inr hx))
            replace kr := kr.trans (hk3.mono fun x hx => .inr (.inr hx))
            replace HM := Lib.hid (HM.out.kp hk3 hn3)
            replace HBl := Lib.hid (HBl.out.kp hk3 (Ne.symm hn2))
            replace HM2 := Lib.hid HM2
            clear hg hgb hk3 hf4 b0 b3 p0 p1
            have hK : ∀ x, w9.heap.size ≤ x → ¬ (x = B ∨ x = M1 ∨ x = M2) := fun x hx h => by omega
            have hone : Hid (OneBase wg B M1 M2 h.s h.l.length h.erase b.erase) := ⟨⟨_, HBl.out⟩, ⟨hv, f1, HM.out, hf1, h9, b9, row_le (ownsRow_kp Ho.out kr hK) (Nat.zero_le _),
              in_after' I1.out O1.out (fun x hx hlt o => World.cell?_of_block (kr.block x hlt (hK x hx))), in_after' I2.out O2.out (fun x hx hlt o => World.cell?_of_block (kr.block x hlt (hK x hx))), J1.out, J2.out⟩, ⟨f2, HM2.out, hf3⟩⟩
            have b0 := HBl.out.cell 0 (v := .int .i64 1) rfl
            simp only [finAll, Act.put, List.setIfInBounds_toArray, List.set_cons_succ, List.set_cons_zero, List.drop_succ_cons, List.drop_zero, List.take_zero]
            go_wp2_with fail
            exact hR.out _ hone.out kw
end Go.Proofs.YtjdoflfdlhpbmaaGreat

namespace Go.Proofs.YtjdoflfdlhpbmaaGreat
open Go.RowKit Go.Maps Go.Lib

end Go.Proofs.YtjdoflfdlhpbmaaGreat

namespace Go.Proofs.YtjdoflfdlhpbmaaGreat
open Go.RowKit Go.Maps Go.Lib

set_option maxRecDepth 100000 in
theorem lets_calls (t u : Tm) (w : World) (ht : t.l = []) : Calls Tryz.prog 57 #[t.val, u.val] w (Ret (.bool true) w) := by
  have hR : Hid (∀ w', Gr w w' → Ret (.bool true) w (.returned (.bool true)) w') := fun w' hg => ⟨rfl, hg⟩
  generalize hQ : Ret (.bool true) w = Q at hR ⊢
  clear hQ
  obtain ⟨k, n, s, p, c, l⟩ := t
  simp only [Tm.l] at ht
  subst ht
  simp only [Tm.val, Tm.k, Tm.n, Tm.s, Tm.p, Tm.c, Tm.l, List.length_nil]
  go_enter Tryz.func57, Tryz.ntmps57
  try simp only [List.append_eq, List.cons_append, List.nil_append]
  go_wp2_with fail
  exact hR.out _ (by go_grown)

/-- What a view is, with its one clause ahead. -/
structure OneView (w : World) (V g cap : Nat) (G h b : Tm) : Prop where
  blk : BlkT w V 110 #[.slice (some ⟨g, 0, none⟩) 1 cap, .int .i64 G.k, .int .i64 G.n, .string G.s, .slice G.p G.l.length G.c]
  row : ∀ j u, (heldCells 1 h b)[j]? = some u → w.cell? ⟨g, j, none⟩ = some u
  inh : h.In w
  inb : b.In w
  fh : h.erase.formed = true
  fb : b.erase.formed = true
  args : G.l = []
  apart : g ≠ V
  oh : h.On (· ≠ V)
  ob : b.On (· ≠ V)

/-- The clause, its id, and that it is there. -/
def RetFirst (V : Nat) (w : World) (e : Ending) (w' : World) : Prop := ∃ h b : Tm, e = .returned (.tuple #[.int .i64 1, clVal h b, .bool true]) ∧ (∃ q c g0 g1 g2 g3, BlkT w' V 110 #[.slice q 0 c, g0, g1, g2, g3]) ∧ Kp (fun x => x = V) w w'

set_option maxHeartbeats 8000000 in
set_option maxRecDepth 100000 in
theorem next_first (V g cap : Nat) (G h b : Tm) (w : World) (hV : OneView w V g cap G h b) (_ : 1 ≤ cap) : Calls Tryz.prog 31 #[.pointer (some ⟨V, 0, none⟩)] w (RetFirst V w) := by
  have hR : Hid (∀ (h b : Tm) (w' : World), (∃ q c g0 g1 g2 g3, BlkT w' V 110 #[.slice q 0 c, g0, g1, g2, g3]) → Kp (fun x => x = V) w w' → RetFirst V w (.returned (.tuple #[.int .i64 1, clVal h b, .bool true])) w') := fun h b w' h1 h2 => ⟨h, b, rfl, h1, h2⟩
  generalize hQ : RetFirst V w = Q at hR ⊢
  clear hQ
  obtain ⟨hbl, hrow, ih, ib, fh, fb, ha, hap, oh, ob⟩ := hV
  have HBl := Lib.hid hbl
  have HRow := Lib.hid hrow
  have IH := Lib.hid ih
  have IB := Lib.hid ib
  have FH := Lib.hid fh
  have FB := Lib.hid fb
  have HA := Lib.hid ha
  have OH := Lib.hid oh
  have OB := Lib.hid ob
  have hVl := hbl.lt
  clear hbl hrow ih ib fh fb ha oh ob
  go_enter Tryz.func31, Tryz.ntmps31
  try simp only [List.append_eq, List.cons_append, List.nil_append]
  go_upto_region 1 with fail
  have hN : Blk8 (w.alloc (.cells #[.int .i64 0, .int .i64 0, .string ⟨#[]⟩, .slice none 0 0, .int .i64 0, .int .i64 0, .string ⟨#[]⟩, .slice none 0 0] 29)) w.heap.size (.int .i64 0) (.int .i64 0) (.string ⟨#[]⟩) (.slice none 0 0) (.int .i64 0) (.int .i64 0) (.string ⟨#[]⟩) (.slice none 0 0) := heap_alloc_new _ _
  have gA : Gr w (w.alloc (.cells #[.int .i64 0, .int .i64 0, .string ⟨#[]⟩, .slice none 0 0, .int .i64 0, .int .i64 0, .string ⟨#[]⟩, .slice none 0 0] 29)) := by go_grown
  generalize w.alloc (.cells #[.int .i64 0, .int .i64 0, .string ⟨#[]⟩, .slice none 0 0, .int .i64 0, .int .i64 0, .string ⟨#[]⟩, .slice none 0 0] 29) = wA at *
  have HR := Lib.hid hN
  clear hN
  go_wp2_with fail
  go_loopg [4] 0 (fun _ x wr => x = .bool false ∧ wA = wr)
  case atStart => exact ⟨rfl, rfl⟩
  case round =>
    obtain ⟨rfl, rfl⟩ := hrel
    have v0 := (HBl.out.gr gA).cell 0 (v := .slice (some ⟨g, 0, none⟩) 1 cap) rfl
    have z0 := Gr.at gA (HRow.out 0 _ rfl)
    have z1 := Gr.at gA (HRow.out 1 _ rfl)
    have z2 := Gr.at gA (HRow.out 2 _ rfl)
    have z3 := Gr.at gA (HRow.out 3 _ rfl)
    have z4 := Gr.at gA (HRow.out 4 _ rfl)
    have z5 := Gr.at gA (HRow.out 5 _ rfl)
    have z6 := Gr.at gA (HRow.out 6 _ rfl)
    have z7 := Gr.at gA (HRow.out 7 _ rfl)
    have z8 := Gr.at gA (HRow.out 8 _ rfl)
    go_upto_region 3 with fail
    have hH := BlkT.new wA 73 #[.int .i64 1, .int .i64 h.k, .int .i64 h.n, .string h.s, .slice h.p h.l.length h.c, .int .i64 b.k, .int .i64 b.n, .string b.s, .slice b.p b.l.length b.c]
    have gB : Gr wA (wA.alloc (.cells #[.int .i64 1, .int .i64 h.k, .int .i64 h.n, .string h.s, .slice h.p h.l.length h.c, .int .i64 b.k, .int .i64 b.n, .string b.s, .slice b.p b.l.length b.c] 73)) := by go_grown
    generalize wA.alloc (.cells #[.int .i64 1, .int .i64 h.k, .int .i64 h.n, .string h.s, .slice h.p h.l.length h.c, .int .i64 b.k, .int .i64 b.n, .string b.s, .slice b.p b.l.length b.c] 73) = wB at *
    have hsr := HR.out.lt
    generalize wA.heap.size = H at *
    have gAB := gA.trans gB
    have HH := Lib.hid hH
    replace HR := Lib.hid (HR.out.gr gB)
    replace HBl := Lib.hid (HBl.out.gr gAB)
    clear hH gA gB v0 z0 z1 z2 z3 z4 z5 z6 z7 z8
    have v0 := HBl.out.cell 0 (v := .slice (some ⟨g, 0, none⟩) 1 cap) rfl
    have f0 := HBl.out.open_ 0
    go_upto_region 4 with fail
    generalize (if cap = 1 then some ⟨g, 0, none⟩ else some ⟨g, 9, none⟩ : Option Addr) = q
    have hk : Kp (fun x => x = V) wB (wB.setCell ⟨V, 0, none⟩ (.slice q 0 (cap - 1))) := Kp.set rfl
    have hB2 := HBl.out.set 0 (.slice q 0 (cap - 1))
    simp only [List.setIfInBounds_toArray, List.set_cons_zero] at hB2
    generalize wB.setCell ⟨V, 0, none⟩ (.slice q 0 (cap - 1)) = wC at *
    have kw : Kp (fun x => x = V) w wC := (Kp.of_gr gAB).trans hk
    have hVH : V < H := by omega
    replace HH := Lib.hid (HH.out.kp hk (by omega))
    replace HR := Lib.hid (HR.out.kp hk (by omega))
    replace HBl := Lib.hid hB2
    have IH2 := Lib.hid (in_after' (S := (· ≠ V)) IH.out OH.out (W := wC) fun x hx hlt o => World.cell?_of_block (kw.block x hlt hx))
    have IB2 := Lib.hid (in_after' (S := (· ≠ V)) IB.out OB.out (W := wC) fun x hx hlt o => World.cell?_of_block (kw.block x hlt hx))
    clear hk hB2 v0 f0 gAB
    have Hhv := Lib.hid (show h.val = .agg #[.int .i64 h.k, .int .i64 h.n, .string h.s, .slice h.p h.l.length h.c] from rfl)
    have Hgv := Lib.hid (show G.val = .agg #[.int .i64 G.k, .int .i64 G.n, .string G.s, .slice G.p G.l.length G.c] from rfl)
    have v1 := HBl.out.cell 1 (v := .int .i64 G.k) rfl
    have v2 := HBl.out.cell 2 (v := .int .i64 G.n) rfl
    have v3 := HBl.out.cell 3 (v := .string G.s) rfl
    have v4 := HBl.out.cell 4 (v := .slice G.p G.l.length G.c) rfl
    have z0 := HH.out.cell 0 rfl
    have z1 := HH.out.cell 1 rfl
    have z2 := HH.out.cell 2 rfl
    have z3 := HH.out.cell 3 rfl
    have z4 := HH.out.cell 4 rfl
    have z5 := HH.out.cell 5 rfl
    have z6 := HH.out.cell 6 rfl
    have z7 := HH.out.cell 7 rfl
    have z8 := HH.out.cell 8 rfl
    refine wp_region_rely [fx (.pointer (some ⟨V, 0, none⟩)), fx (.pointer (some ⟨V, 0, none⟩)), fx (.pointer (some ⟨V, 1, none⟩)), fx G.val, fx (.pointer (some ⟨H, 1, none⟩)), fx (.pointer (some ⟨H, 1, none⟩)), fx h.val, fx (.bool true)]
      (by kernel_rfl) (by kernel_rfl) (by repeat (first | exact Stable.nil | refine Stable.fix ?_)) ?_ ?_
    · refine ⟨?_, ?_, ?_, ?_, ?_, ?_, ?_, ?a7, trivial⟩
      all_goals
        intro a wr hg hold
        have h0 : a.tmps[0]?.getD undef = .pointer (some ⟨V, 0, none⟩) := hold 0 rfl
        have h5 : a.tmps[5]?.getD undef = .pointer (some ⟨H, 0, none⟩) := hold 5 rfl
        clear hold
        have y1 := Gr.at hg v1
        have y2 := Gr.at hg v2
        have y3 := Gr.at hg v3
        have y4 := Gr.at hg v4
        have x0 := Gr.at hg z0
        have x1 := Gr.at hg z1
        have x2 := Gr.at hg z2
        have x3 := Gr.at hg z3
        have x4 := Gr.at hg z4
        have x5 := Gr.at hg z5
        have x6 := Gr.at hg z6
        have x7 := Gr.at hg z7
        have x8 := Gr.at hg z8
        clear v1 v2 v3 v4 z0 z1 z2 z3 z4 z5 z6 z7 z8
        simp [predsImp, Region.binds, dstAt, fx]
        intros
        first
          | (rw [if_pos (by simp [*])]
             intro K hK)
          | (rename_i K hK)
        go_simp
      case a7 =>
        refine (lets_calls G h wr HA.out).mono ?_
        rintro e w10 ⟨rfl, hg2⟩
        exact hK _ _ rfl hg2
      all_goals exact hK _ _ rfl (Gr.rfl' _)
    · intro wd hg
      rintro _ rfl _ rfl _ rfl _ rfl _ rfl _ rfl _ rfl _ rfl
      replace kw := kw.trans (Kp.of_gr hg)
      replace HH := Lib.hid (HH.out.gr hg)
      replace HR := Lib.hid (HR.out.gr hg)
      replace HBl := Lib.hid (HBl.out.gr hg)
      replace IH2 := Lib.hid (Tm.In_below hg IH2.out)
      replace IB2 := Lib.hid (Tm.In_below hg IB2.out)
      clear hg v1 v2 v3 v4 z0 z1 z2 z3 z4 z5 z6 z7 z8
      simp only [finAll, Act.put, List.setIfInBounds_toArray, List.set_cons_succ, List.set_cons_zero]
      go_upto_region 5 with fail
      have z0 := HH.out.cell 0 rfl
      have z1 := HH.out.cell 1 rfl
      have z2 := HH.out.cell 2 rfl
      have z3 := HH.out.cell 3 rfl
      have z4 := HH.out.cell 4 rfl
      have z5 := HH.out.cell 5 rfl
      have z6 := HH.out.cell 6 rfl
      have z7 := HH.out.cell 7 rfl
      have z8 := HH.out.cell 8 rfl
      refine wp_region_rely_tail 5 [fx (.pointer (some ⟨H, 0, none⟩)), fx (.int .i64 1), fx (.pointer (some ⟨H, 1, none⟩)), fx (clVal h b), clNew (wd.heap.size ≤ ·) h.erase b.erase]
        (by kernel_rfl) (by kernel_rfl) (by decide) (by repeat (first | exact Stable.nil | refine Stable.fix ?_ | refine Stable.cons clNew_stable ?_)) ?_ ?_
      · refine ⟨?_, ?_, ?_, ?_, ?a4, trivial⟩
        all_goals
          intro a wr hg hold
          have h5 : a.tmps[5]?.getD undef = .pointer (some ⟨H, 0, none⟩) := hold 5 rfl
          clear hold
          have x0 := Gr.at hg z0
          have x1 := Gr.at hg z1
          have x2 := Gr.at hg z2
          have x3 := Gr.at hg z3
          have x4 := Gr.at hg z4
          have x5 := Gr.at hg z5
          have x6 := Gr.at hg z6
          have x7 := Gr.at hg z7
          have x8 := Gr.at hg z8
          clear z0 z1 z2 z3 z4 z5 z6 z7 z8
          simp [predsImp, Region.binds, dstAt, fx]
          intros
          first
            | (rw [if_pos (by simp [*])]
               intro K hK)
            | (rename_i K hK)
          go_simp
        case a4 =>
          refine (copied_calls h b wr (Tm.In_below hg IH2.out) (Tm.In_below hg IB2.out) FH.out FB.out).mono ?_
          rintro e w10 ⟨h2, b2, rfl, i1, i2, j1, j2, o1, o2, hg2⟩
          exact hK _ _ ⟨h2, b2, rfl, i1, i2, j1, j2, o1.mono fun x hx => Nat.le_trans hg.size hx, o2.mono fun x hx => Nat.le_trans hg.size hx⟩ hg2
        all_goals exact hK _ _ rfl (Gr.rfl' _)
      · intro we hg
        rintro _ rfl _ rfl _ rfl _ rfl _ ⟨h2, b2, rfl, _⟩
        replace kw := kw.trans (Kp.of_gr hg)
        replace HR := Lib.hid (HR.out.gr hg)
        replace HBl := Lib.hid (HBl.out.gr hg)
        clear hg z0 z1 z2 z3 z4 z5 z6 z7 z8
        obtain ⟨y0, y1, y2, y3, y4, y5, y6, y7⟩ := HR.out.cells
        obtain ⟨f0, f1, f2, f3, f4, f5, f6, f7⟩ := HR.out.open_
        simp only [finAll, Act.put, List.setIfInBounds_toArray, List.set_cons_succ, List.set_cons_zero, clVal_four, List.drop_succ_cons, List.drop_zero, List.take_zero]
        go_wp2_with fail
        have hfin : Hid (∀ W, Kp (fun x => x = w.heap.size) we W → Q (.returned (.tuple #[.int .i64 1, clVal h2 b2, .bool true])) W) := fun W hK =>
          hR.out h2 b2 W ⟨q, _, _, _, _, _, HBl.out.kp hK (by omega)⟩ (Kp.weaken (fun x hx h => by rcases h with h | h; exact h; omega) ((kw.mono (C' := fun x => x = V ∨ x = w.heap.size) fun x hx => .inl hx).trans (hK.mono fun x hx => .inr hx)))
        refine bodyPost_ret (v := .tuple #[.int .i64 1, clVal h2 b2, .bool true]) (by simp (maxDischargeDepth := 9) [results, Tryz.results31, go_sem, clVal, y0, y1, y2, y3, y4, y5, y6, y7]) rfl ?_
        exact hfin.out _ ((Kp.set4 (C := fun x => x = w.heap.size) rfl).trans (Kp.set4 (C := fun x => x = w.heap.size) rfl))

set_option maxHeartbeats 2000000 in
set_option maxRecDepth 100000 in
theorem next_end (V : Nat) (q : Option Addr) (c : Nat) (g0 g1 g2 g3 : Value) (w : World) (hB : BlkT w V 110 #[.slice q 0 c, g0, g1, g2, g3]) :
    Calls Tryz.prog 31 #[.pointer (some ⟨V, 0, none⟩)] w fun e w' => e = .returned (.tuple #[.int .i64 0, clVal zeroTm zeroTm, .bool false]) ∧ Gr w w' := by
  have hR : Hid (∀ (w' : World), Gr w w' → (fun (e : Ending) (w' : World) => e = .returned (.tuple #[.int .i64 0, clVal zeroTm zeroTm, .bool false]) ∧ Gr w w') (.returned (.tuple #[.int .i64 0, clVal zeroTm zeroTm, .bool false])) w') := fun w' h => ⟨rfl, h⟩
  generalize hQ : (fun (e : Ending) (w' : World) => e = .returned (.tuple #[.int .i64 0, clVal zeroTm zeroTm, .bool false]) ∧ Gr w w') = Q at hR ⊢
  clear hQ
  have HBl := Lib.hid hB
  clear hB
  go_enter Tryz.func31, Tryz.ntmps31
  try simp only [List.append_eq, List.cons_append, List.nil_append]
  go_upto_region 1 with fail
  have hN : Blk8 (w.alloc (.cells #[.int .i64 0, .int .i64 0, .string ⟨#[]⟩, .slice none 0 0, .int .i64 0, .int .i64 0, .string ⟨#[]⟩, .slice none 0 0] 29)) w.heap.size (.int .i64 0) (.int .i64 0) (.string ⟨#[]⟩) (.slice none 0 0) (.int .i64 0) (.int .i64 0) (.string ⟨#[]⟩) (.slice none 0 0) := heap_alloc_new _ _
  have gA : Gr w (w.alloc (.cells #[.int .i64 0, .int .i64 0, .string ⟨#[]⟩, .slice none 0 0, .int .i64 0, .int .i64 0, .string ⟨#[]⟩, .slice none 0 0] 29)) := by go_grown
  generalize w.alloc (.cells #[.int .i64 0, .int .i64 0, .string ⟨#[]⟩, .slice none 0 0, .int .i64 0, .int .i64 0, .string ⟨#[]⟩, .slice none 0 0] 29) = wA at *
  have HR := Lib.hid hN
  clear hN
  have v0 := (HBl.out.gr gA).cell 0 (v := .slice q 0 c) rfl
  obtain ⟨y0, y1, y2, y3, y4, y5, y6, y7⟩ := HR.out.cells
  obtain ⟨f0, f1, f2, f3, f4, f5, f6, f7⟩ := HR.out.open_
  go_wp2_with fail
  go_loopg [4] 0 (fun _ x wr => x = .bool false ∧ wA = wr)
  case atStart => exact ⟨rfl, rfl⟩
  case round =>
    obtain ⟨rfl, rfl⟩ := hrel
    go_wp2_with fail
    refine bodyPost_ret (v := .tuple #[.int .i64 0, clVal zeroTm zeroTm, .bool false]) (by simp (maxDischargeDepth := 9) [results, Tryz.results31, go_sem, clVal, zeroTm, Tm.k, Tm.n, Tm.s, Tm.p, Tm.c, Tm.l, y0, y1, y2, y3, y4, y5, y6, y7]) rfl ?_
    exact hR.out _ (by go_grown)
end Go.Proofs.YtjdoflfdlhpbmaaGreat
