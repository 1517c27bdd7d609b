/-
  (*base.Base).Add in general: the walk.
-/
import Derived.Test.YtjdoflfdlhpbmaaGreatBF15
namespace Go.Proofs.YtjdoflfdlhpbmaaGreat
open Go.RowKit Go.Maps Go.Lib

theorem erase_l (t : Tm) : t.erase.l = Tm.eraseL t.l := by obtain ⟨k, n, s, p, c, l⟩ := t; rw [Tm.erase]; rfl

set_option maxHeartbeats 8000000 in
set_option maxRecDepth 100000 in
theorem add_gen (S : Nat → Prop) (B M1 M2 : Nat) (va : Value) (st : BSt) (h b : Tm) (first : Bool) (w : World) (hB : BaseG S w B M1 M2 va st) (hh : h.In w) (hb : b.In w) (oh : h.On (· ≠ B)) (ob : b.On (· ≠ B)) (hS : ∀ x, S x → x < w.heap.size)
    (hp : plainErr reserved h.erase b.erase = 0) (fh : h.erase.formed = true) (fb : b.erase.formed = true) (hs : h.s.size ≤ 1000) (hl : h.l.length ≤ 1000) (h0 : 0 ≤ st.last) (hlast : st.last ≤ 4194304) :
    Calls Tryz.prog 7 #[.pointer (some ⟨B, 0, none⟩), clVal h b, .bool first] w (RetAddG S B M1 M2 va st (h.s, (h.l.length : Int)) first h.erase b.erase w) := by
  obtain ⟨st', hadd⟩ := Added.exists st (h.s, (h.l.length : Int)) first h.erase b.erase
  have Hadd := Lib.hid hadd
  clear hadd
  obtain ⟨qv, cv, rfl, hcv⟩ := row_form hB.all
  have Hh := Lib.hid hh
  have Hb := Lib.hid hb
  have Oh := Lib.hid oh
  have Ob := Lib.hid ob
  have HS := Lib.hid hS
  have Fh := Lib.hid fh
  have Fb := Lib.hid fb
  have HNB := Lib.hid hB
  have hBl := hB.blk.lt
  have hM2l := hB.m2.lt
  have hn1 := hB.n1
  have hn2 := hB.n2
  have hn3 := hB.n3
  have hna := Lib.hid hB.na
  obtain ⟨g1, hg1, hrow⟩ := hB.m1
  have hM1l := hg1.lt
  have HG1 := Lib.hid hg1
  have HRow := Lib.hid hrow
  obtain ⟨p, c, M, hgv, hM, hMe⟩ := (hrow (h.s, (h.l.length : Int))).get
  have HGv := Lib.hid hgv
  have HM := Lib.hid hM
  have HMe := Lib.hid hMe
  have hMlast : (M.length : Int) ≤ st.last := by
    have h1 : M.length = ((st.pr (h.s, (h.l.length : Int))).getD []).length := by rw [← hMe, List.length_map]
    rw [h1]
    cases hx : st.pr (h.s, (h.l.length : Int)) with
    | none => exact h0
    | some L => exact hB.bdp _ _ hx
  have hAlast := hB.bda
  have hMc := hM.len
  have Hkey := Lib.hid (keyOf_bpred (s := h.s) (n := (h.l.length : Int)) (by simp only [maxLen]; omega) (wf_64 ⟨by omega, by omega⟩))
  have Hkey1 := Lib.hid (keyOf_int_mk Tryz.underlying3 (wf_64 (c := st.last + 1) ⟨by omega, by omega⟩))
  have hpa := Lib.hid (plainAns_ok hp)
  have hl64 : IntKind.i64.wrap (h.l.length : Int) = h.l.length := IntWalk.i64_in _ (by omega)
  have hla : IntKind.i64.wrap (st.last + 1) = st.last + 1 := IntWalk.i64_in _ (by omega)
  have hR : Hid (∀ (va' : Value) (w' : World), BaseG (fun x => S x ∨ (w.heap.size ≤ x ∧ va'.ownBlock ≠ some x)) w' B M1 M2 va' st' → Kp (Mut B M1 M2 (.slice qv st.all.length cv)) w w' → (va'.ownBlock = (.slice qv st.all.length cv : Value).ownBlock ∨ ∃ g, va'.ownBlock = some g ∧ w.heap.size ≤ g) → RetAddG S B M1 M2 (.slice qv st.all.length cv) st (h.s, (h.l.length : Int)) first h.erase b.erase w (.returned (.tuple #[.int .i64 (st.last + 1), .int .i64 0])) w') := fun va' w' h1 h2 h3 => ⟨va', st', Hadd.out, rfl, h1, h2, h3⟩
  generalize hQ : RetAddG S B M1 M2 (.slice qv st.all.length cv) st (h.s, (h.l.length : Int)) first h.erase b.erase w = Q at hR ⊢
  clear hQ hh hb fh fb hp oh ob hS hrow hgv hM hMe hg1 hB
  have Hcv := Lib.hid (clVal_eq h b)
  have Hhv := Lib.hid (show h.val = .agg #[.int .i64 h.k, .int .i64 h.n, .string h.s, .slice h.p h.l.length h.c] from rfl)
  rw [clVal_eq]
  go_enter Tryz.func7, Tryz.ntmps7
  try simp only [List.append_eq, List.cons_append, List.nil_append]
  go_upto_region 1 with fail
  have hN : Blk8 (w.alloc (.cells #[.int .i64 h.k, .int .i64 h.n, .string h.s, .slice h.p h.l.length h.c, .int .i64 b.k, .int .i64 b.n, .string b.s, .slice b.p b.l.length b.c] 29)) w.heap.size (.int .i64 h.k) (.int .i64 h.n) (.string h.s) (.slice h.p h.l.length h.c) (.int .i64 b.k) (.int .i64 b.n) (.string b.s) (.slice b.p b.l.length b.c) := heap_alloc_new _ _
  have gw : Gr w (w.alloc (.cells #[.int .i64 h.k, .int .i64 h.n, .string h.s, .slice h.p h.l.length h.c, .int .i64 b.k, .int .i64 b.n, .string b.s, .slice b.p b.l.length b.c] 29)) := by go_grown
  generalize w.alloc (.cells #[.int .i64 h.k, .int .i64 h.n, .string h.s, .slice h.p h.l.length h.c, .int .i64 b.k, .int .i64 b.n, .string b.s, .slice b.p b.l.length b.c] 29) = wA at *
  have HC := Lib.hid hN
  clear hN
  obtain ⟨c0, c1, c2, c3, c4, c5, c6, c7⟩ := HC.out.cells
  go_upto_region 2 with (first
    | (go_at_call 25; rewrite [← Hcv.out]; refine (Plain_calls h b _ (Tm.In_below gw Hh.out) (Tm.In_below gw Hb.out)).mono ?_; rw [hpa.out]; rintro e w1 ⟨p1, rfl, hi, he, hb⟩; replace HC := Lib.hid (HC.out.gr hb); replace gw := gw.trans hb; have Vp1 := Lib.hid (show p1.val = .agg #[.int .i64 p1.k, .int .i64 p1.n, .string p1.s, .slice p1.p p1.l.length p1.c] from rfl); rewrite [Vp1.out]; clear hi he hb c0 c1 c2 c3 c4 c5 c6 c7)
    | fail)
  have gB : Gr w1 (w1.alloc (.cells #[.int .i64 p1.k, .int .i64 p1.n, .string p1.s, .slice p1.p p1.l.length p1.c] 24)) := by go_grown
  generalize w1.alloc (.cells #[.int .i64 p1.k, .int .i64 p1.n, .string p1.s, .slice p1.p p1.l.length p1.c] 24) = w2 at *
  replace HC := Lib.hid (HC.out.gr gB)
  replace gw := gw.trans gB
  clear gB
  have hsz := gw.size
  have HBl := Lib.hid (HNB.out.blk.gr gw)
  have b0 := HBl.out.cell 0 (v := .int .i64 st.last) rfl
  have f0 := HBl.out.open_ 0
  go_upto_region 5 with fail
  have hK : Kp (fun x => x = B) w2 (w2.setCell ⟨B, 0, none⟩ (.int .i64 (st.last + 1))) := Kp.set rfl
  have hB2 := HBl.out.set 0 (.int .i64 (st.last + 1))
  simp only [List.setIfInBounds_toArray, List.set_cons_zero] at hB2
  generalize w2.setCell ⟨B, 0, none⟩ (.int .i64 (st.last + 1)) = w3 at *
  have kB : Kp (fun x => x = B) w w3 := (Kp.of_gr gw).trans hK
  have kw : Kp (Mut B M1 M2 (.slice qv st.all.length cv)) w w3 := kB.mono fun x hx => .inl hx
  have HT1 := Lib.hid ((HG1.out.gr gw).kp hK hn1)
  have HT2 := Lib.hid ((HNB.out.m2.gr gw).kp hK hn2)
  have Hall := Lib.hid (ownsRow_kpv HNB.out.all kB (fun x hx e => hna.out.1 (by rw [hx, e])))
  replace Hh := Lib.hid (in_after' Hh.out Oh.out (W := w3) fun x hx hlt o => World.cell?_of_block (kB.block x hlt hx))
  replace Hb := Lib.hid (in_after' Hb.out Ob.out (W := w3) fun x hx hlt o => World.cell?_of_block (kB.block x hlt hx))
  replace HBl := Lib.hid hB2
  have hCl := HC.out.lt
  replace HC := Lib.hid (HC.out.kp hK (by have := HNB.out.blk.lt; omega))
  clear hK hB2 b0 f0 kB
  obtain ⟨c0, c1, c2, c3, c4, c5, c6, c7⟩ := HC.out.cells
  go_upto_region 6 with (first
    | (go_at_call 26; rewrite [← Hhv.out]; refine (of_calls h _).mono ?_; rintro e w4 ⟨rfl, hb⟩; have g34 : Gr w3 w4 := hb; clear hb c0 c1 c2 c3 c4 c5 c6 c7)
    | fail)
  have hP : BlkT (w4.alloc (.cells #[.string h.s, .int .i64 h.l.length] 68)) w4.heap.size 68 #[.string h.s, .int .i64 h.l.length] := BlkT.new _ _ _
  have g45 : Gr w4 (w4.alloc (.cells #[.string h.s, .int .i64 h.l.length] 68)) := by go_grown
  have hp0 : w.heap.size + 1 ≤ w4.heap.size := by have := HC.out.lt; have := g34.size; omega
  generalize w4.alloc (.cells #[.string h.s, .int .i64 h.l.length] 68) = w5 at *
  generalize w4.heap.size = pp at *
  have g35 : Gr w3 w5 := Gr.trans g34 g45
  replace kw := kw.trans (Kp.of_gr g35)
  replace HT1 := Lib.hid (HT1.out.gr g35)
  replace HT2 := Lib.hid (HT2.out.gr g35)
  replace HBl := Lib.hid (HBl.out.gr g35)
  replace HC := Lib.hid (HC.out.gr g35)
  replace Hall := Lib.hid (ownsRow_gr Hall.out g35)
  replace Hh := Lib.hid (Tm.In_below g35 Hh.out)
  replace Hb := Lib.hid (Tm.In_below g35 Hb.out)
  have HP := Lib.hid hP
  clear hP g34 g45 g35
  obtain ⟨c0, c1, c2, c3, c4, c5, c6, c7⟩ := HC.out.cells
  have b0 := HBl.out.cell 0 (v := .int .i64 (st.last + 1)) rfl
  have b1 := HBl.out.cell 1 (v := .slice qv st.all.length cv) rfl
  have b2 := HBl.out.cell 2 (v := .map (some M1)) rfl
  have b3 := HBl.out.cell 3 (v := .map (some M2)) rfl
  have p0 := HP.out.cell 0 (v := .string h.s) rfl
  have p1' := HP.out.cell 1 (v := .int .i64 h.l.length) rfl
  refine wp_region_rely [fx (.pointer (some ⟨B, 0, none⟩)), fx (.pointer (some ⟨B, 0, none⟩)), fx (.pointer (some ⟨B, 2, none⟩)), fx (.map (some M1)), fx (.agg #[.string h.s, .int .i64 h.l.length]), fx (.slice p M.length c), fx (.int .i64 M.length), fx (.pointer (some ⟨B, 0, none⟩)), fx (.pointer (some ⟨B, 0, none⟩)), fx (.pointer (some ⟨B, 1, none⟩)), fx (.slice qv st.all.length cv), fx (.int .i64 st.all.length), fx (.int .i64 M.length), fx (.int .i64 st.all.length)]
    (by kernel_rfl) (by kernel_rfl) (by repeat (first | exact Stable.nil | refine Stable.fix ?_)) ?_ ?_
  · refine ⟨?_, ?_, ?_, ?_, ?_, ?_, ?_, ?_, ?_, ?_, ?_, ?_, ?_, ?_, trivial⟩
    all_goals
      intro a wr hg hold
      have h0 : a.tmps[0]?.getD undef = .pointer (some ⟨B, 0, none⟩) := hold 0 rfl
      have h10 : a.tmps[10]?.getD undef = .pointer (some ⟨pp, 0, none⟩) := hold 10 rfl
      clear hold
      have z1 := Gr.at hg b1
      have z2 := Gr.at hg b2
      have z4 := Gr.at hg p0
      have z5 := Gr.at hg p1'
      have hlk := (GMap.run (HT1.out.gr hg) bpred_keyed Tryz.underlying54 (zero_held wr) (x := (h.s, (h.l.length : Int))) Hkey.out).1
      rw [HGv.out] at hlk
      simp only [kPred] at hlk
      clear c0 c1 c2 c3 c4 c5 c6 c7 b0 b1 b2 b3 p0 p1'
      simp [predsImp, Region.binds, dstAt, fx]
      intros
      first
        | (rw [if_pos (by simp [*])]
           intro K hK)
        | (rename_i K hK)
      go_simp
    all_goals exact hK _ _ rfl (Gr.rfl' _)
  · intro w9 hg
    rintro _ rfl _ rfl _ rfl _ rfl _ rfl _ rfl _ rfl _ rfl _ rfl _ rfl _ rfl _ rfl _ rfl _ rfl
    replace kw := kw.trans (Kp.of_gr hg)
    replace HT1 := Lib.hid (HT1.out.gr hg)
    replace HT2 := Lib.hid (HT2.out.gr hg)
    replace HBl := Lib.hid (HBl.out.gr hg)
    replace HC := Lib.hid (HC.out.gr hg)
    replace HP := Lib.hid (HP.out.gr hg)
    replace Hall := Lib.hid (ownsRow_gr Hall.out hg)
    replace Hh := Lib.hid (Tm.In_below hg Hh.out)
    replace Hb := Lib.hid (Tm.In_below hg Hb.out)
    clear hg c0 c1 c2 c3 c4 c5 c6 c7 b0 b1 b2 b3 p0 p1'
    simp only [finAll, Act.put, List.setIfInBounds_toArray, List.set_cons_succ, List.set_cons_zero]
    cases first
    · go_upto_region 9 with fail
      have gks := kw.size
      have HMr := Lib.hid (HM.out.kp kw HNB.out.sep)
      obtain ⟨c0, c1, c2, c3, c4, c5, c6, c7⟩ := HC.out.cells
      have b0 := HBl.out.cell 0 (v := .int .i64 (st.last + 1)) rfl
      have b2 := HBl.out.cell 2 (v := .map (some M1)) rfl
      have p0 := HP.out.cell 0 (v := .string h.s) rfl
      have p1' := HP.out.cell 1 (v := .int .i64 h.l.length) rfl
      refine wp_region_rely_tail 31 [fx (.pointer (some ⟨B, 0, none⟩)), fx (.pointer (some ⟨B, 0, none⟩)), fx (.pointer (some ⟨B, 2, none⟩)), fx (.map (some M1)), fx (.agg #[.string h.s, .int .i64 h.l.length]), fx (.pointer (some ⟨B, 0, none⟩)), fx (.pointer (some ⟨B, 0, none⟩)), fx (.pointer (some ⟨B, 2, none⟩)), fx (.map (some M1)), fx (.agg #[.string h.s, .int .i64 h.l.length]), fx (.slice p M.length c), fx (.int .i64 M.length), fx (.slice p M.length c), fx (.pointer (some ⟨B, 0, none⟩)), fx (.pointer (some ⟨B, 0, none⟩)), fx (.pointer (some ⟨B, 0, none⟩)), fx (.int .i64 (st.last + 1)), fx (clVal h b), clNew (w9.heap.size ≤ ·) h.erase b.erase, hdV (w9.heap.size ≤ ·) ⟨st.last + 1, h.erase, b.erase⟩, hdRowV (w9.heap.size ≤ ·) ⟨st.last + 1, h.erase, b.erase⟩, fx (.pointer (some ⟨B, 0, none⟩)), fx (.pointer (some ⟨B, 0, none⟩)), fx (.pointer (some ⟨B, 2, none⟩)), fx (.map (some M1)), fx (.agg #[.string h.s, .int .i64 h.l.length]), fx (.slice p M.length c), fx (.int .i64 M.length), emptyV, hdThreeV (· = .slice p M.length c) emptyP (w9.heap.size ≤ ·) ⟨st.last + 1, h.erase, b.erase⟩, hdOwnV w9.heap.size (fun x => M ++ [x]) (w9.heap.size ≤ ·) ⟨st.last + 1, h.erase, b.erase⟩]
        (by kernel_rfl) (by kernel_rfl) (by decide) (by repeat (first | exact Stable.nil | refine Stable.fix ?_ | refine Stable.cons clNew_stable ?_ | refine Stable.cons hdV_stable ?_ | refine Stable.cons hdRowV_stable ?_ | refine Stable.cons emptyV_stable ?_ | refine Stable.cons hdThreeV_stable ?_ | refine Stable.cons hdOwnV_stable ?_)) ?_ ?_
      · refine ⟨?_, ?_, ?_, ?_, ?_, ?_, ?_, ?_, ?_, ?_, ?_, ?_, ?_, ?_, ?_, ?_, ?_, ?_, ?a18, ?a19, ?a20, ?_, ?_, ?_, ?_, ?_, ?_, ?_, ?a28, ?a29, ?a30, trivial⟩
        all_goals
          intro a wr hg hold
          have h0 : a.tmps[0]?.getD undef = .pointer (some ⟨B, 0, none⟩) := hold 0 rfl
          have h10 : a.tmps[10]?.getD undef = .pointer (some ⟨pp, 0, none⟩) := hold 10 rfl
          have h4 : a.tmps[4]?.getD undef = .pointer (some ⟨w.heap.size, 0, none⟩) := hold 4 rfl
          have h11 : a.tmps[11]?.getD undef = .int .i64 M.length := hold 11 rfl
          clear hold
          have z0 := Gr.at hg c0
          have z1 := Gr.at hg c1
          have z2 := Gr.at hg c2
          have z3 := Gr.at hg c3
          have z4 := Gr.at hg c4
          have z5 := Gr.at hg c5
          have z6 := Gr.at hg c6
          have z7 := Gr.at hg c7
          have y0 := Gr.at hg b0
          have y2 := Gr.at hg b2
          have x0 := Gr.at hg p0
          have x1 := Gr.at hg p1'
          have hlk := (GMap.run (HT1.out.gr hg) bpred_keyed Tryz.underlying54 (zero_held wr) (x := (h.s, (h.l.length : Int))) Hkey.out).1
          rw [HGv.out] at hlk
          simp only [kPred] at hlk
          have Hhr := Lib.hid (Tm.In_below hg Hh.out)
          have Hbr := Lib.hid (Tm.In_below hg Hb.out)
          clear c0 c1 c2 c3 c4 c5 c6 c7 b0 b2 p0 p1'
          simp [predsImp, Region.binds, dstAt, fx]
          intros
          first
            | (rw [if_pos (by simp [*])]
               intro K hK)
            | (rename_i K hK)
          go_simp
        case a18 =>
          refine (copied_calls h b wr Hhr.out Hbr.out Fh.out Fb.out).mono ?_
          rintro e w10 ⟨h2, b2, rfl, i1, i2, j1, j2, o1, o2, hg2⟩
          exact hK _ _ ⟨h2, b2, rfl, i1, i2, j1, j2, o1.mono fun x hx => Nat.le_trans hg.size hx, o2.mono fun x hx => Nat.le_trans hg.size hx⟩ hg2
        case a19 =>
          have hq : clNew (w9.heap.size ≤ ·) h.erase b.erase (a.tmps[62]?.getD undef) wr := by assumption
          obtain ⟨h2, b2, e1, i1, i2, j1, j2, o1, o2⟩ := hq
          rw [e1]
          simp only [clVal]
          go_simp
          exact hK _ _ ⟨⟨st.last + 1, h2, b2⟩, rfl, by rw [Hd.er, j1, j2], i1, i2, o1, o2⟩ (Gr.rfl' _)
        case a20 =>
          have hq : hdV (w9.heap.size ≤ ·) ⟨st.last + 1, h.erase, b.erase⟩ (a.tmps[63]?.getD undef) wr := by assumption
          obtain ⟨x, e1, hx⟩ := hq
          rw [e1]
          simp only [Hd.cells, heldCells]
          go_simp
          have hn := BlkT.new wr 73 x.cells.toArray
          have hgn : Gr wr (wr.alloc (.cells x.cells.toArray 73)) := by go_grown
          exact hK _ _ ⟨x, _, rfl, fun j u hu => hn.cell j (by simpa using hu), hx.gr hgn⟩ hgn
        case a28 =>
          refine hK _ _ ?_ (Gr.rfl' _)
          simp [emptyV, emptyP]
        case a29 =>
          have hq : hdRowV (w9.heap.size ≤ ·) ⟨st.last + 1, h.erase, b.erase⟩ (a.tmps[64]?.getD undef) wr := by assumption
          obtain ⟨x, g, e1, hc, hx⟩ := hq
          rw [e1]
          have hqe : emptyV (a.tmps[72]?.getD undef) wr := by assumption
          obtain ⟨q9, c9, e9⟩ := hqe
          rw [e9]
          go_simp
          have hn := BlkT.new wr 70 #[.slice p M.length c, .slice (some ⟨g, 0, none⟩) 1 1, .slice q9 0 c9]
          have hgn : Gr wr (wr.alloc (.cells #[.slice p M.length c, .slice (some ⟨g, 0, none⟩) 1 1, .slice q9 0 c9] 70)) := by go_grown
          exact hK _ _ ⟨x, g, _, _, _, rfl, rfl, ⟨q9, c9, rfl⟩, hn.cell 0 rfl, hn.cell 1 rfl, hn.cell 2 rfl, fun j u hu => Gr.at hgn (hc j u hu), hx.gr hgn⟩ hgn
        case a30 =>
          have hq : hdThreeV (· = .slice p M.length c) emptyP (w9.heap.size ≤ ·) ⟨st.last + 1, h.erase, b.erase⟩ (a.tmps[73]?.getD undef) wr := by assumption
          obtain ⟨x, g, a0, u1, u2, e1, r1, r2, d0, d1, d2, hc, hx⟩ := hq
          rw [e1]
          subst r1
          obtain ⟨q9, c9, rfl⟩ := r2
          have hrs : ∀ r ∈ ([⟨p, M.length, c, M.flatMap Hd.cells⟩, ⟨some ⟨g, 0, none⟩, 1, 1, x.cells⟩, ⟨q9, 0, c9, []⟩] : List Rw), r.In 9 wr := by
            intro r hr
            simp only [List.mem_cons, List.mem_nil_iff, or_false] at hr
            rcases hr with rfl | rfl | rfl
            · exact (HMr.out.gr hg).rw
            · exact ⟨rfl, heldCells_one _ _ _, .inr ⟨g, 0, rfl, fun j u hu => by rw [Nat.zero_add]; exact hc j u hu⟩⟩
            · exact ⟨rfl, fun u hu => (by cases hu), .inl rfl⟩
          have hcs : ∀ i r, ([⟨p, M.length, c, M.flatMap Hd.cells⟩, ⟨some ⟨g, 0, none⟩, 1, 1, x.cells⟩, ⟨q9, 0, c9, []⟩] : List Rw)[i]? = some r → wr.cell? ⟨a0, i, none⟩ = some (.slice r.p r.n r.c) := by
            intro i r hr
            match i, hr with
            | 0, hr => cases hr; exact d0
            | 1, hr => cases hr; exact d1
            | 2, hr => cases hr; exact d2
          refine (concatH_calls a0 _ wr hrs hcs (by simp [sumN]; omega) (by simp)).mono ?_
          rintro e w10 ⟨v, rfl, ho, hg2⟩
          refine hK _ _ ⟨x, ?_, hx.gr hg2⟩ hg2
          have ho2 := row_le ho hg.size
          simpa [sumN, List.flatMap_append, List.flatMap_cons, Nat.add_comm] using ho2
        all_goals exact hK _ _ rfl (Gr.rfl' _)
      · intro wc hg
        rintro _ rfl _ rfl _ rfl _ rfl _ rfl _ rfl _ rfl _ rfl _ rfl _ rfl _ rfl _ rfl _ rfl _ rfl _ rfl _ rfl _ rfl _ rfl v18 _ v19 _ v20 _ _ rfl _ rfl _ rfl _ rfl _ rfl _ rfl _ rfl v28 _ v29 _ hv ⟨x, ho, hx⟩
        replace kw := kw.trans (Kp.of_gr hg)
        replace HT1 := Lib.hid (HT1.out.gr hg)
        replace HT2 := Lib.hid (HT2.out.gr hg)
        replace HBl := Lib.hid (HBl.out.gr hg)
        replace HC := Lib.hid (HC.out.gr hg)
        replace HP := Lib.hid (HP.out.gr hg)
        replace Hall := Lib.hid (ownsRow_gr Hall.out hg)
        replace Hh := Lib.hid (Tm.In_below hg Hh.out)
        replace Hb := Lib.hid (Tm.In_below hg Hb.out)
        have HMc := Lib.hid (HMr.out.gr hg)
        have Ho := Lib.hid ho
        have Hx := Lib.hid hx
        have hgs := hg.size
        have HXe := Lib.hid hx.1
        obtain ⟨pL, cL, hvp, hL⟩ : ∃ p c, hv = .slice p ((fun x => M ++ [x]) x).length c ∧ HSl (fun y => S y ∨ (w9.heap.size ≤ y ∧ y < wc.heap.size)) wc p c ((fun x => M ++ [x]) x) := by
          refine HSl.of_own ho (fun g h1 h2 => .inr ⟨h1, h2⟩) (by simp; omega) fun y hy => ?_
          have hx9 : ((⟨st.last + 1, h.erase, b.erase⟩ : HdT)).h = h.erase ∧ ((⟨st.last + 1, h.erase, b.erase⟩ : HdT)).b = b.erase := ⟨rfl, rfl⟩
          have hxx : x.h.In wc ∧ x.b.In wc ∧ x.h.erase.formed = true ∧ x.b.erase.formed = true ∧ x.h.On (fun y => S y ∨ (w9.heap.size ≤ y ∧ y < wc.heap.size)) ∧ x.b.On (fun y => S y ∨ (w9.heap.size ≤ y ∧ y < wc.heap.size)) := by
            obtain ⟨e1, i1, i2, o1, o2⟩ := hx
            have e2 : x.h.erase = h.erase := congrArg HdT.h e1
            have e3 : x.b.erase = b.erase := congrArg HdT.b e1
            exact ⟨i1, i2, by rw [e2]; exact Fh.out, by rw [e3]; exact Fb.out, (Tm.On.and o1 i1.on).mono fun _ h => .inr h, (Tm.On.and o2 i2.on).mono fun _ h => .inr h⟩
          have hMM : ∀ y ∈ M, y.h.In wc ∧ y.b.In wc ∧ y.h.erase.formed = true ∧ y.b.erase.formed = true ∧ y.h.On (fun y => S y ∨ (w9.heap.size ≤ y ∧ y < wc.heap.size)) ∧ y.b.On (fun y => S y ∨ (w9.heap.size ≤ y ∧ y < wc.heap.size)) := fun y hy => by
            obtain ⟨a1, a2, a3, a4, a5, a6⟩ := HMc.out.els y hy
            exact ⟨a1, a2, a3, a4, a5.mono fun _ h => .inl h, a6.mono fun _ h => .inl h⟩
          rcases List.mem_append.1 hy with hy | hy
          · exact hMM y hy
          · rw [List.mem_singleton] at hy; subst hy; exact hxx
        have Hvp := Lib.hid hvp
        clear hvp
        have HL := Lib.hid hL
        clear ho hx hL
        obtain ⟨f1, hf1, hf2⟩ := put_over (h.s, (h.l.length : Int)) hv g1
        obtain ⟨w10, hrun, HM1, hgb⟩ := GMap.update HT1.out bpred_keyed Tryz.underlying54 (x := (h.s, (h.l.length : Int))) Hkey.out (fun y => kPred_inj) hv hf1 hf2
        simp only [kPred] at hrun
        clear hg c0 c1 c2 c3 c4 c5 c6 c7 b0 b2 p0 p1'
        simp only [finAll, Act.put, List.setIfInBounds_toArray, List.set_cons_succ, List.set_cons_zero, clVal_four, List.drop_succ_cons, List.drop_zero, List.take_zero]
        go_upto_region 10 with fail
        have hk1 : Kp (fun x => x = M1) wc w10 := Kp.of_grownBy hgb rfl
        have kr : Kp (Mut B M1 M2 (.slice qv st.all.length cv)) wc w10 := hk1.mono fun x hx => .inr (.inl hx)
        replace kw := kw.trans kr
        replace HT2 := Lib.hid (HT2.out.kp hk1 (Ne.symm hn3))
        replace HBl := Lib.hid (HBl.out.kp hk1 (Ne.symm hn1))
        replace HP := Lib.hid (HP.out.kp hk1 (by omega))
        replace Hall := Lib.hid (ownsRow_kpv Hall.out hk1 (fun x hx e => hna.out.2.1 (by rw [hx, e])))
        replace HM1 := Lib.hid HM1
        have hs10c : wc.heap.size ≤ w10.heap.size := hk1.size
        have hs10 : w9.heap.size ≤ w10.heap.size := by omega
        clear hrun hgb hk1 HT1
        have b0 := HBl.out.cell 0 (v := .int .i64 (st.last + 1)) rfl
        have b1 := HBl.out.cell 1 (v := .slice qv st.all.length cv) rfl
        refine wp_region_relyA 14 [fx (.pointer (some ⟨B, 0, none⟩)), fx (.pointer (some ⟨B, 0, none⟩)), fx (.pointer (some ⟨B, 0, none⟩)), fx (.pointer (some ⟨B, 1, none⟩)), fx (.slice qv st.all.length cv), fx (.int .i64 st.all.length), fx (.pointer (some ⟨B, 0, none⟩)), fx (.pointer (some ⟨B, 0, none⟩)), fx (.pointer (some ⟨B, 0, none⟩)), fx (.int .i64 (st.last + 1)), oneNewV (.slice qv st.all.length cv) (st.last + 1), sliceV3, fx (.pointer (some ⟨B, 0, none⟩)), fx (.pointer (some ⟨B, 1, none⟩))]
          (fun w w' => Kp (fun b => (.slice qv st.all.length cv : Value).ownBlock = some b) w w') (RowJ 11 86 (.slice qv st.all.length cv) (st.all.map (.int .i64)) ((st.all.take st.all.length ++ (st.last + 1) :: st.all.drop st.all.length).map (.int .i64)) w10.heap.size) (by kernel_rfl) (by kernel_rfl) (by decide) (by kernel_rfl) (fun _ _ h => Kp.of_gr h) (fun _ _ _ h k => Kp.trans h k) (fun w hg => RowJ.start (by simpa using ownsRow_gr Hall.out hg)) (by repeat (first | exact StableR.nil | refine StableR.fix ?_ | refine StableR.cons oneNewV_kp ?_ | refine StableR.cons sliceV3_kp ?_)) ?_ ?_
        · refine ⟨stepA_plain (fun _ _ h => Kp.of_gr h) (fun listed a w w' v h hg => RowJ.other rfl listed a w w' v h hg) ?_, stepA_plain (fun _ _ h => Kp.of_gr h) (fun listed a w w' v h hg => RowJ.other rfl listed a w w' v h hg) ?_, stepA_plain (fun _ _ h => Kp.of_gr h) (fun listed a w w' v h hg => RowJ.other rfl listed a w w' v h hg) ?_, stepA_plain (fun _ _ h => Kp.of_gr h) (fun listed a w w' v h hg => RowJ.other rfl listed a w w' v h hg) ?_, stepA_plain (fun _ _ h => Kp.of_gr h) (fun listed a w w' v h hg => RowJ.other rfl listed a w w' v h hg) ?_, stepA_plain (fun _ _ h => Kp.of_gr h) (fun listed a w w' v h hg => RowJ.other rfl listed a w w' v h hg) ?_, stepA_plain (fun _ _ h => Kp.of_gr h) (fun listed a w w' v h hg => RowJ.other rfl listed a w w' v h hg) ?_, stepA_plain (fun _ _ h => Kp.of_gr h) (fun listed a w w' v h hg => RowJ.other rfl listed a w w' v h hg) ?_, stepA_plain (fun _ _ h => Kp.of_gr h) (fun listed a w w' v h hg => RowJ.other rfl listed a w w' v h hg) ?_, stepA_plain (fun _ _ h => Kp.of_gr h) (fun listed a w w' v h hg => RowJ.other rfl listed a w w' v h hg) ?_, stepA_plain (fun _ _ h => Kp.of_gr h) (fun listed a w w' v h hg => RowJ.other rfl listed a w w' v h hg) ?b10, ?a11, stepA_plain (fun _ _ h => Kp.of_gr h) (fun listed a w w' v h hg => RowJ.other rfl listed a w w' v h hg) ?_, stepA_plain (fun _ _ h => Kp.of_gr h) (fun listed a w w' v h hg => RowJ.other rfl listed a w w' v h hg) ?_, trivial⟩
          case a11 =>
            intro listed fr wr hj hl hpre hg hdef hold
            have h0 : fr.tmps[0]?.getD undef = .pointer (some ⟨B, 0, none⟩) := hold 0 rfl
            have h12 : fr.tmps[12]?.getD undef = .int .i64 st.all.length := hold 12 rfl
            clear hold
            have y0 := Kp.cell hg b0 hna.out.1
            have y1 := Kp.cell hg b1 hna.out.1
            have hgs := hg.size
            clear b0 b1
            clear hdef
            have HJ := Lib.hid (And.intro hj hl)
            have Hg := Lib.hid hg
            clear hj hg hpre
            simp [predsImp, Region.binds, dstAt, fx]
            intros
            rename_i K hK
            go_simp
            have hq : oneNewV (.slice qv st.all.length cv) (st.last + 1) (fr.tmps[85]?.getD undef) wr := by assumption
            obtain ⟨g, e1, d0, ne⟩ := hq
            rw [e1]
            refine (insert_gen 0 (.slice qv st.all.length cv) st.all st.all.length g (st.last + 1) wr (by simpa using HJ.out.1.before HJ.out.2) (by omega) (Nat.zero_le _) d0 ne (by omega)).mono ?_
            rintro e w11 ⟨v', rfl, ho, hk, hv'⟩
            obtain ⟨q', c', rfl, _⟩ := row_form ho
            exact hK _ _ ⟨q', _, c', rfl⟩ hk (RowJ.after HJ.out.2 (by simpa using ho) (hv'.imp id fun h => ⟨_, h, Hg.out.size⟩))
          case b10 =>
            intro fr wr hg hold
            have h0 : fr.tmps[0]?.getD undef = .pointer (some ⟨B, 0, none⟩) := hold 0 rfl
            have h12 : fr.tmps[12]?.getD undef = .int .i64 st.all.length := hold 12 rfl
            clear hold
            have y0 := Kp.cell hg b0 hna.out.1
            have y1 := Kp.cell hg b1 hna.out.1
            have hgs := hg.size
            clear b0 b1
            simp [predsImp, Region.binds, dstAt, fx]
            intros
            rename_i K hK
            go_simp
            exact hK _ _ ⟨_, rfl, heap_alloc_new _ _, fun e => by have := ownsRow_lt Hall.out e; omega⟩ (by go_grown)
          all_goals
            intro fr wr hg hold
            have h0 : fr.tmps[0]?.getD undef = .pointer (some ⟨B, 0, none⟩) := hold 0 rfl
            have h12 : fr.tmps[12]?.getD undef = .int .i64 st.all.length := hold 12 rfl
            clear hold
            have y0 := Kp.cell hg b0 hna.out.1
            have y1 := Kp.cell hg b1 hna.out.1
            have hgs := hg.size
            clear b0 b1
            simp [predsImp, Region.binds, dstAt, fx]
            intros
            rename_i K hK
            go_simp
          all_goals exact hK _ _ rfl (Gr.rfl' _)
        · intro wd hg
          rintro _ rfl _ rfl _ rfl _ rfl _ rfl _ rfl _ rfl _ rfl _ rfl _ rfl v10 _ _ ⟨q, n, cq, rfl⟩ _ rfl _ rfl hap
          simp only [Act.put, List.setIfInBounds_toArray, List.set_cons_succ, List.set_cons_zero, List.drop_succ_cons, List.drop_zero] at hap ⊢
          obtain ⟨hrow, hob⟩ := hap.end_ (v := .slice q n cq) (by show 11 < 14; omega) rfl (fun e => by cases e)
          have hvl : Hid (∀ x, (.slice qv st.all.length cv : Value).ownBlock = some x → x < w.heap.size) := fun x hx => HNB.out.lt x (.inr (.inr (.inr hx)))
          replace kw := kw.trans (hg.mono fun b hb => .inr (.inr (.inr hb)))
          replace kr := kr.trans (hg.mono fun b hb => .inr (.inr (.inr hb)))
          replace HM1 := Lib.hid (HM1.out.kp hg hna.out.2.1)
          replace HT2 := Lib.hid (HT2.out.kp hg hna.out.2.2)
          replace HBl := Lib.hid (HBl.out.kp hg hna.out.1)
          replace HP := Lib.hid (HP.out.kp hg (fun e => by have := hvl.out _ e; omega))
          have hob2 : Hid (∀ x, (Value.slice q n cq).ownBlock = some x → x ≠ B ∧ x ≠ M1 ∧ x ≠ M2) := fun x hx => by
            rcases hob with h | ⟨g, h, hgg⟩
            · rw [h] at hx
              exact ⟨fun e => hna.out.1 (by rw [hx, e]), fun e => hna.out.2.1 (by rw [hx, e]), fun e => hna.out.2.2 (by rw [hx, e])⟩
            · rw [h] at hx; cases hx
              exact ⟨by omega, by omega, by omega⟩
          have Hob := Lib.hid hob
          have HRW := Lib.hid hrow
          clear hap hob hrow hg b0 b1
          have f1' := HBl.out.open_ 1
          have e1 := HBl.out.cell 1 (v := .slice qv st.all.length cv) rfl
          go_upto_region 11 with fail
          have hk2 : Kp (fun x => x = B) wd (wd.setCell ⟨B, 1, none⟩ (.slice q n cq)) := Kp.set rfl
          have hB2 := HBl.out.set 1 (.slice q n cq)
          simp only [List.setIfInBounds_toArray, List.set_cons_succ, List.set_cons_zero] at hB2
          generalize wd.setCell ⟨B, 1, none⟩ (.slice q n cq) = we at *
          replace kw := kw.trans (hk2.mono fun x hx => .inl hx)
          replace kr := kr.trans (hk2.mono fun x hx => .inl hx)
          replace HM1 := Lib.hid (HM1.out.kp hk2 hn1)
          replace HT2 := Lib.hid (HT2.out.kp hk2 hn2)
          replace HP := Lib.hid (HP.out.kp hk2 (by omega))
          replace HRW := Lib.hid (ownsRow_kpv HRW.out hk2 fun x hx => (hob2.out x hx).1)
          replace HBl := Lib.hid hB2
          clear hk2 hB2 f1' e1
          have b0 := HBl.out.cell 0 (v := .int .i64 (st.last + 1)) rfl
          have b3 := HBl.out.cell 3 (v := .map (some M2)) rfl
          have p0 := HP.out.cell 0 (v := .string h.s) rfl
          have p1' := HP.out.cell 1 (v := .int .i64 h.l.length) rfl
          refine wp_region_rely_tail 9 [fx (.pointer (some ⟨B, 0, none⟩)), fx (.pointer (some ⟨B, 0, none⟩)), fx (.pointer (some ⟨B, 3, none⟩)), fx (.map (some M2)), fx (.pointer (some ⟨B, 0, none⟩)), fx (.pointer (some ⟨B, 0, none⟩)), fx (.pointer (some ⟨B, 0, none⟩)), fx (.int .i64 (st.last + 1)), fx (.agg #[.string h.s, .int .i64 h.l.length])]
            (by kernel_rfl) (by kernel_rfl) (by decide) (by repeat (first | exact Stable.nil | refine Stable.fix ?_)) ?_ ?_
          · refine ⟨?_, ?_, ?_, ?_, ?_, ?_, ?_, ?_, ?_, trivial⟩
            all_goals
              intro a wr hg hold
              have h0 : a.tmps[0]?.getD undef = .pointer (some ⟨B, 0, none⟩) := hold 0 rfl
              have h10 : a.tmps[10]?.getD undef = .pointer (some ⟨pp, 0, none⟩) := hold 10 rfl
              clear hold
              have y0 := Gr.at hg b0
              have y3 := Gr.at hg b3
              have x0 := Gr.at hg p0
              have x1 := Gr.at hg p1'
              clear b0 b3 p0 p1'
              simp [predsImp, Region.binds, dstAt, fx]
              intros
              first
                | (rw [if_pos (by simp [*])]
                   intro K hK)
                | (rename_i K hK)
              go_simp
            all_goals exact hK _ _ rfl (Gr.rfl' _)
          · intro wf hg
            rintro _ rfl _ rfl _ rfl _ rfl _ rfl _ rfl _ rfl _ rfl _ rfl
            replace kw := kw.trans (Kp.of_gr hg)
            replace kr := kr.trans (Kp.of_gr hg)
            replace HM1 := Lib.hid (HM1.out.gr hg)
            replace HBl := Lib.hid (HBl.out.gr hg)
            replace HRW := Lib.hid (ownsRow_gr HRW.out hg)
            obtain ⟨wg, hrun, HM2, hgb⟩ := GMap.update (HT2.out.gr hg) (int_keyed Tryz.underlying3) Tryz.underlying55 (x := st.last + 1) Hkey1.out (fun y => kInt_inj) (.agg #[.string h.s, .int .i64 h.l.length]) (g := fun n => (st'.wh n).map kPred) (by rw [Hadd.out.its]; rfl) (fun y hy => by rw [Hadd.out.wh y hy])
            simp only [kInt] at hrun
            have hk3 : Kp (fun x => x = M2) wf wg := Kp.of_grownBy hgb rfl
            replace kw := kw.trans (hk3.mono fun x hx => .inr (.inr (.inl hx)))
            replace kr := kr.trans (hk3.mono fun x hx => .inr (.inr (.inl hx)))
            replace HM1 := Lib.hid (HM1.out.kp hk3 hn3)
            replace HBl := Lib.hid (HBl.out.kp hk3 (Ne.symm hn2))
            replace HRW := Lib.hid (ownsRow_kpv HRW.out hk3 fun x hx => (hob2.out x hx).2.2)
            replace HM2 := Lib.hid HM2
            clear hg hgb hk3 b0 b3 p0 p1'
            have hKn : ∀ x, w9.heap.size ≤ x → ¬ (Mut B M1 M2 (.slice qv st.all.length cv)) x := by
              intro x hx h
              rcases h with h | h | h | h
              · omega
              · omega
              · omega
              · have := hvl.out x h; omega
            have hown : Hid ((Value.slice q n cq).ownBlock = (.slice qv st.all.length cv : Value).ownBlock ∨ ∃ g, (Value.slice q n cq).ownBlock = some g ∧ w.heap.size ≤ g) := Hob.out.imp id fun ⟨g, h1, h2⟩ => ⟨g, h1, by omega⟩
            have hLn : Hid (∀ y, (S y ∨ (w9.heap.size ≤ y ∧ y < wc.heap.size)) → ¬ (Mut B M1 M2 (.slice qv st.all.length cv)) y) := fun y hy => hy.elim (fun h => HNB.out.sep y h) fun h => hKn y h.1
            have hLb : Hid (∀ y, (Value.slice q n cq).ownBlock = some y → y < w.heap.size ∨ wc.heap.size ≤ y) := fun y hy => by
              rcases Hob.out with e | ⟨g, e, hge⟩
              · rw [e] at hy; exact .inl (hvl.out y hy)
              · rw [e] at hy; cases hy; exact .inr (Nat.le_trans hs10c hge)
            have hb0 := HBl.out.cell 0 (v := .int .i64 (st.last + 1)) rfl
            have hfin : Hid (BaseG (fun x => S x ∨ (w.heap.size ≤ x ∧ (Value.slice q n cq).ownBlock ≠ some x)) wg B M1 M2 (.slice q n cq) st') := by
              have hS1 : ∀ x, S x → x < w.heap.size → (fun x => S x ∨ (w.heap.size ≤ x ∧ (Value.slice q n cq).ownBlock ≠ some x)) x := fun x hx _ => .inl hx
              refine ⟨by rw [Hadd.out.last]; exact HBl.out, ?_, ⟨f1, HM1.out, fun k => ?_⟩, HM2.out, fun m k hk => ?_, fun m k hk => ?_, fun k L hk y hy => ?_, fun k L hk => ?_, ?_, hn1, hn2, hn3, ⟨fun e => (hob2.out _ e).1 rfl, fun e => (hob2.out _ e).2.1 rfl, fun e => (hob2.out _ e).2.2 rfl⟩, fun x hx hm => ?_⟩
              · rw [Hadd.out.all]; simpa using HRW.out
              · by_cases hk : k = (h.s, (h.l.length : Int))
                · subst hk
                  rw [hf1, Hadd.out.here]
                  exact ⟨_, _, _, congrArg some Hvp.out, (HL.out.kp kr hLn.out).mono fun x hx hlt => hx.imp id fun hx => ⟨by omega, fun e => by have := hLb.out x e; omega⟩, by simp [HMe.out, HXe.out]⟩
                · rw [hf2 k hk, Hadd.out.pr k hk]
                  exact ((HRow.out k).kp kw HNB.out.sep).mono fun x hx _ => .inl hx
              · by_cases hm : m = st.last + 1
                · subst hm; rw [Hadd.out.its] at hk; cases hk; exact ⟨hs, by omega, by simp only; omega⟩
                · rw [Hadd.out.wh m hm] at hk; exact HNB.out.whk m k hk
              · by_cases hm : m = st.last + 1
                · subst hm; rw [Hadd.out.all]; simp
                · rw [Hadd.out.wh m hm] at hk; have := HNB.out.wha m k hk; rw [Hadd.out.all]; simp [this]
              · by_cases hk' : k = (h.s, (h.l.length : Int))
                · subst hk'
                  rw [Hadd.out.here] at hk
                  cases hk
                  have hnew : (h.erase.l.length : Int) = h.l.length := by rw [erase_l h, Tm.eraseL_length]
                  have hold : ∀ z ∈ (st.pr (h.s, (h.l.length : Int))).getD [], (z.h.l.length : Int) = h.l.length := fun z hz => by
                    cases hx : st.pr (h.s, (h.l.length : Int)) with
                    | none => rw [hx] at hz; cases hz
                    | some L => rw [hx] at hz; exact HNB.out.hds _ L hx z hz
                  simp at hy
                  rcases hy with hy | hy
                  all_goals first | exact hold y hy | (subst hy; exact hnew)
                · rw [Hadd.out.pr k hk'] at hk; exact HNB.out.hds k L hk y hy
              · rw [Hadd.out.last]
                by_cases hk' : k = (h.s, (h.l.length : Int))
                · subst hk'
                  rw [Hadd.out.here] at hk
                  cases hk
                  have h1 : M.length = ((st.pr (h.s, (h.l.length : Int))).getD []).length := by rw [← HMe.out, List.length_map]
                  simp
                  omega
                · rw [Hadd.out.pr k hk'] at hk; have := HNB.out.bdp k L hk; omega
              · rw [Hadd.out.last, Hadd.out.all]; have := HNB.out.bda; simp; omega
              · rcases hx with hx | ⟨hx, hx2⟩
                · rcases hm with hm | hm | hm | hm
                  · exact HNB.out.sep x hx (.inl hm)
                  · exact HNB.out.sep x hx (.inr (.inl hm))
                  · exact HNB.out.sep x hx (.inr (.inr (.inl hm)))
                  · rcases hown.out with e | ⟨g, e, hge⟩
                    · exact HNB.out.sep x hx (.inr (.inr (.inr (by rw [← e]; exact hm))))
                    · rw [e] at hm; cases hm; have := HS.out _ hx; omega
                · rcases hm with hm | hm | hm | hm
                  · omega
                  · omega
                  · omega
                  · exact hx2 hm
            simp only [finAll, Act.put, List.setIfInBounds_toArray, List.set_cons_succ, List.set_cons_zero, List.drop_succ_cons, List.drop_zero, List.take_zero]
            go_wp2_with fail
            exact hR.out _ _ hfin.out kw hown.out
    · go_upto_region 9 with fail
      have gks := kw.size
      have HMr := Lib.hid (HM.out.kp kw HNB.out.sep)
      obtain ⟨c0, c1, c2, c3, c4, c5, c6, c7⟩ := HC.out.cells
      have b0 := HBl.out.cell 0 (v := .int .i64 (st.last + 1)) rfl
      have b2 := HBl.out.cell 2 (v := .map (some M1)) rfl
      have p0 := HP.out.cell 0 (v := .string h.s) rfl
      have p1' := HP.out.cell 1 (v := .int .i64 h.l.length) rfl
      refine wp_region_rely_tail 31 [fx (.pointer (some ⟨B, 0, none⟩)), fx (.pointer (some ⟨B, 0, none⟩)), fx (.pointer (some ⟨B, 2, none⟩)), fx (.map (some M1)), fx (.agg #[.string h.s, .int .i64 h.l.length]), fx (.pointer (some ⟨B, 0, none⟩)), fx (.pointer (some ⟨B, 0, none⟩)), fx (.pointer (some ⟨B, 2, none⟩)), fx (.map (some M1)), fx (.agg #[.string h.s, .int .i64 h.l.length]), fx (.slice p M.length c), fx (.int .i64 0), emptyV, fx (.pointer (some ⟨B, 0, none⟩)), fx (.pointer (some ⟨B, 0, none⟩)), fx (.pointer (some ⟨B, 0, none⟩)), fx (.int .i64 (st.last + 1)), fx (clVal h b), clNew (w9.heap.size ≤ ·) h.erase b.erase, hdV (w9.heap.size ≤ ·) ⟨st.last + 1, h.erase, b.erase⟩, hdRowV (w9.heap.size ≤ ·) ⟨st.last + 1, h.erase, b.erase⟩, fx (.pointer (some ⟨B, 0, none⟩)), fx (.pointer (some ⟨B, 0, none⟩)), fx (.pointer (some ⟨B, 2, none⟩)), fx (.map (some M1)), fx (.agg #[.string h.s, .int .i64 h.l.length]), fx (.slice p M.length c), fx (.int .i64 0), fx (.slice p M.length c), hdThreeV emptyP (· = .slice p M.length c) (w9.heap.size ≤ ·) ⟨st.last + 1, h.erase, b.erase⟩, hdOwnV w9.heap.size (fun x => x :: M) (w9.heap.size ≤ ·) ⟨st.last + 1, h.erase, b.erase⟩]
        (by kernel_rfl) (by kernel_rfl) (by decide) (by repeat (first | exact Stable.nil | refine Stable.fix ?_ | refine Stable.cons clNew_stable ?_ | refine Stable.cons hdV_stable ?_ | refine Stable.cons hdRowV_stable ?_ | refine Stable.cons emptyV_stable ?_ | refine Stable.cons hdThreeV_stable ?_ | refine Stable.cons hdOwnV_stable ?_)) ?_ ?_
      · refine ⟨?_, ?_, ?_, ?_, ?_, ?_, ?_, ?_, ?_, ?_, ?_, ?_, ?a12, ?_, ?_, ?_, ?_, ?_, ?a18, ?a19, ?a20, ?_, ?_, ?_, ?_, ?_, ?_, ?_, ?_, ?a29, ?a30, trivial⟩
        all_goals
          intro a wr hg hold
          have h0 : a.tmps[0]?.getD undef = .pointer (some ⟨B, 0, none⟩) := hold 0 rfl
          have h10 : a.tmps[10]?.getD undef = .pointer (some ⟨pp, 0, none⟩) := hold 10 rfl
          have h4 : a.tmps[4]?.getD undef = .pointer (some ⟨w.heap.size, 0, none⟩) := hold 4 rfl
          have h11 : a.tmps[11]?.getD undef = .int .i64 0 := hold 11 rfl
          clear hold
          have z0 := Gr.at hg c0
          have z1 := Gr.at hg c1
          have z2 := Gr.at hg c2
          have z3 := Gr.at hg c3
          have z4 := Gr.at hg c4
          have z5 := Gr.at hg c5
          have z6 := Gr.at hg c6
          have z7 := Gr.at hg c7
          have y0 := Gr.at hg b0
          have y2 := Gr.at hg b2
          have x0 := Gr.at hg p0
          have x1 := Gr.at hg p1'
          have hlk := (GMap.run (HT1.out.gr hg) bpred_keyed Tryz.underlying54 (zero_held wr) (x := (h.s, (h.l.length : Int))) Hkey.out).1
          rw [HGv.out] at hlk
          simp only [kPred] at hlk
          have Hhr := Lib.hid (Tm.In_below hg Hh.out)
          have Hbr := Lib.hid (Tm.In_below hg Hb.out)
          clear c0 c1 c2 c3 c4 c5 c6 c7 b0 b2 p0 p1'
          simp [predsImp, Region.binds, dstAt, fx]
          intros
          first
            | (rw [if_pos (by simp [*])]
               intro K hK)
            | (rename_i K hK)
          go_simp
        case a12 =>
          refine hK _ _ ?_ (Gr.rfl' _)
          simp [emptyV, emptyP]
        case a18 =>
          refine (copied_calls h b wr Hhr.out Hbr.out Fh.out Fb.out).mono ?_
          rintro e w10 ⟨h2, b2, rfl, i1, i2, j1, j2, o1, o2, hg2⟩
          exact hK _ _ ⟨h2, b2, rfl, i1, i2, j1, j2, o1.mono fun x hx => Nat.le_trans hg.size hx, o2.mono fun x hx => Nat.le_trans hg.size hx⟩ hg2
        case a19 =>
          have hq : clNew (w9.heap.size ≤ ·) h.erase b.erase (a.tmps[62]?.getD undef) wr := by assumption
          obtain ⟨h2, b2, e1, i1, i2, j1, j2, o1, o2⟩ := hq
          rw [e1]
          simp only [clVal]
          go_simp
          exact hK _ _ ⟨⟨st.last + 1, h2, b2⟩, rfl, by rw [Hd.er, j1, j2], i1, i2, o1, o2⟩ (Gr.rfl' _)
        case a20 =>
          have hq : hdV (w9.heap.size ≤ ·) ⟨st.last + 1, h.erase, b.erase⟩ (a.tmps[63]?.getD undef) wr := by assumption
          obtain ⟨x, e1, hx⟩ := hq
          rw [e1]
          simp only [Hd.cells, heldCells]
          go_simp
          have hn := BlkT.new wr 73 x.cells.toArray
          have hgn : Gr wr (wr.alloc (.cells x.cells.toArray 73)) := by go_grown
          exact hK _ _ ⟨x, _, rfl, fun j u hu => hn.cell j (by simpa using hu), hx.gr hgn⟩ hgn
        case a29 =>
          have hq : hdRowV (w9.heap.size ≤ ·) ⟨st.last + 1, h.erase, b.erase⟩ (a.tmps[64]?.getD undef) wr := by assumption
          obtain ⟨x, g, e1, hc, hx⟩ := hq
          rw [e1]
          have hqe : emptyV (a.tmps[56]?.getD undef) wr := by assumption
          obtain ⟨q9, c9, e9⟩ := hqe
          rw [e9]
          go_simp
          have hn := BlkT.new wr 70 #[.slice q9 0 c9, .slice (some ⟨g, 0, none⟩) 1 1, .slice p M.length c]
          have hgn : Gr wr (wr.alloc (.cells #[.slice q9 0 c9, .slice (some ⟨g, 0, none⟩) 1 1, .slice p M.length c] 70)) := by go_grown
          exact hK _ _ ⟨x, g, _, _, _, rfl, ⟨q9, c9, rfl⟩, rfl, hn.cell 0 rfl, hn.cell 1 rfl, hn.cell 2 rfl, fun j u hu => Gr.at hgn (hc j u hu), hx.gr hgn⟩ hgn
        case a30 =>
          have hq : hdThreeV emptyP (· = .slice p M.length c) (w9.heap.size ≤ ·) ⟨st.last + 1, h.erase, b.erase⟩ (a.tmps[73]?.getD undef) wr := by assumption
          obtain ⟨x, g, a0, u1, u2, e1, r1, r2, d0, d1, d2, hc, hx⟩ := hq
          rw [e1]
          obtain ⟨q9, c9, rfl⟩ := r1
          subst r2
          have hrs : ∀ r ∈ ([⟨q9, 0, c9, []⟩, ⟨some ⟨g, 0, none⟩, 1, 1, x.cells⟩, ⟨p, M.length, c, M.flatMap Hd.cells⟩] : List Rw), r.In 9 wr := by
            intro r hr
            simp only [List.mem_cons, List.mem_nil_iff, or_false] at hr
            rcases hr with rfl | rfl | rfl
            · exact ⟨rfl, fun u hu => (by cases hu), .inl rfl⟩
            · exact ⟨rfl, heldCells_one _ _ _, .inr ⟨g, 0, rfl, fun j u hu => by rw [Nat.zero_add]; exact hc j u hu⟩⟩
            · exact (HMr.out.gr hg).rw
          have hcs : ∀ i r, ([⟨q9, 0, c9, []⟩, ⟨some ⟨g, 0, none⟩, 1, 1, x.cells⟩, ⟨p, M.length, c, M.flatMap Hd.cells⟩] : List Rw)[i]? = some r → wr.cell? ⟨a0, i, none⟩ = some (.slice r.p r.n r.c) := by
            intro i r hr
            match i, hr with
            | 0, hr => cases hr; exact d0
            | 1, hr => cases hr; exact d1
            | 2, hr => cases hr; exact d2
          refine (concatH_calls a0 _ wr hrs hcs (by simp [sumN]; omega) (by simp)).mono ?_
          rintro e w10 ⟨v, rfl, ho, hg2⟩
          refine hK _ _ ⟨x, ?_, hx.gr hg2⟩ hg2
          have ho2 := row_le ho hg.size
          simpa [sumN, List.flatMap_append, List.flatMap_cons, Nat.add_comm] using ho2
        all_goals exact hK _ _ rfl (Gr.rfl' _)
      · intro wc hg
        rintro _ rfl _ rfl _ rfl _ rfl _ rfl _ rfl _ rfl _ rfl _ rfl _ rfl _ rfl _ rfl v12 _ _ rfl _ rfl _ rfl _ rfl _ rfl v18 _ v19 _ v20 _ _ rfl _ rfl _ rfl _ rfl _ rfl _ rfl _ rfl _ rfl v29 _ hv ⟨x, ho, hx⟩
        replace kw := kw.trans (Kp.of_gr hg)
        replace HT1 := Lib.hid (HT1.out.gr hg)
        replace HT2 := Lib.hid (HT2.out.gr hg)
        replace HBl := Lib.hid (HBl.out.gr hg)
        replace HC := Lib.hid (HC.out.gr hg)
        replace HP := Lib.hid (HP.out.gr hg)
        replace Hall := Lib.hid (ownsRow_gr Hall.out hg)
        replace Hh := Lib.hid (Tm.In_below hg Hh.out)
        replace Hb := Lib.hid (Tm.In_below hg Hb.out)
        have HMc := Lib.hid (HMr.out.gr hg)
        have Ho := Lib.hid ho
        have Hx := Lib.hid hx
        have hgs := hg.size
        have HXe := Lib.hid hx.1
        obtain ⟨pL, cL, hvp, hL⟩ : ∃ p c, hv = .slice p ((fun x => x :: M) x).length c ∧ HSl (fun y => S y ∨ (w9.heap.size ≤ y ∧ y < wc.heap.size)) wc p c ((fun x => x :: M) x) := by
          refine HSl.of_own ho (fun g h1 h2 => .inr ⟨h1, h2⟩) (by simp; omega) fun y hy => ?_
          have hx9 : ((⟨st.last + 1, h.erase, b.erase⟩ : HdT)).h = h.erase ∧ ((⟨st.last + 1, h.erase, b.erase⟩ : HdT)).b = b.erase := ⟨rfl, rfl⟩
          have hxx : x.h.In wc ∧ x.b.In wc ∧ x.h.erase.formed = true ∧ x.b.erase.formed = true ∧ x.h.On (fun y => S y ∨ (w9.heap.size ≤ y ∧ y < wc.heap.size)) ∧ x.b.On (fun y => S y ∨ (w9.heap.size ≤ y ∧ y < wc.heap.size)) := by
            obtain ⟨e1, i1, i2, o1, o2⟩ := hx
            have e2 : x.h.erase = h.erase := congrArg HdT.h e1
            have e3 : x.b.erase = b.erase := congrArg HdT.b e1
            exact ⟨i1, i2, by rw [e2]; exact Fh.out, by rw [e3]; exact Fb.out, (Tm.On.and o1 i1.on).mono fun _ h => .inr h, (Tm.On.and o2 i2.on).mono fun _ h => .inr h⟩
          have hMM : ∀ y ∈ M, y.h.In wc ∧ y.b.In wc ∧ y.h.erase.formed = true ∧ y.b.erase.formed = true ∧ y.h.On (fun y => S y ∨ (w9.heap.size ≤ y ∧ y < wc.heap.size)) ∧ y.b.On (fun y => S y ∨ (w9.heap.size ≤ y ∧ y < wc.heap.size)) := fun y hy => by
            obtain ⟨a1, a2, a3, a4, a5, a6⟩ := HMc.out.els y hy
            exact ⟨a1, a2, a3, a4, a5.mono fun _ h => .inl h, a6.mono fun _ h => .inl h⟩
          rcases List.mem_cons.1 hy with rfl | hy
          · exact hxx
          · exact hMM y hy
        have Hvp := Lib.hid hvp
        clear hvp
        have HL := Lib.hid hL
        clear ho hx hL
        obtain ⟨f1, hf1, hf2⟩ := put_over (h.s, (h.l.length : Int)) hv g1
        obtain ⟨w10, hrun, HM1, hgb⟩ := GMap.update HT1.out bpred_keyed Tryz.underlying54 (x := (h.s, (h.l.length : Int))) Hkey.out (fun y => kPred_inj) hv hf1 hf2
        simp only [kPred] at hrun
        clear hg c0 c1 c2 c3 c4 c5 c6 c7 b0 b2 p0 p1'
        simp only [finAll, Act.put, List.setIfInBounds_toArray, List.set_cons_succ, List.set_cons_zero, clVal_four, List.drop_succ_cons, List.drop_zero, List.take_zero]
        go_upto_region 10 with fail
        have hk1 : Kp (fun x => x = M1) wc w10 := Kp.of_grownBy hgb rfl
        have kr : Kp (Mut B M1 M2 (.slice qv st.all.length cv)) wc w10 := hk1.mono fun x hx => .inr (.inl hx)
        replace kw := kw.trans kr
        replace HT2 := Lib.hid (HT2.out.kp hk1 (Ne.symm hn3))
        replace HBl := Lib.hid (HBl.out.kp hk1 (Ne.symm hn1))
        replace HP := Lib.hid (HP.out.kp hk1 (by omega))
        replace Hall := Lib.hid (ownsRow_kpv Hall.out hk1 (fun x hx e => hna.out.2.1 (by rw [hx, e])))
        replace HM1 := Lib.hid HM1
        have hs10c : wc.heap.size ≤ w10.heap.size := hk1.size
        have hs10 : w9.heap.size ≤ w10.heap.size := by omega
        clear hrun hgb hk1 HT1
        have b0 := HBl.out.cell 0 (v := .int .i64 (st.last + 1)) rfl
        have b1 := HBl.out.cell 1 (v := .slice qv st.all.length cv) rfl
        refine wp_region_relyA 14 [fx (.pointer (some ⟨B, 0, none⟩)), fx (.pointer (some ⟨B, 0, none⟩)), fx (.pointer (some ⟨B, 0, none⟩)), fx (.pointer (some ⟨B, 1, none⟩)), fx (.slice qv st.all.length cv), fx (.int .i64 0), fx (.pointer (some ⟨B, 0, none⟩)), fx (.pointer (some ⟨B, 0, none⟩)), fx (.pointer (some ⟨B, 0, none⟩)), fx (.int .i64 (st.last + 1)), oneNewV (.slice qv st.all.length cv) (st.last + 1), sliceV3, fx (.pointer (some ⟨B, 0, none⟩)), fx (.pointer (some ⟨B, 1, none⟩))]
          (fun w w' => Kp (fun b => (.slice qv st.all.length cv : Value).ownBlock = some b) w w') (RowJ 11 86 (.slice qv st.all.length cv) (st.all.map (.int .i64)) ((st.all.take 0 ++ (st.last + 1) :: st.all.drop 0).map (.int .i64)) w10.heap.size) (by kernel_rfl) (by kernel_rfl) (by decide) (by kernel_rfl) (fun _ _ h => Kp.of_gr h) (fun _ _ _ h k => Kp.trans h k) (fun w hg => RowJ.start (by simpa using ownsRow_gr Hall.out hg)) (by repeat (first | exact StableR.nil | refine StableR.fix ?_ | refine StableR.cons oneNewV_kp ?_ | refine StableR.cons sliceV3_kp ?_)) ?_ ?_
        · refine ⟨stepA_plain (fun _ _ h => Kp.of_gr h) (fun listed a w w' v h hg => RowJ.other rfl listed a w w' v h hg) ?_, stepA_plain (fun _ _ h => Kp.of_gr h) (fun listed a w w' v h hg => RowJ.other rfl listed a w w' v h hg) ?_, stepA_plain (fun _ _ h => Kp.of_gr h) (fun listed a w w' v h hg => RowJ.other rfl listed a w w' v h hg) ?_, stepA_plain (fun _ _ h => Kp.of_gr h) (fun listed a w w' v h hg => RowJ.other rfl listed a w w' v h hg) ?_, stepA_plain (fun _ _ h => Kp.of_gr h) (fun listed a w w' v h hg => RowJ.other rfl listed a w w' v h hg) ?_, stepA_plain (fun _ _ h => Kp.of_gr h) (fun listed a w w' v h hg => RowJ.other rfl listed a w w' v h hg) ?_, stepA_plain (fun _ _ h => Kp.of_gr h) (fun listed a w w' v h hg => RowJ.other rfl listed a w w' v h hg) ?_, stepA_plain (fun _ _ h => Kp.of_gr h) (fun listed a w w' v h hg => RowJ.other rfl listed a w w' v h hg) ?_, stepA_plain (fun _ _ h => Kp.of_gr h) (fun listed a w w' v h hg => RowJ.other rfl listed a w w' v h hg) ?_, stepA_plain (fun _ _ h => Kp.of_gr h) (fun listed a w w' v h hg => RowJ.other rfl listed a w w' v h hg) ?_, stepA_plain (fun _ _ h => Kp.of_gr h) (fun listed a w w' v h hg => RowJ.other rfl listed a w w' v h hg) ?b10, ?a11, stepA_plain (fun _ _ h => Kp.of_gr h) (fun listed a w w' v h hg => RowJ.other rfl listed a w w' v h hg) ?_, stepA_plain (fun _ _ h => Kp.of_gr h) (fun listed a w w' v h hg => RowJ.other rfl listed a w w' v h hg) ?_, trivial⟩
          case a11 =>
            intro listed fr wr hj hl hpre hg hdef hold
            have h0 : fr.tmps[0]?.getD undef = .pointer (some ⟨B, 0, none⟩) := hold 0 rfl
            have h12 : fr.tmps[12]?.getD undef = .int .i64 0 := hold 12 rfl
            clear hold
            have y0 := Kp.cell hg b0 hna.out.1
            have y1 := Kp.cell hg b1 hna.out.1
            have hgs := hg.size
            clear b0 b1
            clear hdef
            have HJ := Lib.hid (And.intro hj hl)
            have Hg := Lib.hid hg
            clear hj hg hpre
            simp [predsImp, Region.binds, dstAt, fx]
            intros
            rename_i K hK
            go_simp
            have hq : oneNewV (.slice qv st.all.length cv) (st.last + 1) (fr.tmps[85]?.getD undef) wr := by assumption
            obtain ⟨g, e1, d0, ne⟩ := hq
            rw [e1]
            refine (insert_gen 0 (.slice qv st.all.length cv) st.all 0 g (st.last + 1) wr (by simpa using HJ.out.1.before HJ.out.2) (by omega) (Nat.zero_le _) d0 ne (by omega)).mono ?_
            rintro e w11 ⟨v', rfl, ho, hk, hv'⟩
            obtain ⟨q', c', rfl, _⟩ := row_form ho
            exact hK _ _ ⟨q', _, c', rfl⟩ hk (RowJ.after HJ.out.2 (by simpa using ho) (hv'.imp id fun h => ⟨_, h, Hg.out.size⟩))
          case b10 =>
            intro fr wr hg hold
            have h0 : fr.tmps[0]?.getD undef = .pointer (some ⟨B, 0, none⟩) := hold 0 rfl
            have h12 : fr.tmps[12]?.getD undef = .int .i64 0 := hold 12 rfl
            clear hold
            have y0 := Kp.cell hg b0 hna.out.1
            have y1 := Kp.cell hg b1 hna.out.1
            have hgs := hg.size
            clear b0 b1
            simp [predsImp, Region.binds, dstAt, fx]
            intros
            rename_i K hK
            go_simp
            exact hK _ _ ⟨_, rfl, heap_alloc_new _ _, fun e => by have := ownsRow_lt Hall.out e; omega⟩ (by go_grown)
          all_goals
            intro fr wr hg hold
            have h0 : fr.tmps[0]?.getD undef = .pointer (some ⟨B, 0, none⟩) := hold 0 rfl
            have h12 : fr.tmps[12]?.getD undef = .int .i64 0 := hold 12 rfl
            clear hold
            have y0 := Kp.cell hg b0 hna.out.1
            have y1 := Kp.cell hg b1 hna.out.1
            have hgs := hg.size
            clear b0 b1
            simp [predsImp, Region.binds, dstAt, fx]
            intros
            rename_i K hK
            go_simp
          all_goals exact hK _ _ rfl (Gr.rfl' _)
        · intro wd hg
          rintro _ rfl _ rfl _ rfl _ rfl _ rfl _ rfl _ rfl _ rfl _ rfl _ rfl v10 _ _ ⟨q, n, cq, rfl⟩ _ rfl _ rfl hap
          simp only [Act.put, List.setIfInBounds_toArray, List.set_cons_succ, List.set_cons_zero, List.drop_succ_cons, List.drop_zero, List.take_zero] at hap ⊢
          obtain ⟨hrow, hob⟩ := hap.end_ (v := .slice q n cq) (by show 11 < 14; omega) rfl (fun e => by cases e)
          have hvl : Hid (∀ x, (.slice qv st.all.length cv : Value).ownBlock = some x → x < w.heap.size) := fun x hx => HNB.out.lt x (.inr (.inr (.inr hx)))
          replace kw := kw.trans (hg.mono fun b hb => .inr (.inr (.inr hb)))
          replace kr := kr.trans (hg.mono fun b hb => .inr (.inr (.inr hb)))
          replace HM1 := Lib.hid (HM1.out.kp hg hna.out.2.1)
          replace HT2 := Lib.hid (HT2.out.kp hg hna.out.2.2)
          replace HBl := Lib.hid (HBl.out.kp hg hna.out.1)
          replace HP := Lib.hid (HP.out.kp hg (fun e => by have := hvl.out _ e; omega))
          have hob2 : Hid (∀ x, (Value.slice q n cq).ownBlock = some x → x ≠ B ∧ x ≠ M1 ∧ x ≠ M2) := fun x hx => by
            rcases hob with h | ⟨g, h, hgg⟩
            · rw [h] at hx
              exact ⟨fun e => hna.out.1 (by rw [hx, e]), fun e => hna.out.2.1 (by rw [hx, e]), fun e => hna.out.2.2 (by rw [hx, e])⟩
            · rw [h] at hx; cases hx
              exact ⟨by omega, by omega, by omega⟩
          have Hob := Lib.hid hob
          have HRW := Lib.hid hrow
          clear hap hob hrow hg b0 b1
          have f1' := HBl.out.open_ 1
          have e1 := HBl.out.cell 1 (v := .slice qv st.all.length cv) rfl
          go_upto_region 11 with fail
          have hk2 : Kp (fun x => x = B) wd (wd.setCell ⟨B, 1, none⟩ (.slice q n cq)) := Kp.set rfl
          have hB2 := HBl.out.set 1 (.slice q n cq)
          simp only [List.setIfInBounds_toArray, List.set_cons_succ, List.set_cons_zero] at hB2
          generalize wd.setCell ⟨B, 1, none⟩ (.slice q n cq) = we at *
          replace kw := kw.trans (hk2.mono fun x hx => .inl hx)
          replace kr := kr.trans (hk2.mono fun x hx => .inl hx)
          replace HM1 := Lib.hid (HM1.out.kp hk2 hn1)
          replace HT2 := Lib.hid (HT2.out.kp hk2 hn2)
          replace HP := Lib.hid (HP.out.kp hk2 (by omega))
          replace HRW := Lib.hid (ownsRow_kpv HRW.out hk2 fun x hx => (hob2.out x hx).1)
          replace HBl := Lib.hid hB2
          clear hk2 hB2 f1' e1
          have b0 := HBl.out.cell 0 (v := .int .i64 (st.last + 1)) rfl
          have b3 := HBl.out.cell 3 (v := .map (some M2)) rfl
          have p0 := HP.out.cell 0 (v := .string h.s) rfl
          have p1' := HP.out.cell 1 (v := .int .i64 h.l.length) rfl
          refine wp_region_rely_tail 9 [fx (.pointer (some ⟨B, 0, none⟩)), fx (.pointer (some ⟨B, 0, none⟩)), fx (.pointer (some ⟨B, 3, none⟩)), fx (.map (some M2)), fx (.pointer (some ⟨B, 0, none⟩)), fx (.pointer (some ⟨B, 0, none⟩)), fx (.pointer (some ⟨B, 0, none⟩)), fx (.int .i64 (st.last + 1)), fx (.agg #[.string h.s, .int .i64 h.l.length])]
            (by kernel_rfl) (by kernel_rfl) (by decide) (by repeat (first | exact Stable.nil | refine Stable.fix ?_)) ?_ ?_
          · refine ⟨?_, ?_, ?_, ?_, ?_, ?_, ?_, ?_, ?_, trivial⟩
            all_goals
              intro a wr hg hold
              have h0 : a.tmps[0]?.getD undef = .pointer (some ⟨B, 0, none⟩) := hold 0 rfl
              have h10 : a.tmps[10]?.getD undef = .pointer (some ⟨pp, 0, none⟩) := hold 10 rfl
              clear hold
              have y0 := Gr.at hg b0
              have y3 := Gr.at hg b3
              have x0 := Gr.at hg p0
              have x1 := Gr.at hg p1'
              clear b0 b3 p0 p1'
              simp [predsImp, Region.binds, dstAt, fx]
              intros
              first
                | (rw [if_pos (by simp [*])]
                   intro K hK)
                | (rename_i K hK)
              go_simp
            all_goals exact hK _ _ rfl (Gr.rfl' _)
          · intro wf hg
            rintro _ rfl _ rfl _ rfl _ rfl _ rfl _ rfl _ rfl _ rfl _ rfl
            replace kw := kw.trans (Kp.of_gr hg)
            replace kr := kr.trans (Kp.of_gr hg)
            replace HM1 := Lib.hid (HM1.out.gr hg)
            replace HBl := Lib.hid (HBl.out.gr hg)
            replace HRW := Lib.hid (ownsRow_gr HRW.out hg)
            obtain ⟨wg, hrun, HM2, hgb⟩ := GMap.update (HT2.out.gr hg) (int_keyed Tryz.underlying3) Tryz.underlying55 (x := st.last + 1) Hkey1.out (fun y => kInt_inj) (.agg #[.string h.s, .int .i64 h.l.length]) (g := fun n => (st'.wh n).map kPred) (by rw [Hadd.out.its]; rfl) (fun y hy => by rw [Hadd.out.wh y hy])
            simp only [kInt] at hrun
            have hk3 : Kp (fun x => x = M2) wf wg := Kp.of_grownBy hgb rfl
            replace kw := kw.trans (hk3.mono fun x hx => .inr (.inr (.inl hx)))
            replace kr := kr.trans (hk3.mono fun x hx => .inr (.inr (.inl hx)))
            replace HM1 := Lib.hid (HM1.out.kp hk3 hn3)
            replace HBl := Lib.hid (HBl.out.kp hk3 (Ne.symm hn2))
            replace HRW := Lib.hid (ownsRow_kpv HRW.out hk3 fun x hx => (hob2.out x hx).2.2)
            replace HM2 := Lib.hid HM2
            clear hg hgb hk3 b0 b3 p0 p1'
            have hKn : ∀ x, w9.heap.size ≤ x → ¬ (Mut B M1 M2 (.slice qv st.all.length cv)) x := by
              intro x hx h
              rcases h with h | h | h | h
              · omega
              · omega
              · omega
              · have := hvl.out x h; omega
            have hown : Hid ((Value.slice q n cq).ownBlock = (.slice qv st.all.length cv : Value).ownBlock ∨ ∃ g, (Value.slice q n cq).ownBlock = some g ∧ w.heap.size ≤ g) := Hob.out.imp id fun ⟨g, h1, h2⟩ => ⟨g, h1, by omega⟩
            have hLn : Hid (∀ y, (S y ∨ (w9.heap.size ≤ y ∧ y < wc.heap.size)) → ¬ (Mut B M1 M2 (.slice qv st.all.length cv)) y) := fun y hy => hy.elim (fun h => HNB.out.sep y h) fun h => hKn y h.1
            have hLb : Hid (∀ y, (Value.slice q n cq).ownBlock = some y → y < w.heap.size ∨ wc.heap.size ≤ y) := fun y hy => by
              rcases Hob.out with e | ⟨g, e, hge⟩
              · rw [e] at hy; exact .inl (hvl.out y hy)
              · rw [e] at hy; cases hy; exact .inr (Nat.le_trans hs10c hge)
            have hb0 := HBl.out.cell 0 (v := .int .i64 (st.last + 1)) rfl
            have hfin : Hid (BaseG (fun x => S x ∨ (w.heap.size ≤ x ∧ (Value.slice q n cq).ownBlock ≠ some x)) wg B M1 M2 (.slice q n cq) st') := by
              have hS1 : ∀ x, S x → x < w.heap.size → (fun x => S x ∨ (w.heap.size ≤ x ∧ (Value.slice q n cq).ownBlock ≠ some x)) x := fun x hx _ => .inl hx
              refine ⟨by rw [Hadd.out.last]; exact HBl.out, ?_, ⟨f1, HM1.out, fun k => ?_⟩, HM2.out, fun m k hk => ?_, fun m k hk => ?_, fun k L hk y hy => ?_, fun k L hk => ?_, ?_, hn1, hn2, hn3, ⟨fun e => (hob2.out _ e).1 rfl, fun e => (hob2.out _ e).2.1 rfl, fun e => (hob2.out _ e).2.2 rfl⟩, fun x hx hm => ?_⟩
              · rw [Hadd.out.all]; simpa using HRW.out
              · by_cases hk : k = (h.s, (h.l.length : Int))
                · subst hk
                  rw [hf1, Hadd.out.here]
                  exact ⟨_, _, _, congrArg some Hvp.out, (HL.out.kp kr hLn.out).mono fun x hx hlt => hx.imp id fun hx => ⟨by omega, fun e => by have := hLb.out x e; omega⟩, by simp [HMe.out, HXe.out]⟩
                · rw [hf2 k hk, Hadd.out.pr k hk]
                  exact ((HRow.out k).kp kw HNB.out.sep).mono fun x hx _ => .inl hx
              · by_cases hm : m = st.last + 1
                · subst hm; rw [Hadd.out.its] at hk; cases hk; exact ⟨hs, by omega, by simp only; omega⟩
                · rw [Hadd.out.wh m hm] at hk; exact HNB.out.whk m k hk
              · by_cases hm : m = st.last + 1
                · subst hm; rw [Hadd.out.all]; simp
                · rw [Hadd.out.wh m hm] at hk; have := HNB.out.wha m k hk; rw [Hadd.out.all]; simp [this]
              · by_cases hk' : k = (h.s, (h.l.length : Int))
                · subst hk'
                  rw [Hadd.out.here] at hk
                  cases hk
                  have hnew : (h.erase.l.length : Int) = h.l.length := by rw [erase_l h, Tm.eraseL_length]
                  have hold : ∀ z ∈ (st.pr (h.s, (h.l.length : Int))).getD [], (z.h.l.length : Int) = h.l.length := fun z hz => by
                    cases hx : st.pr (h.s, (h.l.length : Int)) with
                    | none => rw [hx] at hz; cases hz
                    | some L => rw [hx] at hz; exact HNB.out.hds _ L hx z hz
                  simp at hy
                  rcases hy with hy | hy
                  all_goals first | exact hold y hy | (subst hy; exact hnew)
                · rw [Hadd.out.pr k hk'] at hk; exact HNB.out.hds k L hk y hy
              · rw [Hadd.out.last]
                by_cases hk' : k = (h.s, (h.l.length : Int))
                · subst hk'
                  rw [Hadd.out.here] at hk
                  cases hk
                  have h1 : M.length = ((st.pr (h.s, (h.l.length : Int))).getD []).length := by rw [← HMe.out, List.length_map]
                  simp
                  omega
                · rw [Hadd.out.pr k hk'] at hk; have := HNB.out.bdp k L hk; omega
              · rw [Hadd.out.last, Hadd.out.all]; have := HNB.out.bda; simp; omega
              · rcases hx with hx | ⟨hx, hx2⟩
                · rcases hm with hm | hm | hm | hm
                  · exact HNB.out.sep x hx (.inl hm)
                  · exact HNB.out.sep x hx (.inr (.inl hm))
                  · exact HNB.out.sep x hx (.inr (.inr (.inl hm)))
                  · rcases hown.out with e | ⟨g, e, hge⟩
                    · exact HNB.out.sep x hx (.inr (.inr (.inr (by rw [← e]; exact hm))))
                    · rw [e] at hm; cases hm; have := HS.out _ hx; omega
                · rcases hm with hm | hm | hm | hm
                  · omega
                  · omega
                  · omega
                  · exact hx2 hm
            simp only [finAll, Act.put, List.setIfInBounds_toArray, List.set_cons_succ, List.set_cons_zero, List.drop_succ_cons, List.drop_zero, List.take_zero]
            go_wp2_with fail
            exact hR.out _ _ hfin.out kw hown.out
end Go.Proofs.YtjdoflfdlhpbmaaGreat
