/-
  hornkeep.thereBase
-/
import Derived.Test.YtgaijgadeodoeaaWB
import Derived.Test.YtgaijgadeodoeaaWC
import Derived.Test.YtgaijgadeodoeaaT2
namespace Go.Proofs.Ytgaijgadeodoeaa
open Go.RowKit Go.Maps Go.Lib

theorem new_base (w : World) : NewBase (((w.alloc (.map #[] 0)).alloc (.map #[] 0)).alloc (.cells #[.int .i64 0, .slice none 0 0, .map (some w.heap.size), .map (some (w.heap.size + 1))] 107)) (w.heap.size + 1 + 1) w.heap.size (w.heap.size + 1) ∧ Gr w (((w.alloc (.map #[] 0)).alloc (.map #[] 0)).alloc (.cells #[.int .i64 0, .slice none 0 0, .map (some w.heap.size), .map (some (w.heap.size + 1))] 107)) := by
  have h1 : GMap 109 kPred (w.alloc (.map #[] 0)) w.heap.size fun _ => none := GMap.made _ _ _
  have h2 : GMap 3 kInt ((w.alloc (.map #[] 0)).alloc (.map #[] 0)) (w.alloc (.map #[] 0)).heap.size fun _ => none := GMap.made _ _ _
  have h3 := BlkT.new ((w.alloc (.map #[] 0)).alloc (.map #[] 0)) 107 #[.int .i64 0, .slice none 0 0, .map (some w.heap.size), .map (some (w.heap.size + 1))]
  rw [World.size_alloc] at h2
  rw [World.size_alloc, World.size_alloc] at h3
  exact ⟨⟨h3, h1.gr (by go_grown), h2.gr (by go_grown), by omega, by omega, by omega⟩, by go_grown⟩

set_option maxHeartbeats 8000000 in
set_option maxRecDepth 100000 in
theorem thereBase_calls (w : World) : Calls Try.prog 35 #[] w (Ret (.bool true) w) := by
  have hR : Hid (∀ b, true = b → ∀ w', Gr w w' → Ret (.bool true) w (.returned (.bool b)) w') := fun b hb w' hg => ⟨by rw [hb], hg⟩
  generalize hQ : Ret (.bool true) w = Q at hR ⊢
  clear hQ
  obtain ⟨hnb, gN⟩ := new_base w
  have HNB := Lib.hid hnb
  clear hnb
  have Hav := Lib.hid (show (atomTm ⟨#[112]⟩).val = .agg #[.int .i64 3, .int .i64 0, .string ⟨#[112]⟩, .slice none 0 0] from rfl)
  have hpe : Hid ((atomTm ⟨#[112]⟩).erase = atomT [112]) := by show _ = _; rw [atomTm_erase, ByteArray.toList_mk]
  have hpf : Hid ((atomT [112]).formed = true) := by show _ = _; exact formed_atom (by decide)
  go_enter Try.func35, Try.ntmps35
  try simp only [List.append_eq, List.cons_append, List.nil_append]
  go_upto_region 2 with (first
    | (go_at_call 38; refine (new_calls w).mono ?_; rintro e w' ⟨rfl, rfl⟩)
    | fail)
  generalize ((w.alloc (.map #[] 0)).alloc (.map #[] 0)).alloc (.cells #[.int .i64 0, .slice none 0 0, .map (some w.heap.size), .map (some (w.heap.size + 1))] 107) = w1 at *
  have hB0 : w.heap.size ≤ w.heap.size + 1 + 1 := by omega
  have hM2 : w.heap.size ≤ w.heap.size + 1 := by omega
  have hM1 : w.heap.size ≤ w.heap.size := Nat.le_refl _
  generalize w.heap.size + 1 + 1 = B at *
  generalize w.heap.size + 1 = M2 at *
  obtain ⟨M1, hM1e⟩ : ∃ M1, M1 = w.heap.size := ⟨_, rfl⟩
  replace HNB : Hid (NewBase w1 B M1 M2) := by rw [hM1e]; exact HNB
  replace hM1 : w.heap.size ≤ M1 := by omega
  clear hM1e
  go_upto_region 3 with (first
    | (go_at_call 56; refine (atomR_calls _ _).mono ?_; rintro e w2 ⟨rfl, hb⟩; have g2 : Gr w1 w2 := hb; clear hb)
    | (go_at_call 36; rewrite [← Hav.out]; refine (Make_calls (atomTm ⟨#[112]⟩) _ (atomTm_in (by decide) _)).mono ?_; rw [hpe.out, makeAns_some hpf.out make_p]; rintro e w3 ⟨hm, bm, rfl, hi, hi2, he, hb⟩; have g3 := g2.trans hb; have Hhm := Lib.hid hi; have Hbm := Lib.hid hi2; have He := Lib.hid he; rewrite [clVal_eq]; clear hi hi2 he hb)
    | fail)
  have he := He.out
  simp only [Prod.mk.injEq] at he
  have Eh := Lib.hid he.1
  have Eb := Lib.hid he.2
  clear he He
  obtain ⟨hms, hml⟩ := atom_parts (t := hm) (s := ⟨#[112]⟩) (by rw [Eh.out, ByteArray.toList_mk])
  have hbl := (atom_parts (t := bm) (s := ⟨#[116, 114, 117, 101]⟩) (by rw [Eb.out, blTrue])).2
  have Hms := Lib.hid hms
  have Hml := Lib.hid hml
  have Hbl := Lib.hid hbl
  clear hms hml hbl
  have Hcv := Lib.hid (clVal_eq hm bm)
  have Hmv := Lib.hid (show hm.val = .agg #[.int .i64 hm.k, .int .i64 hm.n, .string hm.s, .slice hm.p hm.l.length hm.c] from rfl)
  have hN : Blk8 (w3.alloc (.cells #[.int .i64 hm.k, .int .i64 hm.n, .string hm.s, .slice hm.p hm.l.length hm.c, .int .i64 bm.k, .int .i64 bm.n, .string bm.s, .slice bm.p bm.l.length bm.c] 57)) w3.heap.size (.int .i64 hm.k) (.int .i64 hm.n) (.string hm.s) (.slice hm.p hm.l.length hm.c) (.int .i64 bm.k) (.int .i64 bm.n) (.string bm.s) (.slice bm.p bm.l.length bm.c) := heap_alloc_new _ _
  have gA : Gr w3 (w3.alloc (.cells #[.int .i64 hm.k, .int .i64 hm.n, .string hm.s, .slice hm.p hm.l.length hm.c, .int .i64 bm.k, .int .i64 bm.n, .string bm.s, .slice bm.p bm.l.length bm.c] 57)) := by go_grown
  generalize w3.alloc (.cells #[.int .i64 hm.k, .int .i64 hm.n, .string hm.s, .slice hm.p hm.l.length hm.c, .int .i64 bm.k, .int .i64 bm.n, .string bm.s, .slice bm.p bm.l.length bm.c] 57) = w4 at *
  have HC := Lib.hid hN
  have g4 := g3.trans gA
  have hC3 : w1.heap.size ≤ w3.heap.size := g3.size
  generalize w3.heap.size = C at *
  clear hN
  have Hhm4 := Lib.hid (Tm.In_below gA Hhm.out)
  have Hbm4 := Lib.hid (Tm.In_below gA Hbm.out)
  have gw4 := gN.trans g4
  have hBl : B < w1.heap.size := HNB.out.blk.lt
  have hM1l : M1 < w1.heap.size := HNB.out.m1.lt
  have hM2l : M2 < w1.heap.size := HNB.out.m2.lt
  have fh : Hid (hm.erase.formed = true) := by show _ = _; rw [Eh.out]; exact hpf.out
  have fb : Hid (bm.erase.formed = true) := by show _ = _; rw [Eb.out]; exact formed_atom (by decide)
  have HNB4 : Hid (NewBase w4 B M1 M2) := ⟨HNB.out.blk.gr g4, HNB.out.m1.gr g4, HNB.out.m2.gr g4, HNB.out.n1, HNB.out.n2, HNB.out.n3⟩
  have hpl : Hid (plainErr reserved hm.erase bm.erase = 0) := by show _ = _; rw [Eh.out, Eb.out]; exact plainErr_made res_neck hpf.out make_p same_refl
  clear HNB g2 g3 gA Hhm Hbm
  obtain ⟨c0, c1, c2, c3, c4, c5, c6, c7⟩ := HC.out.cells
  go_upto_region 4 with (first
    | (go_at_call 39; rewrite [← Hcv.out]; refine (add_calls B M1 M2 hm bm false _ (fun _ => False) HNB4.out Hhm4.out Hbm4.out (on_nil Hml.out) (on_nil Hbl.out) (fun x h => h.elim) hpl.out fh.out fb.out (tm_small fh.out).1 (tm_small fh.out).2).mono ?_; rintro e w5 ⟨rfl, hone, hkp⟩; have HO := Lib.hid hone; have gw5 : Gr w w5 := Below.trans gw4 (hkp.below (B := w.heap.size) (fun x hx => by omega) gw4.size); replace HC := Lib.hid (HC.out.kp hkp (by omega)); have Hhm5 := Lib.hid (in_after' (S := fun _ => False) Hhm4.out (on_nil Hml.out) (W := w5) fun x h => h.elim); clear hone hkp c0 c1 c2 c3 c4 c5 c6 c7)
    | fail)
  have HO2 : Hid (OneBase w5 B M1 M2 (atomTm ⟨#[112]⟩).s (atomTm ⟨#[112]⟩).l.length hm.erase bm.erase) := by
    have h := HO.out
    rw [Hms.out, Hml.out] at h
    exact h
  have hcal : Hid ((atomTm ⟨#[112]⟩).erase.callable = true) := by show _ = _; rw [hpe.out]; rfl
  have hpf2 : Hid ((atomTm ⟨#[112]⟩).erase.formed = true) := by show _ = _; rw [hpe.out]; exact hpf.out
  go_upto_region 5 with (first
    | (go_at_call 56; refine (atomR_calls _ _).mono ?_; rintro e w6 ⟨rfl, hb⟩; have gw6 := gw5.trans hb; have HO6 := Lib.hid (HO2.out.gr hb); replace HC := Lib.hid (HC.out.gr hb); have Hhm6 := Lib.hid (Tm.In_below hb Hhm5.out); clear hb)
    | (go_at_call 80; rewrite [← Hav.out]; refine (look_calls B M1 M2 (atomTm ⟨#[112]⟩) hm.erase bm.erase _ HO6.out (atomTm_in (by decide) _) hpf2.out hcal.out rfl fh.out fb.out (by decide)).mono ?_; rintro e w7 ⟨q, cq, rfl, hb⟩; have gw7 := gw6.trans hb; replace HC := Lib.hid (HC.out.gr hb); have Hhm7 := Lib.hid (Tm.In_below hb Hhm6.out); clear hb)
    | fail)
  obtain ⟨c0, c1, c2, c3, _⟩ := HC.out.cells
  have hsm : Hid (T.same hm.erase (atomTm ⟨#[112]⟩).erase = true) := by show _ = _; rw [Eh.out, hpe.out]; exact same_refl _
  refine wp_region_rely [fx (.int .i64 0), fx (.bool true), fx (.bool true), fx (.pointer (some ⟨C, 0, none⟩)), fx hm.val, fx (atomTm ⟨#[112]⟩).val, fx (.bool true), fx (.bool true), fx (.bool true), fx (.int .i64 1), fx (.bool true), fx (.bool true), fx (.bool true), fx (.int .i64 0), fx (.bool true), fx (.bool true), fx (.bool true), fx (.int .i64 0), fx (.bool true), fx (.bool true), fx (.bool true), fx (.slice q 1 cq), fx (.int .i64 1), fx (.bool true), fx (.bool true), fx (.bool true)]
    (by kernel_rfl) (by kernel_rfl) (by repeat (first | exact Stable.nil | refine Stable.fix ?_)) ?_ ?_
  · refine ⟨?_, ?_, ?_, ?_, ?_, ?a5, ?a6, ?_, ?_, ?_, ?_, ?_, ?_, ?_, ?_, ?_, ?_, ?_, ?_, ?_, ?_, ?_, ?_, ?_, ?_, ?_, trivial⟩
    all_goals
      intro a wr hg hold
      have h2 : a.tmps[2]?.getD undef = .pointer (some ⟨C, 0, none⟩) := hold 2 rfl
      have h3 : a.tmps[3]?.getD undef = .int .i64 0 := hold 3 rfl
      have h4 : a.tmps[4]?.getD undef = .int .i64 1 := hold 4 rfl
      have h5 : a.tmps[5]?.getD undef = .int .i64 0 := hold 5 rfl
      have h6 : a.tmps[6]?.getD undef = .slice q 1 cq := hold 6 rfl
      have h7 : a.tmps[7]?.getD undef = .int .i64 0 := hold 7 rfl
      clear hold
      have x0 := Gr.at hg c0
      have x1 := Gr.at hg c1
      have x2 := Gr.at hg c2
      have x3 := Gr.at hg c3
      clear c0 c1 c2 c3
      simp [predsImp, Region.binds, dstAt, fx, wantedE, Act.eval]
      intros
      first
        | (rw [if_pos (by simp [*])]
           intro K hK)
        | (rename_i K hK)
      go_simp
    case a5 =>
      refine (atomR_calls _ _).mono ?_
      rintro e w10 ⟨rfl, hg2⟩
      exact hK _ _ rfl hg2
    case a6 =>
      refine (same_calls (t := hm) (u := atomTm ⟨#[112]⟩) (Tm.In_below hg Hhm7.out) (atomTm_in (by decide) _)).mono ?_
      rw [hsm.out]
      rintro e w10 ⟨rfl, hg2⟩
      exact hK _ _ rfl hg2
    all_goals exact hK _ _ rfl (Gr.rfl' _)
  · intro wd hg
    rintro _ rfl _ rfl _ rfl _ rfl _ rfl _ rfl _ rfl _ rfl _ rfl _ rfl _ rfl _ rfl _ rfl _ rfl _ rfl _ rfl _ rfl _ rfl _ rfl _ rfl _ rfl _ rfl _ rfl _ rfl _ rfl _ rfl
    have gD := gw7.trans hg
    simp only [finAll, Act.put, List.setIfInBounds_toArray, List.set_cons_succ, List.set_cons_zero, List.drop_succ_cons, List.drop_zero, List.take_zero]
    go_wp2_with fail
    exact hR.out _ rfl _ gD
end Go.Proofs.Ytgaijgadeodoeaa
