/-
  (*engine).support: a variable and the others.
  (*engine).support; the function that reduce hands to slices.DeleteFunc.
-/
import Derived.Test.YtbapmokbkjmdcaaDR08
namespace Go.Proofs.Ytbapmokbkjmdcaa
open Go.RowKit Go.Maps Go.Lib

set_option maxHeartbeats 8000000 in
set_option maxRecDepth 100000 in
theorem sup_cons (w1 : World) (e : Nat) (x : Cn) (D : List (List Int)) (N : Nat) (hx : x.In w1) (hok : x.con.ok N = true) (hN : D.length = N) (hD : EngD w1 e D) (hnear : ∀ d ∈ D, ∀ y ∈ d, Near y) (v : Int) (l : List Int) (ih : supOf w1 e x D l) : supOf w1 e x D (v :: l) := by
  intro g lp lc m w hl hm1 hw hm hg
  have hR : Hid (∀ bb, suppL D x.con (v :: l) g = bb → ∀ w', Kp (· = m) w w' → IMap w' m g → RetSup m g (suppL D x.con (v :: l) g) w (.returned (.bool bb)) w') := fun bb hb w' h k => ⟨by rw [hb], h, k⟩
  have HS := Lib.hid (show suppL D x.con (v :: l) g = if (g v).isSome then suppL D x.con l g else (dom D v).any fun n => !(decide (x.k = 2) && takenG x.con g n) && suppL D x.con l (updG g v n) from rfl)
  generalize RetSup m g (suppL D x.con (v :: l) g) w = Q at hR ⊢
  generalize suppL D x.con (v :: l) g = r at *
  obtain ⟨b, o, rfl, hbl, hc0, htail⟩ := hl.tail
  have hlc := hl.1
  have hcc := hl.2.1
  have hvin : v ∈ x.vs := hg.sub v (List.mem_cons_self ..)
  have hv64 : In64 v := hl.2.2.1 v (List.mem_cons_self ..)
  have hv0 := Con.ok_var hok hvin
  have HX1 := Lib.hid hx
  have HM := Lib.hid hm
  have HGG := Lib.hid hg
  have Hok := Lib.hid hok
  have HW := Lib.hid hw
  have HM1 := Lib.hid hm1
  have IH := Lib.hid ih
  have HT := Lib.hid htail
  have HD := Lib.hid hD
  have HNear := Lib.hid hnear
  have HV64 := Lib.hid hv64
  have HV0 := Lib.hid hv0
  have HN := Lib.hid hN
  have HML := Lib.hid (show m < w.heap.size from GMap.lt hm)
  have C0 := Lib.hid hc0
  clear hx hl hm1 hw hm hg hok ih htail hD hnear hN hvin hv64 hv0 hbl
  rw [show x.val = .agg #[.int .i64 x.k, .slice x.vp x.vs.length x.vc, .slice x.cp x.cs.length x.cc, .int .i64 x.op, .int .i64 x.c] from rfl]
  have HVal := Lib.hid (show x.val = .agg #[.int .i64 x.k, .slice x.vp x.vs.length x.vc, .slice x.cp x.cs.length x.cc, .int .i64 x.op, .int .i64 x.c] from rfl)
  have hlen : (v :: l).length = l.length + 1 := rfl
  rw [hlen] at hlc ⊢
  clear hlen
  go_enter Try.func54, Try.ntmps54
  try simp only [List.append_eq, List.cons_append, List.nil_append]
  go_upto_region 1 with fail
  have hB := (CnBlk.new w x).gr (w' := (w.alloc (.cells #[.int .i64 x.k, .slice x.vp x.vs.length x.vc, .slice x.cp x.cs.length x.cc, .int .i64 x.op, .int .i64 x.c] 42)).alloc (.cells #[.map (some m)] 80)) (by go_grown)
  have hC : BlkT ((w.alloc (.cells #[.int .i64 x.k, .slice x.vp x.vs.length x.vc, .slice x.cp x.cs.length x.cc, .int .i64 x.op, .int .i64 x.c] 42)).alloc (.cells #[.map (some m)] 80)) (w.heap.size + 1) 80 #[.map (some m)] := by
    have := BlkT.new (w.alloc (.cells #[.int .i64 x.k, .slice x.vp x.vs.length x.vc, .slice x.cp x.cs.length x.cc, .int .i64 x.op, .int .i64 x.c] 42)) 80 #[.map (some m)]
    rwa [World.size_alloc] at this
  have gA : Gr w ((w.alloc (.cells #[.int .i64 x.k, .slice x.vp x.vs.length x.vc, .slice x.cp x.cs.length x.cc, .int .i64 x.op, .int .i64 x.c] 42)).alloc (.cells #[.map (some m)] 80)) := by go_grown
  generalize ((w.alloc (.cells #[.int .i64 x.k, .slice x.vp x.vs.length x.vc, .slice x.cp x.cs.length x.cc, .int .i64 x.op, .int .i64 x.c] 42)).alloc (.cells #[.map (some m)] 80)) = wA at *
  have HB := Lib.hid hB
  have HC := Lib.hid (show MBlk wA (w.heap.size + 1) m from hC)
  have HG := Lib.hid gA
  obtain ⟨b0, b1, b2, b3, b4⟩ := hB.cells
  have k0 := HC.out.at0
  have c0 := Gr.at gA (HW.out.at C0.out)
  have hlk := fun q : Nat => ((HM.out.gr (gA.drewN q)).run HV64.out).2
  have i0 : (0 : Int) < ((l.length + 1 : Nat) : Int) := by omega
  have n0 : 0 < l.length + 1 := by omega
  clear hB hC gA
  obtain ⟨gs, hgs⟩ : ∃ gs, (g v).isSome = gs := ⟨_, rfl⟩
  rw [hgs] at hlk
  have HGS := Lib.hid hgs
  rw [hgs] at HS
  have hnil : ((((l.length + 1 : Nat) : Int)) == 0) = false := beq_eq_false_iff_ne.2 (by omega)
  have hnil2 : ((((l.length : Int) + 1)) == 0) = false := beq_eq_false_iff_ne.2 (by omega)
  clear hgs
  cases gs with
  | true =>
    go_upto_region 3 with fail
    go_quiet (fail)
    go_upto_region 5 with fail
    have gq : Gr wA (wA.drewN nq) := (Gr.rfl' _).drewN nq
    have GQ := Lib.hid gq
    have p0 := Gr.at gq b0
    have p1 := Gr.at gq b1
    have p2 := Gr.at gq b2
    have p3 := Gr.at gq b3
    have p4 := Gr.at gq b4
    have pk := Gr.at gq k0
    clear b0 b1 b2 b3 b4 k0 c0 hlk gq
    generalize wA.drewN nq = wq at *
    have h1l : (1 : Int) ≤ (l.length : Int) + 1 := by omega
    obtain ⟨pq, hpq⟩ : ∃ pq : Option Addr, (if lc = 1 then some ⟨b, o, none⟩ else some ⟨b, o + 1, none⟩) = pq := ⟨_, rfl⟩
    refine wp_region_rely_tail 5 [fx (.pointer (some ⟨e, 0, none⟩)), fx (.agg #[.int .i64 x.k, .slice x.vp x.vs.length x.vc, .slice x.cp x.cs.length x.cc, .int .i64 x.op, .int .i64 x.c]), fx (.slice (some ⟨b, o, none⟩) (l.length + 1) lc), fx (.slice pq l.length (lc - 1)), fx (.map (some m))]
      (by kernel_rfl) (by kernel_rfl) (by decide) (by repeat (first | exact Stable.nil | refine Stable.fix ?_)) ?_ ?_
    · refine ⟨?_, ?_, ?_, ?_, ?_, trivial⟩
      all_goals
        intro fr wz hg hold
        have h0 : fr.tmps[0]?.getD undef = .pointer (some ⟨e, 0, none⟩) := hold 0 rfl
        have h2 : fr.tmps[2]?.getD undef = .slice (some ⟨b, o, none⟩) (l.length + 1) lc := hold 2 rfl
        have h5 : fr.tmps[5]?.getD undef = .pointer (some ⟨w.heap.size, 0, none⟩) := hold 5 rfl
        have h7 : fr.tmps[7]?.getD undef = .pointer (some ⟨w.heap.size + 1, 0, none⟩) := hold 7 rfl
        clear hold
        have q0 := Gr.at hg p0
        have q1 := Gr.at hg p1
        have q2 := Gr.at hg p2
        have q3 := Gr.at hg p3
        have q4 := Gr.at hg p4
        have qk := Gr.at hg pk
        simp [predsImp, Region.binds, dstAt, fx]
        intros
        first
          | (rw [if_pos (by simp [*])]
             intro K hK)
          | (rename_i K hK)
        go_simp
      all_goals exact hK _ _ rfl (Gr.rfl' _)
    · intro wz hg
      rintro _ rfl _ rfl _ rfl _ rfl _ rfl
      simp only [finAll, Act.put, List.setIfInBounds_toArray, List.set_cons_succ, List.set_cons_zero, List.drop_succ_cons, List.drop_zero, List.take_zero]
      clear p0 p1 p2 p3 p4 pk
      rewrite [← HVal.out]
      have Hc := Lib.hid (IH.out g pq (lc - 1) m wz (HT.out pq hpq.symm) HM1.out (HW.out.trans (HG.out.trans (GQ.out.trans hg))) (HM.out.gr (HG.out.trans (GQ.out.trans hg))) (HGG.out.skip HGS.out))
      have HGz := Lib.hid (HG.out.trans (GQ.out.trans hg))
      clear hg
      go_wp2_with (first
        | (go_at_call 54; refine Hc.out.mono ?_; rintro e w5 ⟨rfl, hkp, hmm⟩; have HKP := Lib.hid hkp; have HMM := Lib.hid hmm; clear hkp hmm)
        | fail)
      exact hR.out _ HS.out _ ((Kp.of_gr HGz.out).trans HKP.out) HMM.out
  | false =>
    have hgn : Hid (g v = none) := by
      show _ = _
      cases hgv : g v with
      | none => rfl
      | some z => have := HGS.out; rw [hgv] at this; cases this
    go_upto_region 3 with fail
    go_quiet (fail)
    go_upto_region 6 with fail
    have gq0 : Gr wA (wA.drewN nq) := (Gr.rfl' _).drewN nq
    have GQ := Lib.hid gq0
    clear hlk
    have e0 := Gr.at gq0 c0
    generalize wA.drewN nq = wQ at *
    obtain ⟨dp, dcp, hd1, hd2, hd3, hd4⟩ := HD.out
    obtain ⟨d, hd⟩ : ∃ d, D[v.toNat]? = some d := ⟨_, List.getElem?_eq_getElem (by have := HV0.out; have := HN.out; omega)⟩
    obtain ⟨bD, oD, rfl, hbD, hrows⟩ := hd4.resolve_left (by intro e0; rw [e0] at hd; simp at hd)
    obtain ⟨rq, rc, hrow, hsl⟩ := hrows _ d hd
    have hdom : Hid (dom D v = d) := by show _ = _; rw [dom, List.getD_eq_getElem?_getD, hd]; rfl
    have HSl := Lib.hid hsl
    have r0 := Gr.at GQ.out (Gr.at HG.out (HW.out.at hd1))
    have r1 := Gr.at GQ.out (Gr.at HG.out (HW.out.at hrow))
    have hvl : v < (D.length : Int) := by have := HV0.out; have := HN.out; omega
    have hv0' : 0 ≤ v := HV0.out.1
    have hdl : d.length ≤ rc := hsl.1
    have hrc : rc ≤ 9223372036854775807 := hsl.2.1
    have HNd := Lib.hid (HNear.out d (List.mem_of_getElem? hd))
    clear hd hrows hsl hd1 hrow c0 gq0
    have c0 := e0
    clear e0
    go_quiet (fail)
    go_upto_region 7 with fail
    replace GQ := Lib.hid (GQ.out.drewN nq)
    generalize wQ.drewN nq = wB at *
    have HGB := Lib.hid (show Gr w wB from HG.out.trans GQ.out)
    have HWK : Hid (∀ W, Kp (· = m) wB W → Gr w1 W) := fun W hk => Below.trans (HW.out.trans HGB.out) (hk.below (B := w1.heap.size) (fun b hb => by rw [hb]; exact HM1.out) (HW.out.trans HGB.out).size)
    have HBm : Hid (¬ w.heap.size = m) := fun h => by have := HML.out; omega
    have HCm : Hid (¬ w.heap.size + 1 = m) := fun h => by have := HML.out; omega
    obtain ⟨pq, hpq0⟩ : ∃ pq : Option Addr, (if lc = 1 then some ⟨b, o, none⟩ else some ⟨b, o + 1, none⟩) = pq := ⟨_, rfl⟩
    have hpq := Lib.hid hpq0
    have h1l : (1 : Int) ≤ (l.length : Int) + 1 := by omega
    have HSF := Lib.hid (show r = d.any fun n => !(decide (x.k = 2) && takenG x.con g n) && suppL D x.con l (updG g v n) from HS.out.trans (by rw [if_neg (by decide), hdom.out]))
    have HMB := Lib.hid (HM.out.gr HGB.out)
    clear b0 b1 b2 b3 b4 k0 c0 r0 r1 hvl hv0' hdom hbD hd2 hd3 hpq0
    go_loopg [44] d.length (fun k i wr => ∃ j : Nat, j ≤ d.length ∧ k = d.length - j ∧ i = .int .i64 j ∧ Hid (Kp (· = m) wB wr) ∧ Hid (IMap wr m g) ∧ Hid (∀ i n, i < j → d[i]? = some n → (!(decide (x.k = 2) && takenG x.con g n) && suppL D x.con l (updG g v n)) = false))
    case atStart => exact ⟨0, Nat.zero_le _, rfl, rfl, Kp.refl _ _, HMB, fun i _ hi => by omega⟩
    case round =>
      obtain ⟨j, hj, rfl, rfl, HKr, HMr, hno⟩ := hrel
      by_cases hlt : j < d.length
      · obtain ⟨n, hn⟩ : ∃ n, d[j]? = some n := ⟨_, List.getElem?_eq_getElem hlt⟩
        obtain ⟨b', o', rfl, _, hr'⟩ := (HSl.out.mono (HWK.out _ HKr.out)).ptr (by omega)
        have d0 := hr' j _ hn
        have hnn := Lib.hid (HNd.out n (List.mem_of_getElem? hn))
        have HTrue : Hid ((decide (x.k = 2) && takenG x.con g n) = false → suppL D x.con l (updG g v n) = true → r = true) := fun h1 h2 => by
          rw [HSF.out, List.any_eq_true]
          exact ⟨n, List.mem_of_getElem? hn, by rw [h1, h2]; rfl⟩
        have HNext : Hid ((!(decide (x.k = 2) && takenG x.con g n) && suppL D x.con l (updG g v n)) = false → Hid (∀ i z, i < j + 1 → d[i]? = some z → (!(decide (x.k = 2) && takenG x.con g z) && suppL D x.con l (updG g v z)) = false)) := fun h1 i z hi hz => by
          by_cases hik : i = j
          · subst hik
            rw [hn] at hz
            cases hz
            exact h1
          · exact hno.out i z (by omega) hz
        clear hr' hn
        obtain ⟨p0, p1, p2, p3, p4⟩ := ((HB.out.gr GQ.out).kp HKr.out HBm.out).cells
        have pk := ((HC.out.gr GQ.out).kp HKr.out HCm.out).at0
        have pc := (show Gr w1 wr from HWK.out _ HKr.out).at C0.out
        by_cases hk2 : x.k = 2
        · obtain ⟨tk, htk⟩ : ∃ tk, takenG x.con g n = tk := ⟨_, rfl⟩
          have Hc2 := Lib.hid (taken_calls x m g n wr (HX1.out.mono (HWK.out _ HKr.out)) HMr.out)
          rw [htk] at Hc2
          rewrite [HVal.out] at Hc2
          have hkb : (x.k == 2) = true := beq_iff_eq.2 hk2
          have HK2 := Lib.hid hk2
          clear hk2
          cases tk with
          | true =>
            have HNT := Lib.hid (HNext.out (by rw [decide_eq_true HK2.out, htk]; rfl))
            clear htk
            go_wp2_with (first
              | (go_at_call 63; refine Hc2.out.mono ?_; rintro e w4 ⟨rfl, hb⟩; have HK4 := Lib.hid (HKr.out.trans (Kp.of_gr hb)); have HS4 := Lib.hid (HMr.out.gr hb); clear hb p0 p1 p2 p3 p4 pk pc)
              | fail)
            go_roundg (d.length - (j + 1))
            case measure => omega
            case rel => exact ⟨j + 1, by omega, rfl, by go_num, HK4, HS4, HNT.out⟩
          | false =>
            have HNT : Hid ((decide (x.k = 2) && takenG x.con g n) = false) := by show _ = _; rw [decide_eq_true HK2.out, htk]; rfl
            clear htk
            go_upto_region 10 with (first
              | (go_at_call 63; refine Hc2.out.mono ?_; rintro e w4 ⟨rfl, hb⟩; have HK4 := Lib.hid (HKr.out.trans (Kp.of_gr hb)); have HS4 := Lib.hid (HMr.out.gr hb); clear hb p0 p1 p2 p3 p4 pk pc)
              | fail)
            clear hkb
            replace HKr := HK4
            replace HMr := HS4
            clear HK4 HS4
            obtain ⟨p0, p1, p2, p3, p4⟩ := ((HB.out.gr GQ.out).kp HKr.out HBm.out).cells
            have pk := ((HC.out.gr GQ.out).kp HKr.out HCm.out).at0
            have pc := (show Gr w1 w4 from HWK.out _ HKr.out).at C0.out
            refine wp_region_rely_tail 5 [fx (.map (some m)), fx (.slice (some ⟨b, o, none⟩) (l.length + 1) lc), fx (.pointer (some ⟨b, o, none⟩)), fx (.int .i64 v), fx (.int .i64 n)]
              (by kernel_rfl) (by kernel_rfl) (by decide) (by repeat (first | exact Stable.nil | refine Stable.fix ?_)) ?_ ?_
            · refine ⟨?_, ?_, ?_, ?_, ?_, trivial⟩
              all_goals
                intro fr wz hg hold
                have h2 : fr.tmps[2]?.getD undef = .slice (some ⟨b, o, none⟩) (l.length + 1) lc := hold 2 rfl
                have h7 : fr.tmps[7]?.getD undef = .pointer (some ⟨w.heap.size + 1, 0, none⟩) := hold 7 rfl
                have h12 : fr.tmps[12]?.getD undef = .int .i64 n := hold 12 rfl
                clear hold
                have qk := Gr.at hg pk
                have qc := Gr.at hg pc
                simp [predsImp, Region.binds, dstAt, fx]
                intros
                first
                  | (rw [if_pos (by simp [*])]
                     intro K hK)
                  | (rename_i K hK)
                go_simp
              all_goals exact hK _ _ rfl (Gr.rfl' _)
            · intro w5 hg
              rintro _ rfl _ rfl _ rfl _ rfl _ rfl
              simp only [finAll, Act.put, List.setIfInBounds_toArray, List.set_cons_succ, List.set_cons_zero, List.drop_succ_cons, List.drop_zero, List.take_zero]
              obtain ⟨w6, hup, hs6, hgb6⟩ := (HMr.out.gr hg).put HV64.out n
              have HK6 := Lib.hid ((HKr.out.trans (Kp.of_gr hg)).trans (Kp.of_grownBy (C := (· = m)) hgb6 rfl))
              have HS6 := Lib.hid hs6
              clear hgb6 hs6 hg p0 p1 p2 p3 p4 pk pc
              obtain ⟨p0, p1, p2, p3, p4⟩ := ((HB.out.gr GQ.out).kp HK6.out HBm.out).cells
              have pk := ((HC.out.gr GQ.out).kp HK6.out HCm.out).at0
              have pc := (show Gr w1 w6 from HWK.out _ HK6.out).at C0.out
              go_upto_region 11 with fail
              clear hup
              refine wp_region_rely_tail 5 [fx (.pointer (some ⟨e, 0, none⟩)), fx (.agg #[.int .i64 x.k, .slice x.vp x.vs.length x.vc, .slice x.cp x.cs.length x.cc, .int .i64 x.op, .int .i64 x.c]), fx (.slice (some ⟨b, o, none⟩) (l.length + 1) lc), fx (.slice pq l.length (lc - 1)), fx (.map (some m))]
                (by kernel_rfl) (by kernel_rfl) (by decide) (by repeat (first | exact Stable.nil | refine Stable.fix ?_)) ?_ ?_
              · refine ⟨?_, ?_, ?_, ?_, ?_, trivial⟩
                all_goals
                  intro fr wz hg hold
                  have h0 : fr.tmps[0]?.getD undef = .pointer (some ⟨e, 0, none⟩) := hold 0 rfl
                  have h5 : fr.tmps[5]?.getD undef = .pointer (some ⟨w.heap.size, 0, none⟩) := hold 5 rfl
                  have hpq1 := hpq.out
                  have h2 : fr.tmps[2]?.getD undef = .slice (some ⟨b, o, none⟩) (l.length + 1) lc := hold 2 rfl
                  have h7 : fr.tmps[7]?.getD undef = .pointer (some ⟨w.heap.size + 1, 0, none⟩) := hold 7 rfl
                  clear hold
                  have q0 := Gr.at hg p0
                  have q1 := Gr.at hg p1
                  have q2 := Gr.at hg p2
                  have q3 := Gr.at hg p3
                  have q4 := Gr.at hg p4
                  have qk := Gr.at hg pk
                  have qc := Gr.at hg pc
                  simp [predsImp, Region.binds, dstAt, fx]
                  intros
                  first
                    | (rw [if_pos (by simp [*])]
                       intro K hK)
                    | (rename_i K hK)
                  go_simp
                all_goals exact hK _ _ rfl (Gr.rfl' _)
              · intro w7 hg
                rintro _ rfl _ rfl _ rfl _ rfl _ rfl
                simp only [finAll, Act.put, List.setIfInBounds_toArray, List.set_cons_succ, List.set_cons_zero, List.drop_succ_cons, List.drop_zero, List.take_zero]
                clear p0 p1 p2 p3 p4 pk pc
                have hK7 : Kp (· = m) wB w7 := HK6.out.trans (Kp.of_gr hg)
                have HK7 := Lib.hid hK7
                have Hc := Lib.hid (IH.out (updG g v n) pq (lc - 1) m w7 (HT.out pq hpq.out.symm) HM1.out (HWK.out _ hK7) (HS6.out.gr hg) (HGG.out.give hnn.out))
                clear hg hK7
                rewrite [← HVal.out]
                obtain ⟨ss, hss⟩ : ∃ ss, suppL D x.con l (updG g v n) = ss := ⟨_, rfl⟩
                rw [hss] at Hc
                have HSS := Lib.hid hss
                clear hss
                cases ss with
                | true =>
                  go_upto_region 12 with (first
                    | (go_at_call 54; refine Hc.out.mono ?_; rintro e w8 ⟨rfl, hkp, hmm8⟩; have HK8 := Lib.hid (HK7.out.trans hkp); have HM8 := Lib.hid hmm8; clear hkp hmm8)
                    | fail)
                  obtain ⟨p0, p1, p2, p3, p4⟩ := ((HB.out.gr GQ.out).kp HK8.out HBm.out).cells
                  have pk := ((HC.out.gr GQ.out).kp HK8.out HCm.out).at0
                  have pc := (show Gr w1 w8 from HWK.out _ HK8.out).at C0.out
                  refine wp_region_rely_tail 4 [fx (.map (some m)), fx (.slice (some ⟨b, o, none⟩) (l.length + 1) lc), fx (.pointer (some ⟨b, o, none⟩)), fx (.int .i64 v)]
                    (by kernel_rfl) (by kernel_rfl) (by decide) (by repeat (first | exact Stable.nil | refine Stable.fix ?_)) ?_ ?_
                  · refine ⟨?_, ?_, ?_, ?_, trivial⟩
                    all_goals
                      intro fr wz hg hold
                      have h2 : fr.tmps[2]?.getD undef = .slice (some ⟨b, o, none⟩) (l.length + 1) lc := hold 2 rfl
                      have h7 : fr.tmps[7]?.getD undef = .pointer (some ⟨w.heap.size + 1, 0, none⟩) := hold 7 rfl
                      clear hold
                      have qk := Gr.at hg pk
                      have qc := Gr.at hg pc
                      simp [predsImp, Region.binds, dstAt, fx]
                      intros
                      first
                        | (rw [if_pos (by simp [*])]
                           intro K hK)
                        | (rename_i K hK)
                      go_simp
                    all_goals exact hK _ _ rfl (Gr.rfl' _)
                  · intro w9 hg
                    rintro _ rfl _ rfl _ rfl _ rfl
                    simp only [finAll, Act.put, List.setIfInBounds_toArray, List.set_cons_succ, List.set_cons_zero, List.drop_succ_cons, List.drop_zero, List.take_zero]
                    obtain ⟨w10, hdel, hs10, hgb10⟩ := (HM8.out.gr hg).del HV64.out hgn.out 0
                    have HK10 := Lib.hid ((HK8.out.trans (Kp.of_gr hg)).trans (Kp.of_grownBy (C := (· = m)) hgb10 rfl))
                    have HS10 := Lib.hid hs10
                    clear hgb10 hs10 hg p0 p1 p2 p3 p4 pk pc
                    go_wp2_with fail
                    exact hR.out true (HTrue.out HNT.out HSS.out) _ ((Kp.of_gr HGB.out).trans HK10.out) HS10.out
                | false =>
                  go_upto_region 14 with (first
                    | (go_at_call 54; refine Hc.out.mono ?_; rintro e w8 ⟨rfl, hkp, hmm8⟩; have HK8 := Lib.hid (HK7.out.trans hkp); have HM8 := Lib.hid hmm8; clear hkp hmm8)
                    | fail)
                  obtain ⟨p0, p1, p2, p3, p4⟩ := ((HB.out.gr GQ.out).kp HK8.out HBm.out).cells
                  have pk := ((HC.out.gr GQ.out).kp HK8.out HCm.out).at0
                  have pc := (show Gr w1 w8 from HWK.out _ HK8.out).at C0.out
                  refine wp_region_rely_tail 4 [fx (.map (some m)), fx (.slice (some ⟨b, o, none⟩) (l.length + 1) lc), fx (.pointer (some ⟨b, o, none⟩)), fx (.int .i64 v)]
                    (by kernel_rfl) (by kernel_rfl) (by decide) (by repeat (first | exact Stable.nil | refine Stable.fix ?_)) ?_ ?_
                  · refine ⟨?_, ?_, ?_, ?_, trivial⟩
                    all_goals
                      intro fr wz hg hold
                      have h2 : fr.tmps[2]?.getD undef = .slice (some ⟨b, o, none⟩) (l.length + 1) lc := hold 2 rfl
                      have h7 : fr.tmps[7]?.getD undef = .pointer (some ⟨w.heap.size + 1, 0, none⟩) := hold 7 rfl
                      clear hold
                      have qk := Gr.at hg pk
                      have qc := Gr.at hg pc
                      simp [predsImp, Region.binds, dstAt, fx]
                      intros
                      first
                        | (rw [if_pos (by simp [*])]
                           intro K hK)
                        | (rename_i K hK)
                      go_simp
                    all_goals exact hK _ _ rfl (Gr.rfl' _)
                  · intro w9 hg
                    rintro _ rfl _ rfl _ rfl _ rfl
                    simp only [finAll, Act.put, List.setIfInBounds_toArray, List.set_cons_succ, List.set_cons_zero, List.drop_succ_cons, List.drop_zero, List.take_zero]
                    obtain ⟨w10, hdel, hs10, hgb10⟩ := (HM8.out.gr hg).del HV64.out hgn.out 0
                    have HK10 := Lib.hid ((HK8.out.trans (Kp.of_gr hg)).trans (Kp.of_grownBy (C := (· = m)) hgb10 rfl))
                    have HS10 := Lib.hid hs10
                    clear hgb10 hs10 hg p0 p1 p2 p3 p4 pk pc
                    go_wp2_with fail
                    go_roundg (d.length - (j + 1))
                    case measure => omega
                    case rel => exact ⟨j + 1, by omega, rfl, by go_num, HK10, HS10, HNext.out (by rw [HSS.out, Bool.and_false])⟩
        · have HNT : Hid ((decide (x.k = 2) && takenG x.con g n) = false) := by show _ = _; rw [decide_eq_false hk2]; rfl
          have hkb : (x.k == 2) = false := beq_eq_false_iff_ne.2 hk2
          go_upto_region 10 with fail
          refine wp_region_rely_tail 5 [fx (.map (some m)), fx (.slice (some ⟨b, o, none⟩) (l.length + 1) lc), fx (.pointer (some ⟨b, o, none⟩)), fx (.int .i64 v), fx (.int .i64 n)]
            (by kernel_rfl) (by kernel_rfl) (by decide) (by repeat (first | exact Stable.nil | refine Stable.fix ?_)) ?_ ?_
          · refine ⟨?_, ?_, ?_, ?_, ?_, trivial⟩
            all_goals
              intro fr wz hg hold
              have h2 : fr.tmps[2]?.getD undef = .slice (some ⟨b, o, none⟩) (l.length + 1) lc := hold 2 rfl
              have h7 : fr.tmps[7]?.getD undef = .pointer (some ⟨w.heap.size + 1, 0, none⟩) := hold 7 rfl
              have h12 : fr.tmps[12]?.getD undef = .int .i64 n := hold 12 rfl
              clear hold
              have qk := Gr.at hg pk
              have qc := Gr.at hg pc
              simp [predsImp, Region.binds, dstAt, fx]
              intros
              first
                | (rw [if_pos (by simp [*])]
                   intro K hK)
                | (rename_i K hK)
              go_simp
            all_goals exact hK _ _ rfl (Gr.rfl' _)
          · intro w5 hg
            rintro _ rfl _ rfl _ rfl _ rfl _ rfl
            simp only [finAll, Act.put, List.setIfInBounds_toArray, List.set_cons_succ, List.set_cons_zero, List.drop_succ_cons, List.drop_zero, List.take_zero]
            obtain ⟨w6, hup, hs6, hgb6⟩ := (HMr.out.gr hg).put HV64.out n
            have HK6 := Lib.hid ((HKr.out.trans (Kp.of_gr hg)).trans (Kp.of_grownBy (C := (· = m)) hgb6 rfl))
            have HS6 := Lib.hid hs6
            clear hgb6 hs6 hg p0 p1 p2 p3 p4 pk pc
            obtain ⟨p0, p1, p2, p3, p4⟩ := ((HB.out.gr GQ.out).kp HK6.out HBm.out).cells
            have pk := ((HC.out.gr GQ.out).kp HK6.out HCm.out).at0
            have pc := (show Gr w1 w6 from HWK.out _ HK6.out).at C0.out
            go_upto_region 11 with fail
            clear hup
            refine wp_region_rely_tail 5 [fx (.pointer (some ⟨e, 0, none⟩)), fx (.agg #[.int .i64 x.k, .slice x.vp x.vs.length x.vc, .slice x.cp x.cs.length x.cc, .int .i64 x.op, .int .i64 x.c]), fx (.slice (some ⟨b, o, none⟩) (l.length + 1) lc), fx (.slice pq l.length (lc - 1)), fx (.map (some m))]
              (by kernel_rfl) (by kernel_rfl) (by decide) (by repeat (first | exact Stable.nil | refine Stable.fix ?_)) ?_ ?_
            · refine ⟨?_, ?_, ?_, ?_, ?_, trivial⟩
              all_goals
                intro fr wz hg hold
                have h0 : fr.tmps[0]?.getD undef = .pointer (some ⟨e, 0, none⟩) := hold 0 rfl
                have h5 : fr.tmps[5]?.getD undef = .pointer (some ⟨w.heap.size, 0, none⟩) := hold 5 rfl
                have hpq1 := hpq.out
                have h2 : fr.tmps[2]?.getD undef = .slice (some ⟨b, o, none⟩) (l.length + 1) lc := hold 2 rfl
                have h7 : fr.tmps[7]?.getD undef = .pointer (some ⟨w.heap.size + 1, 0, none⟩) := hold 7 rfl
                clear hold
                have q0 := Gr.at hg p0
                have q1 := Gr.at hg p1
                have q2 := Gr.at hg p2
                have q3 := Gr.at hg p3
                have q4 := Gr.at hg p4
                have qk := Gr.at hg pk
                have qc := Gr.at hg pc
                simp [predsImp, Region.binds, dstAt, fx]
                intros
                first
                  | (rw [if_pos (by simp [*])]
                     intro K hK)
                  | (rename_i K hK)
                go_simp
              all_goals exact hK _ _ rfl (Gr.rfl' _)
            · intro w7 hg
              rintro _ rfl _ rfl _ rfl _ rfl _ rfl
              simp only [finAll, Act.put, List.setIfInBounds_toArray, List.set_cons_succ, List.set_cons_zero, List.drop_succ_cons, List.drop_zero, List.take_zero]
              clear p0 p1 p2 p3 p4 pk pc
              have hK7 : Kp (· = m) wB w7 := HK6.out.trans (Kp.of_gr hg)
              have HK7 := Lib.hid hK7
              have Hc := Lib.hid (IH.out (updG g v n) pq (lc - 1) m w7 (HT.out pq hpq.out.symm) HM1.out (HWK.out _ hK7) (HS6.out.gr hg) (HGG.out.give hnn.out))
              clear hg hK7
              rewrite [← HVal.out]
              obtain ⟨ss, hss⟩ : ∃ ss, suppL D x.con l (updG g v n) = ss := ⟨_, rfl⟩
              rw [hss] at Hc
              have HSS := Lib.hid hss
              clear hss
              cases ss with
              | true =>
                go_upto_region 12 with (first
                  | (go_at_call 54; refine Hc.out.mono ?_; rintro e w8 ⟨rfl, hkp, hmm8⟩; have HK8 := Lib.hid (HK7.out.trans hkp); have HM8 := Lib.hid hmm8; clear hkp hmm8)
                  | fail)
                obtain ⟨p0, p1, p2, p3, p4⟩ := ((HB.out.gr GQ.out).kp HK8.out HBm.out).cells
                have pk := ((HC.out.gr GQ.out).kp HK8.out HCm.out).at0
                have pc := (show Gr w1 w8 from HWK.out _ HK8.out).at C0.out
                refine wp_region_rely_tail 4 [fx (.map (some m)), fx (.slice (some ⟨b, o, none⟩) (l.length + 1) lc), fx (.pointer (some ⟨b, o, none⟩)), fx (.int .i64 v)]
                  (by kernel_rfl) (by kernel_rfl) (by decide) (by repeat (first | exact Stable.nil | refine Stable.fix ?_)) ?_ ?_
                · refine ⟨?_, ?_, ?_, ?_, trivial⟩
                  all_goals
                    intro fr wz hg hold
                    have h2 : fr.tmps[2]?.getD undef = .slice (some ⟨b, o, none⟩) (l.length + 1) lc := hold 2 rfl
                    have h7 : fr.tmps[7]?.getD undef = .pointer (some ⟨w.heap.size + 1, 0, none⟩) := hold 7 rfl
                    clear hold
                    have qk := Gr.at hg pk
                    have qc := Gr.at hg pc
                    simp [predsImp, Region.binds, dstAt, fx]
                    intros
                    first
                      | (rw [if_pos (by simp [*])]
                         intro K hK)
                      | (rename_i K hK)
                    go_simp
                  all_goals exact hK _ _ rfl (Gr.rfl' _)
                · intro w9 hg
                  rintro _ rfl _ rfl _ rfl _ rfl
                  simp only [finAll, Act.put, List.setIfInBounds_toArray, List.set_cons_succ, List.set_cons_zero, List.drop_succ_cons, List.drop_zero, List.take_zero]
                  obtain ⟨w10, hdel, hs10, hgb10⟩ := (HM8.out.gr hg).del HV64.out hgn.out 0
                  have HK10 := Lib.hid ((HK8.out.trans (Kp.of_gr hg)).trans (Kp.of_grownBy (C := (· = m)) hgb10 rfl))
                  have HS10 := Lib.hid hs10
                  clear hgb10 hs10 hg p0 p1 p2 p3 p4 pk pc
                  go_wp2_with fail
                  exact hR.out true (HTrue.out HNT.out HSS.out) _ ((Kp.of_gr HGB.out).trans HK10.out) HS10.out
              | false =>
                go_upto_region 14 with (first
                  | (go_at_call 54; refine Hc.out.mono ?_; rintro e w8 ⟨rfl, hkp, hmm8⟩; have HK8 := Lib.hid (HK7.out.trans hkp); have HM8 := Lib.hid hmm8; clear hkp hmm8)
                  | fail)
                obtain ⟨p0, p1, p2, p3, p4⟩ := ((HB.out.gr GQ.out).kp HK8.out HBm.out).cells
                have pk := ((HC.out.gr GQ.out).kp HK8.out HCm.out).at0
                have pc := (show Gr w1 w8 from HWK.out _ HK8.out).at C0.out
                refine wp_region_rely_tail 4 [fx (.map (some m)), fx (.slice (some ⟨b, o, none⟩) (l.length + 1) lc), fx (.pointer (some ⟨b, o, none⟩)), fx (.int .i64 v)]
                  (by kernel_rfl) (by kernel_rfl) (by decide) (by repeat (first | exact Stable.nil | refine Stable.fix ?_)) ?_ ?_
                · refine ⟨?_, ?_, ?_, ?_, trivial⟩
                  all_goals
                    intro fr wz hg hold
                    have h2 : fr.tmps[2]?.getD undef = .slice (some ⟨b, o, none⟩) (l.length + 1) lc := hold 2 rfl
                    have h7 : fr.tmps[7]?.getD undef = .pointer (some ⟨w.heap.size + 1, 0, none⟩) := hold 7 rfl
                    clear hold
                    have qk := Gr.at hg pk
                    have qc := Gr.at hg pc
                    simp [predsImp, Region.binds, dstAt, fx]
                    intros
                    first
                      | (rw [if_pos (by simp [*])]
                         intro K hK)
                      | (rename_i K hK)
                    go_simp
                  all_goals exact hK _ _ rfl (Gr.rfl' _)
                · intro w9 hg
                  rintro _ rfl _ rfl _ rfl _ rfl
                  simp only [finAll, Act.put, List.setIfInBounds_toArray, List.set_cons_succ, List.set_cons_zero, List.drop_succ_cons, List.drop_zero, List.take_zero]
                  obtain ⟨w10, hdel, hs10, hgb10⟩ := (HM8.out.gr hg).del HV64.out hgn.out 0
                  have HK10 := Lib.hid ((HK8.out.trans (Kp.of_gr hg)).trans (Kp.of_grownBy (C := (· = m)) hgb10 rfl))
                  have HS10 := Lib.hid hs10
                  clear hgb10 hs10 hg p0 p1 p2 p3 p4 pk pc
                  go_wp2_with fail
                  go_roundg (d.length - (j + 1))
                  case measure => omega
                  case rel => exact ⟨j + 1, by omega, rfl, by go_num, HK10, HS10, HNext.out (by rw [HSS.out, Bool.and_false])⟩
      · obtain rfl : j = d.length := by omega
        have HF : Hid (r = false) := by
          show _ = _
          rw [HSF.out, List.any_eq_false]
          intro n hn
          obtain ⟨i, hi⟩ := List.getElem?_of_mem hn
          rw [hno.out i n (List.getElem?_eq_some_iff.1 hi).1 hi]
          decide
        go_wp2_with fail
        exact hR.out false HF.out _ ((Kp.of_gr HGB.out).trans HKr.out) HMr.out
end Go.Proofs.Ytbapmokbkjmdcaa

namespace Go.Proofs.Ytbapmokbkjmdcaa
open Go.RowKit Go.Maps Go.Lib

theorem support_any (w1 : World) (e : Nat) (x : Cn) (D : List (List Int)) (N : Nat) (hx : x.In w1) (hok : x.con.ok N = true) (hN : D.length = N) (hD : EngD w1 e D) (hnear : ∀ d ∈ D, ∀ y ∈ d, Near y) : ∀ l, supOf w1 e x D l
  | [] => sup_nil w1 e x D N hx hok
  | v :: l => sup_cons w1 e x D N hx hok hN hD hnear v l (support_any w1 e x D N hx hok hN hD hnear l)

/-- What the function has caught. -/
structure RedBox (w : World) (e : Nat) (x : Cn) (l : List Int) (v : Int) (Be Bc Bl Bv : Nat) : Prop where
  be : BlkT w Be 57 #[.pointer (some ⟨e, 0, none⟩)]
  bc : CnBlk w Bc x
  bl : ∃ p c, BlkT w Bl 40 #[.slice p l.length c] ∧ IntSl w p c l
  bv : BlkT w Bv 3 #[.int .i64 v]

set_option maxHeartbeats 4000000 in
set_option maxRecDepth 100000 in
theorem red2_pred (w1 : World) (e : Nat) (x : Cn) (D : List (List Int)) (N : Nat) (hx : x.In w1) (hok : x.con.ok N = true) (hN : D.length = N) (hD : EngD w1 e D) (hnear : ∀ d ∈ D, ∀ y ∈ d, Near y) (l : List Int) (hl : ∀ u, u ∈ l ↔ u ∈ x.vs) (v : Int) (hv : v ∈ x.vs) (Be Bc Bl Bv : Nat) (hb : RedBox w1 e x l v Be Bc Bl Bv) :
    IntPred 53 #[.pointer (some ⟨Be, 0, none⟩), .pointer (some ⟨Bc, 0, none⟩), .pointer (some ⟨Bl, 0, none⟩), .pointer (some ⟨Bv, 0, none⟩)] (fun n => !supB D x.con l v n) Near w1 := by
  refine ⟨fun n W => by kernel_rfl, fun n W hn hW => ?_⟩
  show Calls Try.prog 53 #[.int .i64 n, .pointer (some ⟨Be, 0, none⟩), .pointer (some ⟨Bc, 0, none⟩), .pointer (some ⟨Bl, 0, none⟩), .pointer (some ⟨Bv, 0, none⟩)] W _
  have hR : Hid (∀ b, supB D x.con l v n = b → ∀ w', Gr W w' → Ret (.bool (!supB D x.con l v n)) W (.returned (.bool (!b))) w') := fun b hb w' hg => ⟨by rw [hb], hg⟩
  have HSB := Lib.hid (show supB D x.con l v n = suppL D x.con l (updG (fun _ => none) v n) from rfl)
  generalize Ret (.bool (!supB D x.con l v n)) W = Q at hR ⊢
  generalize supB D x.con l v n = r at *
  obtain ⟨lp, lc, hbl, hls⟩ := hb.bl
  have hv64 : In64 v := hx.vars.2.2.1 v hv
  have b0 := Gr.at hW (BlkT.cell hb.be 0 (v := .pointer (some ⟨e, 0, none⟩)) rfl)
  obtain ⟨c0, c1, c2, c3, c4⟩ := (hb.bc.gr hW).cells
  have l0 := Gr.at hW (BlkT.cell hbl 0 (v := .slice lp l.length lc) rfl)
  have v0 := Gr.at hW (BlkT.cell hb.bv 0 (v := .int .i64 v) rfl)
  have Hsup := Lib.hid (support_any w1 e x D N hx hok hN hD hnear l)
  have HW := Lib.hid hW
  have HLS := Lib.hid hls
  have HVal := Lib.hid (show x.val = .agg #[.int .i64 x.k, .slice x.vp x.vs.length x.vc, .slice x.cp x.cs.length x.cc, .int .i64 x.op, .int .i64 x.c] from rfl)
  have hmm := @run_makeMap Try.prog
  have v1 := Gr.at (w := W) (w' := W.alloc (.map #[] 0)) (by go_grown) v0
  have hM0 : IMap (W.alloc (.map #[] 0)) W.heap.size (fun _ => none) := GMap.made _ _ _
  obtain ⟨w2, hup, hs2, hgb⟩ := hM0.put hv64 n
  have HM2 := Lib.hid hs2
  have HG2 := Lib.hid (show Gr W w2 from Below.trans (b := W.alloc (.map #[] 0)) (by go_grown) (grownBy_below hgb (by simp) fun k hk => by cases hk; exact Nat.le_refl _))
  have HGG := Lib.hid (show GivenG x l (updG (fun _ => none) v n) from ⟨fun u hu => (hl u).1 hu, fun u hu => .inr ((hl u).2 hu), fun u y hy => by
    by_cases he : u = v
    · rw [he, updG_same] at hy; cases hy; exact ⟨he ▸ hv, hn⟩
    · rw [updG_other _ _ he] at hy; cases hy⟩)
  clear hb hbl hls hx hok hD hnear hl hv hv64 hs2 hgb hM0 hW hn hN
  go_enter Try.func53, Try.ntmps53
  try simp only [List.append_eq, List.cons_append, List.nil_append]
  have Hc := Lib.hid (Hsup.out (updG (fun _ => none) v n) lp lc W.heap.size w2 HLS.out HW.out.size (HW.out.trans HG2.out) HM2.out HGG.out)
  rewrite [HVal.out, ← HSB.out] at Hc
  go_wp2_with (first
    | (go_at_call 54; refine Hc.out.mono ?_; rintro e9 w9 ⟨rfl, hkp, _⟩; have HG9 := Lib.hid (show Gr W w9 from Below.trans HG2.out (hkp.below (B := W.heap.size) (fun b hb => by rw [hb]; exact Nat.le_refl _) HG2.out.size)); clear hkp)
    | fail)
  exact hR.out r rfl _ HG9.out
end Go.Proofs.Ytbapmokbkjmdcaa
