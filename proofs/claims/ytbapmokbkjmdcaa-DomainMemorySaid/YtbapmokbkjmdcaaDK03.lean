/-
  domain.Solve: the walk.
  hornkeep.rows, thereDomain.
-/
import Derived.Test.YtbapmokbkjmdcaaDK02
import Derived.Test.YtbapmokbkjmdcaaDR24
namespace Go.Proofs.Ytbapmokbkjmdcaa
open Go.RowKit Go.Maps Go.Lib

/-- An engine whose row of domains is there. -/
theorem EngW.pick {F : Fam} {w0 : World} {e dB : Nat} {D : List (List Int)} {w : World} (h : EngW F w0 e dB D w) : ∃ dB', EngW F w0 e dB' D w ∧ dB' < w.heap.size := by
  by_cases h0 : 0 < D.length
  · obtain ⟨vs, k1, _⟩ := h.row h0
    exact ⟨dB, h, k1.lt⟩
  · obtain ⟨dp, dc, hb, h1, h2, _⟩ := h.blk
    exact ⟨e, ⟨⟨dp, dc, hb, h1, h2, fun h => absurd h h0⟩, h.len, fun h => absurd h h0, h.near, h.short, h.ge.1, h.ge.1⟩, hb.lt⟩
/-- What label tells, for Solve. -/
def solveE (F : Fam) (w0 : World) (bo bm : Nat) (most : Int) : LbE (List (List Int)) where
  F := F
  w0 := w0
  f := 35
  cap := #[.pointer (some ⟨bo, 0, none⟩), .pointer (some ⟨bm, 0, none⟩)]
  st := TellS w0 F.N bo bm most
  step := fun told s => (told ++ [s], decide (((told ++ [s]).length : Int) < most))
  live := fun told => (told.length : Int) < most
theorem solveE_ok {F : Fam} {w0 : World} {bo bm : Nat} {most : Int} (hF : FamOk F w0) (hm : most ≤ 20000) : LbOk (solveE F w0 bo bm most) where
  fam := hF
  enter := fun v w => by kernel_rfl
  typ := fun a T w b h hb => TellS.typ h hb
  stable := fun a T w w' h hk => TellS.stable h hk fun b _ hc => hc
  liv := fun a s _ h => of_decide_eq_true (p := ((a ++ [s]).length : Int) < most) h
  call := fun a T w v s hl h hg hv hn hs => tell_calls w0 F.N bo bm most a T v s w h hl hm hg hv hn hs
/-- What Solve says. -/
def RetSolve (x : Pb) (most : Int) (w : World) (en : Ending) (w' : World) : Prop := Gr w w' ∧
  ((checkP x.D x.cons ≠ 0 ∧ en = .returned (.tuple #[.slice none 0 0, .int .i64 (checkP x.D x.cons)])) ∨
   (checkP x.D x.cons = 0 ∧ ∃ L p c, L = (sols x.cons x.D).take most.toNat ∧ en = .returned (.tuple #[.slice p L.length c, .int .i64 0]) ∧ RowsOwn w.heap.size w' p L ∧ L.length ≤ c ∧ c ≤ 9223372036854775807 ∧ ∀ s ∈ L, s.length = x.D.length ∧ ∀ y ∈ s, Near y))
theorem RowsOwn.of_bld {w0 w : World} {L : List (List Int)} {p : Option Addr} {n c : Nat} {xs : List Value} {B : Nat} (h : BldD w0 L (.slice p n c) xs L.length w) (hB : B ≤ w0.heap.size) : n = L.length ∧ RowsOwn B w p L ∧ L.length ≤ c ∧ c ≤ 9223372036854775807 := by
  rcases h.row.2 with ⟨h0, h1⟩ | ⟨g, cap, cur, h0, hbg, hg, hnc, hcm, hcs, htake⟩
  · cases h0
    exact ⟨h1.symm, .inl (List.eq_nil_of_length_eq_zero h1), by omega, by omega⟩
  · cases h0
    simp only [maxLen] at hcm
    refine ⟨rfl, .inr ⟨g, cur, rfl, Nat.le_trans hB hbg, hg, fun i d hd => ?_⟩, hnc, by omega⟩
    have hi : i < L.length := (List.getElem?_eq_some_iff.1 hd).1
    obtain ⟨v, h2, h3⟩ := h.each i d hi hd
    refine ⟨v, ?_, ownsRow_base h3 hB⟩
    rw [Nat.mul_one] at htake
    have : (cur.toList.take L.length)[i]? = some v := by rw [htake]; exact h2
    rw [List.getElem?_take_of_lt hi, Array.getElem?_toList] at this
    exact this

set_option maxRecDepth 100000 in
/-- All constraints are to be looked at. -/
theorem reduceAll {F : Fam} {w1 w3 w4 : World} {e dB : Nat} {D : List (List Int)} {va : Value} (hF : FamOk F w1) (hW : FamW F w1 w3) (hE : EngW F w1 e dB D w3) (ho : w4.ownsRow w3.heap.size 3 1 va (upTo F.C.length).length ((upTo F.C.length).map (.int .i64))) (hg : Gr w3 w4) :
    ∃ pa ca, va = .slice pa (upTo F.C.length).length ca ∧ Calls Try.prog 31 #[.pointer (some ⟨e, 0, none⟩), .slice pa (upTo F.C.length).length ca] w4 fun en w' =>
      ∃ b, en = .returned (.bool b) ∧ FamW F w1 w' ∧ Kp (fun x => x = dB ∨ TurnI w1.heap.size w3 x) w3 w' ∧ (b = true → ∃ E, EngW F w1 e dB E w' ∧ RedOk F.cons D E) ∧ (b = false → RedNo F.cons D) := by
  have hub : ∀ g, F.UB g → OfT w3 g 3 ∧ w1.heap.size ≤ g := fun g ⟨v, hv, hvg⟩ => by
    obtain ⟨i, hi⟩ := List.getElem?_of_mem hv
    obtain ⟨u, hu⟩ : ∃ u, F.U[i]? = some u := ⟨_, List.getElem?_eq_getElem (by rw [← hF.lenU]; exact (List.getElem?_eq_some_iff.1 hi).1)⟩
    exact ownsRow_type (hW.own i v u hi hu) hvg
  obtain ⟨pa, ca, rfl, htd⟩ := TodoM.own (F := F) (w0 := w1) (w := w4) (v := va) (T := upTo F.C.length) (ownsRow_base ho hW.gr.size) (fun k hk => by have := upTo_mem.1 hk; have := hF.few; exact ⟨by omega, by omega⟩) (fun g hg h => by
    have h1 := (hub g h).1.lt
    have h2 := (ownsRow_type ho hg).2
    omega)
  refine ⟨pa, ca, rfl, (reduce_calls F w1 e dB D pa ca (upTo F.C.length) w4 hF (hW.gr' hg) (hE.gr hg) htd (upTo_nodup _) (fun k hk => by have := upTo_mem.1 hk; exact ⟨this.1, by omega⟩) (fun k y hk hn => absurd (upTo_mem.2 ⟨by omega, by
    have := (List.getElem?_eq_some_iff.1 hk).1
    rw [Fam.cons, List.length_map] at this
    omega⟩) hn)).mono ?_⟩
  rintro en w' ⟨b, h1, h2, h3, h4, h5⟩
  refine ⟨b, h1, h2, (Kp.of_gr hg).more h3 fun x hx hc => ?_, h4, h5⟩
  rcases hc with rfl | hc | ⟨a, ha, rfl⟩
  · exact .inl rfl
  · exact .inr (hub x hc)
  · have h6 : (Value.slice pa (upTo F.C.length).length ca).ownBlock = some a.block := by rw [ha]; rfl
    have := (ownsRow_type ho h6).2
    omega

set_option maxHeartbeats 8000000 in
set_option maxRecDepth 100000 in
theorem solve_calls (x : Pb) (most : Int) (w : World) (hx : x.In w) (hm : most ≤ 20000) : Calls Try.prog 15 #[x.val, .int .i64 most] w (RetSolve x most w) := by
  have HX := Lib.hid hx
  have hR1 : Hid (∀ ec w', checkP x.D x.cons = ec → ec ≠ 0 → Gr w w' → RetSolve x most w (.returned (.tuple #[.slice none 0 0, .int .i64 ec])) w') := fun ec w' h1 h2 h3 => ⟨h3, .inl ⟨by rw [h1]; exact h2, by rw [h1]⟩⟩
  have hR2 : Hid (∀ L p c w', checkP x.D x.cons = 0 → L = (sols x.cons x.D).take most.toNat → RowsOwn w.heap.size w' p L → L.length ≤ c → c ≤ 9223372036854775807 → (∀ s ∈ L, s.length = x.D.length ∧ ∀ y ∈ s, Near y) → Gr w w' → RetSolve x most w (.returned (.tuple #[.slice p L.length c, .int .i64 0])) w') := fun L p c w' h1 h2 h3 h4 h5 h6 h7 => ⟨h7, .inr ⟨h1, L, p, c, h2, rfl, h3, h4, h5, h6⟩⟩
  generalize RetSolve x most w = Q at hR1 hR2 ⊢
  have HVal := Lib.hid (show x.val = .agg #[.slice x.dp x.D.length x.dc, .slice x.cp x.C.length x.cc] from rfl)
  rw [HVal.out]
  clear hx
  go_enter Try.func15, Try.ntmps15
  try simp only [List.append_eq, List.cons_append, List.nil_append]
  go_upto_region 1 with fail
  have hB := BlkT.new w 25 #[.slice x.dp x.D.length x.dc, .slice x.cp x.C.length x.cc]
  have gA : Gr w (w.alloc (.cells #[.slice x.dp x.D.length x.dc, .slice x.cp x.C.length x.cc] 25)) := by go_grown
  generalize hwA : w.alloc (.cells #[.slice x.dp x.D.length x.dc, .slice x.cp x.C.length x.cc] 25) = wA at *
  obtain ⟨bm, hbm⟩ : ∃ bm, w.heap.size + 1 = bm := ⟨_, rfl⟩
  have hbm2 : bm = wA.heap.size := by rw [← hwA, ← hbm]; simp
  have hB2 : BlkT (wA.alloc (.cells #[.int .i64 most] 3)) bm 3 #[.int .i64 most] := by rw [hbm2]; exact BlkT.new _ _ _
  have gB : Gr wA (wA.alloc (.cells #[.int .i64 most] 3)) := by go_grown
  rw [hbm]
  generalize wA.alloc (.cells #[.int .i64 most] 3) = wB at *
  have HB := Lib.hid (hB.gr gB)
  have HBM := Lib.hid hB2
  have HG := Lib.hid (gA.trans gB)
  have b0 := HB.out.cell 0 (v := .slice x.dp x.D.length x.dc) rfl
  have b1 := HB.out.cell 1 (v := .slice x.cp x.C.length x.cc) rfl
  have Hc := Lib.hid (check_calls x wB (HX.out.mono HG.out))
  rw [HVal.out] at Hc
  obtain ⟨ec, hec⟩ : ∃ ec, checkP x.D x.cons = ec := ⟨_, rfl⟩
  rw [hec] at Hc
  have HEC := Lib.hid hec
  clear hB hB2 gA gB hwA hbm hbm2 hec
  by_cases h0 : ec = 0
  case neg =>
    have hb1 : (ec == 0) = false := beq_eq_false_iff_ne.2 h0
    have hb2 : (ec != 0) = true := by rw [bne, hb1]; rfl
    have H0 := Lib.hid h0
    clear h0
    go_wp2_with (first
      | (go_at_call 9; refine Hc.out.mono ?_; rintro e1 w1 ⟨rfl, hb⟩; have HG1 := Lib.hid (HG.out.trans (show Gr wB w1 from hb)); clear hb b0 b1)
      | fail)
    exact hR1.out ec _ HEC.out H0.out HG1.out
  subst h0
  obtain ⟨c1, c2, c3, c4, c5⟩ := check_zero HEC.out
  have HOK0 := Lib.hid c2
  have HND0 : Hid (∀ d ∈ x.D, d.Nodup) := fun d hd => ((okDom_rise (c1 d hd)).1).imp fun h e => by omega
  have Hne := Lib.hid (fun W (hW : Gr wB W) => newEngine_calls x W (HX.out.mono (HG.out.trans hW)) c2 (fun d hd => (okDom_rise (c1 d hd)).2) c5 c3 (by rw [Pb.cons, List.length_map] at c4; exact c4))
  rw [HVal.out] at Hne
  clear c1 c2 c3 c4 c5
  go_upto_region 5 with (first
    | (go_at_call 9; refine Hc.out.mono ?_; rintro e1 w1 ⟨rfl, hb⟩; have HG1 := Lib.hid (show Gr wB w1 from hb); have b0 := HG1.out.at b0; have b1 := HG1.out.at b1; clear hb)
    | (go_at_call 30; refine (Hne.out _ HG1.out).mono ?_; rintro e2 w2 ⟨F, e, dB0, rfl, hFC, hFN, hFO, hFW, hEW, hg2⟩; have HFC := Lib.hid hFC; have HFN := Lib.hid hFN; have HFO := Lib.hid hFO; have HFW := Lib.hid hFW; have HEW0 := Lib.hid hEW; have HG2 := Lib.hid hg2; clear hFC hFN hFO hFW hEW hg2)
    | fail)
  clear b0 b1
  have HCO := Lib.hid (show F.cons = x.cons by rw [Fam.cons, HFC.out]; rfl)
  obtain ⟨dB, hEW, hdB⟩ := HEW0.out.pick
  have HEW := Lib.hid hEW
  have HDB := Lib.hid hdB
  have HM1 := Lib.hid (HBM.out.gr HG1.out)
  clear hEW hdB HEW0
  go_upto_region 6 with fail
  have hBO := BlkT.new w2 22 #[.slice none 0 0]
  have gO : Gr w2 (w2.alloc (.cells #[.slice none 0 0] 22)) := by go_grown
  obtain ⟨bo, hbo⟩ : ∃ bo, w2.heap.size = bo := ⟨_, rfl⟩
  have HBOge := Lib.hid hbo
  rw [hbo] at hBO ⊢
  clear hbo
  generalize w2.alloc (.cells #[.slice none 0 0] 22) = w3 at *
  have HBO := Lib.hid hBO
  have HGO := Lib.hid gO
  have h12 : Gr w w1 := HG.out.trans HG1.out
  have H1S := Lib.hid h12.size
  have H12S := Lib.hid HG2.out.size
  have HG3 := Lib.hid (h12.trans (HG2.out.trans HGO.out))
  have m0 := ((HM1.out.gr HG2.out).gr gO).cell 0 (v := .int .i64 most) rfl
  have o0 := hBO.cell 0 (v := .slice none 0 0) rfl
  have HTS : Hid (∀ W, Kp (fun x => x = dB ∨ TurnI w1.heap.size w3 x) w3 W → TellS w1 F.N bo bm most [] (fun b => b = bo) W ∧ Gr w W ∧ BlkT W bo 22 #[.slice none 0 0]) := fun W hk => by
    have hbo' : BlkT W bo 22 #[.slice none 0 0] := HBO.out.kp hk fun hc => by
      rcases hc with hc | hc
      · have := HDB.out; have := HBOge.out; omega
      · exact hc.1.not (by decide) (.of HBO.out)
    have hlt : bm < w1.heap.size := HM1.out.lt
    refine ⟨⟨⟨.slice none 0 0, [], hbo', ⟨World.ownsRow_nil W _ _ 1, fun i d hi => by simp at hi⟩, fun b => ⟨.inl, fun h => h.elim id fun h => by cases h⟩⟩, ((HM1.out.gr HG2.out).gr HGO.out).kp hk fun hc => ?_, by have := HBOge.out; have := H12S.out; omega, hlt, fun s hs => by cases hs⟩, Below.trans HG3.out (hk.below (fun b hb => ?_) HG3.out.size), hbo'⟩
    · rcases hc with hc | hc
      · have := HEW.out.ge.2; omega
      · have := hc.2; omega
    · rcases hb with hb | hb
      · have := HEW.out.ge.2; have := H1S.out; omega
      · have := hb.2; have := H1S.out; omega
  clear hBO gO h12
  by_cases hm0 : 0 < most
  case neg =>
    have hd0 : decide (0 < most) = false := decide_eq_false hm0
    have HF := Lib.hid (show ([] : List (List Int)) = (sols x.cons x.D).take most.toNat by rw [show most.toNat = 0 by omega, List.take_zero])
    clear hm0
    go_wp2_with fail
    exact hR2.out [] none 0 _ HEC.out HF.out (.inl rfl) (Nat.le_refl _) (by omega) (fun s hs => by cases hs) HG3.out
  have hd0 : decide (0 < most) = true := decide_eq_true hm0
  have HM0 := Lib.hid hm0
  have HMM := Lib.hid hm
  clear hm0 hm
  obtain ⟨dp0, dc0, -, a1, -, -, -, -, -⟩ := (HEW.out.gr HGO.out).cells
  have Hal := Lib.hid (all_calls' e F.C.length F.pc F.cc w3 a1 (by have := HFO.out.few; omega))
  clear a1 o0
  by_cases hE : ∃ E, RedOk F.cons x.D E
  case neg =>
    have HNE := Lib.hid hE
    clear hE
    go_wp2_with (first
      | (go_at_call 32; refine Hal.out.mono ?_; rintro e3 w4 ⟨va, rfl, hown, hg3⟩; obtain ⟨pa, ca, rfl, hrd⟩ := reduceAll HFO.out (HFW.out.gr' HGO.out) (HEW.out.gr HGO.out) hown hg3; have Hrd := Lib.hid hrd; clear hown hg3 hrd m0)
      | (go_at_call 31; refine Hrd.out.mono ?_; rintro e4 w5 ⟨rb, rfl, hfw, hkp, hyes, hno⟩; obtain rfl : rb = false := (by
          cases rb with
          | false => rfl
          | true => obtain ⟨E, -, hOk⟩ := hyes rfl; exact absurd ⟨E, hOk⟩ HNE.out); have HNo := Lib.hid (hno rfl); obtain ⟨-, hgw, hbo5⟩ := HTS.out w5 hkp; have HGW := Lib.hid hgw; have o0 := hbo5.cell 0 (v := .slice none 0 0) rfl; clear hfw hkp hyes hno hgw hbo5)
      | fail)
    have HF := Lib.hid (show ([] : List (List Int)) = (sols x.cons x.D).take most.toNat by rw [RedNo.sols HOK0.out (HCO.out ▸ HNo.out), List.take_nil])
    exact hR2.out [] none 0 _ HEC.out HF.out (.inl rfl) (Nat.le_refl _) (by omega) (fun s hs => by cases hs) HGW.out
  obtain ⟨E, hE⟩ := hE
  have HE := Lib.hid hE
  clear hE
  have HRdy := Lib.hid (Ready.start (C := F.cons) (fun c hc => HOK0.out c (HCO.out ▸ hc)) HND0.out HE.out)
  have HSol := Lib.hid (show sols F.cons E = sols x.cons x.D by rw [RedOk.sols HND0.out (fun c hc => HOK0.out c (HCO.out ▸ hc)) HE.out, HCO.out])
  have HFd := Lib.hid (feedS_most (α := List Int) most [] (sols F.cons E) HM0.out)
  rw [List.nil_append, HSol.out] at HFd
  have HLb : Hid (∀ W, Kp (fun x => x = dB ∨ TurnI w1.heap.size w3 x) w3 W → FamW F w1 W → EngW F w1 e dB E W → Calls Try.prog 34 #[.pointer (some ⟨e, 0, none⟩), .int .i64 0, .func (.func 35) #[] #[.pointer (some ⟨bo, 0, none⟩), .pointer (some ⟨bm, 0, none⟩)]] W fun en w' => ∃ (b : Bool) (p : Option Addr) (c : Nat), en = .returned (.bool b) ∧
      BlkT w' bo 22 #[.slice p ((sols x.cons x.D).take most.toNat).length c] ∧ Gr w w' ∧ RowsOwn w.heap.size w' p ((sols x.cons x.D).take most.toNat) ∧ ((sols x.cons x.D).take most.toNat).length ≤ c ∧ c ≤ 9223372036854775807 ∧ ∀ s ∈ (sols x.cons x.D).take most.toNat, s.length = x.D.length ∧ ∀ y ∈ s, Near y) := fun W hk hf he => by
    obtain ⟨hts, hgw, -⟩ := HTS.out W hk
    have hl := label_calls (solveE F w1 bo bm most) (solveE_ok HFO.out HMM.out) e dB E (fun b => b = bo) [] W HM0.out hts hf he (fun h => by have := HDB.out; have := HBOge.out; omega) HRdy.out
    refine Calls.mono (show Calls Try.prog 34 #[.pointer (some ⟨e, 0, none⟩), .int .i64 0, .func (.func 35) #[] #[.pointer (some ⟨bo, 0, none⟩), .pointer (some ⟨bm, 0, none⟩)]] W _ from hl) ?_
    rintro en w' ⟨h1, h2⟩
    have hfd : feedS (solveE F w1 bo bm most).step [] (sols (solveE F w1 bo bm most).F.cons E) = ((sols x.cons x.D).take most.toNat, decide (((sols x.cons x.D).length : Int) < most)) := by
      rw [← HFd.out, ← HSol.out]; rfl
    rw [hfd] at h1 h2
    obtain ⟨T', h3, -⟩ := h2.st
    have h3 : TellS w1 F.N bo bm most ((sols x.cons x.D).take most.toNat) T' w' := h3
    obtain ⟨ov, xs, h4, h5, -⟩ := h3.row
    obtain ⟨p, c, rfl⟩ := ownsRow_form h5.row
    obtain ⟨-, h6, h7, h8⟩ := RowsOwn.of_bld h5 H1S.out
    refine ⟨_, p, c, h1, h4, Below.trans hgw (h2.kp.below (fun b hb => ?_) hgw.size), h6, h7, h8, fun s hs => by have := h3.each s hs; rw [HFN.out] at this; exact this⟩
    rcases hb with rfl | hb
    · have := H1S.out; have := h3.geo; omega
    · have := H1S.out
      have h9 : w1.heap.size ≤ b := hb.2
      omega
  obtain ⟨L, hL⟩ : ∃ L, (sols x.cons x.D).take most.toNat = L := ⟨_, rfl⟩
  have HL := Lib.hid hL
  rw [hL] at HLb
  clear hL
  go_wp2_with (first
    | (go_at_call 32; refine Hal.out.mono ?_; rintro e3 w4 ⟨va, rfl, hown, hg3⟩; obtain ⟨pa, ca, rfl, hrd⟩ := reduceAll HFO.out (HFW.out.gr' HGO.out) (HEW.out.gr HGO.out) hown hg3; have Hrd := Lib.hid hrd; clear hown hg3 hrd m0)
    | (go_at_call 31; refine Hrd.out.mono ?_; rintro e4 w5 ⟨rb, rfl, hfw, hkp, hyes, hno⟩; obtain rfl : rb = true := (by
        cases rb with
        | true => rfl
        | false => exact (RedOk.not HE.out (hno rfl)).elim); obtain ⟨E3, hEW3, hOk3⟩ := hyes rfl; obtain rfl := RedOk.uniq HND0.out hOk3 HE.out; have Hl := Lib.hid (HLb.out w5 hkp hfw hEW3); clear hfw hkp hyes hno hEW3 hOk3)
    | (go_at_call 34; refine Hl.out.mono ?_; rintro e5 w6 ⟨b6, p, c, rfl, h6, h7, h8, h9, h10, h11⟩; have o0 := h6.cell 0 (v := .slice p L.length c) rfl; have HF := Lib.hid (hR2.out L p c w6 HEC.out HL.out.symm h8 h9 h10 h11 h7); clear h6 h7 h8 h9 h10 h11)
    | fail)
  exact HF.out
end Go.Proofs.Ytbapmokbkjmdcaa

namespace Go.Proofs.Ytbapmokbkjmdcaa
open Go.RowKit Go.Maps Go.Lib

theorem RowsOwn.at {B : Nat} {w : World} {p : Option Addr} {D : List (List Int)} (h : RowsOwn B w p D) (hn : ∀ d ∈ D, ∀ y ∈ d, Near y) : RowsAt w p D := by
  rcases h with h | ⟨b, vs, h1, h2, h3, h4⟩
  · exact .inl h
  · refine .inr ⟨b, 0, h1, h3.lt, fun i d hd => ?_⟩
    obtain ⟨v, h5, h6⟩ := h4 i d hd
    obtain ⟨q, c, rfl⟩ := h6.form
    refine ⟨q, c, by rw [Nat.zero_add]; exact h3.cell i h5, (h6.sl fun y hy => ?_).2⟩
    have := hn d (List.mem_of_getElem? hd) y hy
    exact ⟨by have := this.1; omega, by have := this.2; omega⟩

set_option maxHeartbeats 4000000 in
set_option maxRecDepth 100000 in
theorem rowsKeep_calls (p q : Option Addr) (c d : Nat) (L M : List (List Int)) (w : World) (hx : RowsAt w p L) (hy : RowsAt w q M) (hlc : L.length ≤ c ∧ c ≤ 9223372036854775807) (hld : M.length ≤ d ∧ d ≤ 9223372036854775807) :
    Calls Try.prog 16 #[.slice p L.length c, .slice q M.length d] w (Ret (.bool (decide (L = M))) w) := by
  have hR : Hid (∀ b, decide (L = M) = b → ∀ w', Gr w w' → Ret (.bool (decide (L = M))) w (.returned (.bool b)) w') := fun b hb w' hg => ⟨by rw [hb], hg⟩
  have hlc1 := hlc.1
  have hc := hlc.2
  have hlc2 := hld.1
  have hc2 := hld.2
  have H := Lib.hid hx
  have K := Lib.hid hy
  generalize hQ : Ret (.bool (decide (L = M))) w = Q at hR ⊢
  clear hQ hx hy hlc hld
  by_cases hll : L.length = M.length
  case neg =>
    have hb : ((L.length : Int) == (M.length : Int)) = false := beq_eq_false_iff_ne.2 (by omega)
    have hb2 : ((L.length : Int) != (M.length : Int)) = true := by rw [bne, hb]; rfl
    have HF := Lib.hid (decide_eq_false (p := L = M) fun e => hll (by rw [e]))
    clear hll
    go_enter Try.func16, Try.ntmps16
    try simp only [List.append_eq, List.cons_append, List.nil_append]
    go_wp2_with fail
    exact hR.out _ HF.out _ (Gr.rfl' _)
  have hb : ((L.length : Int) == (M.length : Int)) = true := beq_iff_eq.2 (by omega)
  have hb2 : ((L.length : Int) != (M.length : Int)) = false := by rw [bne, hb]; rfl
  have HLL := Lib.hid hll
  clear hll
  go_enter Try.func16, Try.ntmps16
  try simp only [List.append_eq, List.cons_append, List.nil_append]
  go_wp2_with fail
  go_loopg [5] L.length (fun m i wr => ∃ k : Nat, k ≤ L.length ∧ m = L.length - k ∧ i = .int .i64 k ∧ Gr w wr ∧ Hid (∀ i, i < k → L[i]? = M[i]?))
  case atStart => exact ⟨0, Nat.zero_le _, rfl, rfl, Gr.rfl' _, fun i hi => by omega⟩
  case round =>
    obtain ⟨k, hk, rfl, rfl, gr, hsm⟩ := hrel
    by_cases hlt : k < L.length
    · have hlt2 : k < M.length := by rw [← HLL.out]; exact hlt
      obtain ⟨b, o, hpe, _, hr⟩ := (H.out.mono gr).resolve_left (fun e0 => by rw [e0] at hlt; simp at hlt)
      obtain ⟨b', o', hqe, _, hr'⟩ := (K.out.mono gr).resolve_left (fun e0 => by rw [e0] at hlt2; simp at hlt2)
      subst hpe hqe
      obtain ⟨y, hy⟩ : ∃ y, L[k]? = some y := ⟨_, List.getElem?_eq_getElem hlt⟩
      obtain ⟨z, hz⟩ : ∃ z, M[k]? = some z := ⟨_, List.getElem?_eq_getElem hlt2⟩
      obtain ⟨q1, c1, c0, hs1⟩ := hr k _ hy
      obtain ⟨q2, c2, d0, hs2⟩ := hr' k _ hz
      have HY := Lib.hid hy
      have HZ := Lib.hid hz
      have HS1 := Lib.hid hs1
      have HS2 := Lib.hid hs2
      clear hr hr' hy hz hs1 hs2
      go_upto_region 6 with fail
      refine wp_region_rely_tail 8 [fx (.slice (some ⟨b, o, none⟩) L.length c), fx (.int .i64 (k : Nat)), fx (.pointer (some ⟨b, o + k, none⟩)), fx (.slice q1 y.length c1), fx (.slice (some ⟨b', o', none⟩) M.length d), fx (.int .i64 (k : Nat)), fx (.pointer (some ⟨b', o' + k, none⟩)), fx (.slice q2 z.length c2)]
        (by kernel_rfl) (by kernel_rfl) (by decide) (by repeat (first | exact Stable.nil | refine Stable.fix ?_)) ?_ ?_
      · refine ⟨?_, ?_, ?_, ?_, ?_, ?_, ?_, ?_, trivial⟩
        all_goals
          intro fr wz hg hold
          have h0 : fr.tmps[0]?.getD undef = .slice (some ⟨b, o, none⟩) L.length c := hold 0 rfl
          have h1 : fr.tmps[1]?.getD undef = .slice (some ⟨b', o', none⟩) M.length d := hold 1 rfl
          have h5 : fr.tmps[5]?.getD undef = .int .i64 (k : Nat) := hold 5 rfl
          clear hold
          have C0 := Gr.at hg c0
          have D0 := Gr.at hg d0
          simp [predsImp, Region.binds, dstAt, fx]
          intros
          first
            | (rw [if_pos (by simp [*])]
               intro K hK)
            | (rename_i K hK)
          go_simp
        all_goals exact hK _ _ rfl (Gr.rfl' _)
      · intro wz hg
        rintro _ rfl _ rfl _ rfl _ rfl _ rfl _ rfl _ rfl _ rfl
        simp only [finAll, Act.put, List.setIfInBounds_toArray, List.set_cons_succ, List.set_cons_zero, List.drop_succ_cons, List.drop_zero, List.take_zero]
        clear c0 d0
        have Hc := Lib.hid (same_calls q1 q2 c1 c2 y z wz (HS1.out.mono hg) (HS2.out.mono hg))
        have HGz := Lib.hid (gr.trans hg)
        clear hg
        obtain ⟨bq, hbq⟩ : ∃ bq, decide (y = z) = bq := ⟨_, rfl⟩
        have HBQ := Lib.hid hbq
        rw [hbq] at Hc
        clear hbq
        cases bq with
        | true =>
          have HN : Hid (∀ i, i < k + 1 → L[i]? = M[i]?) := fun i hi => by
            by_cases hik : i = k
            · rw [hik, HY.out, HZ.out, of_decide_eq_true HBQ.out]
            · exact hsm.out i (by omega)
          go_wp2_with (first
            | (go_at_call 17; refine Hc.out.mono ?_; rintro e1 w1 ⟨rfl, hb⟩; have HG1 := Lib.hid (HGz.out.trans (show Gr wz w1 from hb)); clear hb)
            | fail)
          go_roundg (L.length - (k + 1))
          case measure => omega
          case rel => exact ⟨k + 1, by omega, rfl, by go_num, HG1.out, HN⟩
        | false =>
          have HF := Lib.hid (decide_eq_false (p := L = M) fun e => by
            subst e
            have h1 := HY.out.symm.trans HZ.out
            cases h1
            exact of_decide_eq_false HBQ.out rfl)
          go_wp2_with (first
            | (go_at_call 17; refine Hc.out.mono ?_; rintro e1 w1 ⟨rfl, hb⟩; have HG1 := Lib.hid (HGz.out.trans (show Gr wz w1 from hb)); clear hb)
            | fail)
          exact hR.out _ HF.out _ HG1.out
    · obtain rfl : k = L.length := by omega
      have HF := Lib.hid (decide_eq_true (p := L = M) (by
        apply List.ext_getElem?
        intro i
        by_cases hi : i < L.length
        · exact hsm.out i hi
        · rw [List.getElem?_eq_none (by omega), List.getElem?_eq_none (by have := HLL.out; omega)]))
      go_wp2_with fail
      exact hR.out _ HF.out _ gr

/-- A problem of one variable with one number. -/
def oneP (W : World) : Pb := ⟨some ⟨W.heap.size + 1, 0, none⟩, 1, [[1]], none, 0, []⟩
def oneW (W : World) : World := (W.alloc (.cells #[.int .i64 1] 2)).alloc (.cells #[.slice (some ⟨W.heap.size, 0, none⟩) 1 1] 38)
theorem oneP_in (W : World) : (oneP W).In (oneW W) ∧ Gr W (oneW W) := by
  have g1 : Gr W (W.alloc (.cells #[.int .i64 1] 2)) := by go_grown
  have b1 := BlkT.new W 2 #[.int .i64 1]
  have g2 : Gr (W.alloc (.cells #[.int .i64 1] 2)) (oneW W) := by unfold oneW; go_grown
  have b2 : BlkT (oneW W) (W.heap.size + 1) 38 #[.slice (some ⟨W.heap.size, 0, none⟩) 1 1] := by
    have h := BlkT.new (W.alloc (.cells #[.int .i64 1] 2)) 38 #[.slice (some ⟨W.heap.size, 0, none⟩) 1 1]
    rw [show (W.alloc (.cells #[.int .i64 1] 2)).heap.size = W.heap.size + 1 by simp] at h
    exact h
  have b3 := b1.gr g2
  refine ⟨⟨.inr ⟨W.heap.size + 1, 0, rfl, b2.lt, fun i d hd => ?_⟩, ⟨Nat.le_refl _, by show 1 ≤ _; omega⟩, .inl rfl, ⟨Nat.le_refl _, by show 0 ≤ _; omega⟩, fun y hy => by cases hy⟩, g1.trans g2⟩
  have hd : ([[1]] : List (List Int))[i]? = some d := hd
  cases i with
  | succ i => simp at hd
  | zero =>
    simp only [List.getElem?_cons_zero, Option.some.injEq] at hd
    subst hd
    refine ⟨some ⟨W.heap.size, 0, none⟩, 1, b2.cell 0 rfl, Nat.le_refl _, by omega, fun n hn => ?_, .inr ⟨W.heap.size, 0, rfl, b3.lt, fun j n hj => ?_⟩⟩
    · rw [List.mem_singleton.1 hn]; decide
    · cases j with
      | succ j => simp at hj
      | zero =>
        simp only [List.getElem?_cons_zero, Option.some.injEq] at hj
        subst hj
        exact b3.cell 0 rfl
theorem one_solve (W : World) : Calls Try.prog 15 #[.agg #[.slice (some ⟨W.heap.size + 1, 0, none⟩) 1 1, .slice none 0 0], .int .i64 1] (oneW W) fun en w' => ∃ p c, en = .returned (.tuple #[.slice p 1 c, .int .i64 0]) ∧ Gr W w' := by
  refine Calls.mono (show Calls Try.prog 15 #[.agg #[.slice (some ⟨W.heap.size + 1, 0, none⟩) 1 1, .slice none 0 0], .int .i64 1] (oneW W) _ from solve_calls (oneP W) 1 (oneW W) (oneP_in W).1 (by omega)) ?_
  rintro en w' ⟨hg, h⟩
  rcases h with ⟨h, _⟩ | ⟨_, L, p, c, h1, h2, _⟩
  · exact absurd rfl h
  · have hl : L.length = 1 := by rw [h1]; rfl
    rw [hl] at h2
    exact ⟨p, c, h2, (oneP_in W).2.trans hg⟩
theorem one_ok : RedOk [] [[1]] [[1]] := RedOk.self (fun c hc => by cases hc) fun d hd => by rw [List.mem_singleton.1 hd]; simp
theorem one_reduce (W : World) : Calls Try.prog 10 #[.agg #[.slice (some ⟨W.heap.size + 1, 0, none⟩) 1 1, .slice none 0 0]] (oneW W) fun en w' => ∃ p c, en = .returned (.tuple #[.slice p 1 c, .bool true, .int .i64 0]) ∧ Gr W w' := by
  refine Calls.mono (show Calls Try.prog 10 #[.agg #[.slice (some ⟨W.heap.size + 1, 0, none⟩) 1 1, .slice none 0 0]] (oneW W) _ from reduceP_calls (oneP W) (oneW W) (oneP_in W).1) ?_
  rintro en w' ⟨hg, h⟩
  rcases h with ⟨h, _⟩ | ⟨_, h, _⟩ | ⟨_, E, p, c, h1, h2, _⟩
  · exact absurd rfl h
  · exact (RedOk.not one_ok h).elim
  · have hl : E.length = 1 := h1.sub.1
    rw [hl] at h2
    exact ⟨p, c, h2, (oneP_in W).2.trans hg⟩

set_option maxHeartbeats 4000000 in
set_option maxRecDepth 100000 in
theorem there_calls (w : World) : Calls Try.prog 14 #[] w (Ret (.bool true) w) := by
  have hR : Hid (∀ w', Gr w w' → Ret (.bool true) w (.returned (.bool true)) w') := fun w' hg => ⟨rfl, hg⟩
  generalize Ret (.bool true) w = Q at hR ⊢
  have HS := Lib.hid one_solve
  have HR := Lib.hid one_reduce
  simp only [oneW] at HS HR
  go_enter Try.func14, Try.ntmps14
  try simp only [List.append_eq, List.cons_append, List.nil_append]
  go_wp2_with (first
    | (go_at_call 15; refine (HS.out w).mono ?_; rintro e1 w1 ⟨p1, c1, rfl, h1⟩; have HG1 := Lib.hid h1; clear h1)
    | (go_at_call 10; refine (HR.out w1).mono ?_; rintro e2 w2 ⟨p2, c2, rfl, h2⟩; have HG2 := Lib.hid (HG1.out.trans h2); clear h2)
    | fail)
  exact hR.out _ HG2.out
end Go.Proofs.Ytbapmokbkjmdcaa
