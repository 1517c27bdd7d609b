/-
  (*engine).all; domain.Reduce.
-/
import Derived.Test.YtbapmokbkjmdcaaDR17
namespace Go.Proofs.Ytbapmokbkjmdcaa
open Go.RowKit Go.Maps Go.Lib

def upTo (n : Nat) : List Int := (List.range n).map fun (k : Nat) => (k : Int)
theorem upTo_mem {n : Nat} {k : Int} : k ∈ upTo n ↔ 0 ≤ k ∧ k < n := by
  rw [upTo, List.mem_map]
  constructor
  · rintro ⟨a, ha, rfl⟩
    have := List.mem_range.1 ha
    exact ⟨by omega, by omega⟩
  · rintro ⟨h0, h1⟩
    exact ⟨k.toNat, List.mem_range.2 (by omega), Int.toNat_of_nonneg h0⟩
theorem upTo_nodup (n : Nat) : (upTo n).Nodup := by
  rw [upTo, List.Nodup, List.pairwise_map]
  exact (List.nodup_range (n := n)).imp fun h e => h (by omega)
theorem upTo_succ (n : Nat) : upTo (n + 1) = upTo n ++ [(n : Int)] := by simp [upTo, List.range_succ]

set_option maxHeartbeats 2000000 in
set_option maxRecDepth 100000 in
theorem all_calls' (e n : Nat) (p : Option Addr) (c : Nat) (w : World) (he : w.cell? ⟨e, 1, none⟩ = some (.slice p n c)) (hn : n ≤ 1000) :
    Calls Try.prog 32 #[.pointer (some ⟨e, 0, none⟩)] w fun en w' => ∃ v, en = .returned v ∧ w'.ownsRow w.heap.size 3 1 v (upTo n).length ((upTo n).map (.int .i64)) ∧ Gr w w' := by
  have hR : Hid (∀ v w', w'.ownsRow w.heap.size 3 1 v (upTo n).length ((upTo n).map (.int .i64)) → Gr w w' → (fun (en : Ending) (w' : World) => ∃ v, en = .returned v ∧ w'.ownsRow w.heap.size 3 1 v (upTo n).length ((upTo n).map (.int .i64)) ∧ Gr w w') (.returned v) w') := fun v w' h1 h2 => ⟨v, rfl, h1, h2⟩
  generalize (fun (en : Ending) (w' : World) => ∃ v, en = .returned v ∧ w'.ownsRow w.heap.size 3 1 v (upTo n).length ((upTo n).map (.int .i64)) ∧ Gr w w') = Q at hR ⊢
  have HN := Lib.hid hn
  clear hn
  go_enter Try.func32, Try.ntmps32
  try simp only [List.append_eq, List.cons_append, List.nil_append]
  go_upto_region 3 with fail
  clear he
  have HS : Hid (w.ownsRow w.heap.size 3 1 (.slice none 0 0) (upTo 0).length ((upTo 0).map (.int .i64))) := World.ownsRow_nil w _ _ 1
  go_loopg [3, 11] n (fun k s i wr => ∃ j v, j ≤ n ∧ k = n - j ∧ i = .int .i64 ((j : Nat) : Int) ∧ v = s ∧ Hid (wr.ownsRow w.heap.size 3 1 v (upTo j).length ((upTo j).map (.int .i64))) ∧ Hid (Gr w wr))
  case atStart => exact ⟨0, _, Nat.zero_le _, rfl, rfl, rfl, HS, Gr.rfl' _⟩
  case round =>
    obtain ⟨j, v, hj, rfl, rfl, rfl, ho, hg⟩ := hrel
    clear HS
    by_cases hlt : j < n
    · obtain ⟨i0, hi, hz0, hz1, hz2⟩ := info_parts infoInt
      have gb : Gr wr (wr.alloc (.cells #[.int .i64 (j : Int)] 3)) := by go_grown
      have hb : (wr.alloc (.cells #[.int .i64 (j : Int)] 3)).cell? ⟨wr.heap.size, 0, none⟩ = some (.int .i64 (j : Int)) := (BlkT.new wr 3 #[.int .i64 (j : Int)]).cell 0 rfl
      have hlen : (upTo j).length = j := by simp [upTo]
      have hn1 := HN.out
      obtain ⟨v', w', hr, ho', hgb, _⟩ := run_append_own_fresh (P := Try.prog) (wr.alloc (.cells #[.int .i64 (j : Int)] 3)) w.heap.size 40 40 3 i0 (.int .i64 0) 1 8 Try.underlying40 hi hz0 hz1 hz2 rfl (by decide) v (upTo j).length ((upTo j).map (.int .i64)) (ownsRow_gr ho.out gb) ⟨wr.heap.size, 0, none⟩ 1 1 [.int .i64 (j : Int)] rfl (by
        intro k x hk
        match k, hk with
        | 0, hk => cases hk; exact hb
        | k + 1, hk => simp at hk) (by
        intro x hx
        rw [List.mem_singleton.1 hx]; rfl) (by simp only [maxLen]; omega) (by omega) (Nat.le_trans hg.out.size gb.size) (by decide)
      have hkp : Kp (fun x => v.ownBlock = some x) (wr.alloc (.cells #[.int .i64 (j : Int)] 3)) w' := Kp.of_grown hgb fun r hr => hr
      have HR := Lib.hid hr
      have HO : Hid (w'.ownsRow w.heap.size 3 1 v' (upTo (j + 1)).length ((upTo (j + 1)).map (.int .i64))) := by
        show World.ownsRow _ _ _ _ _ _ _
        rw [upTo_succ, List.length_append, List.map_append]; exact ho'
      have HG2 : Hid (Gr w w') := Below.trans (hg.out.trans gb) (hkp.below (fun b hb => (ownsRow_type ho.out hb).2) (hg.out.trans gb).size)
      clear hi hz0 hz1 hz2 gb hb hr ho' hgb hkp
      go_wp2_with (first
        | (at_builtin; refine wpList_append_run _ rfl _ _ _ _ rfl _ _ (by rfl) (by rfl) _ _ HR.out ?_)
        | fail)
      go_roundg (n - (j + 1))
      case measure => omega
      case rel => exact ⟨j + 1, _, by omega, rfl, by go_num, rfl, HO, HG2⟩
    · obtain rfl : j = n := by omega
      go_wp2_with fail
      exact hR.out _ _ ho.out hg.out

/-- Rows of numbers that the call made. -/
def RowsOwn (B : Nat) (w : World) (p : Option Addr) (D : List (List Int)) : Prop :=
  D = [] ∨ ∃ b vs, p = some ⟨b, 0, none⟩ ∧ B ≤ b ∧ BlkT w b 38 vs ∧ ∀ (i : Nat) (d : List Int), D[i]? = some d → ∃ v, vs[i]? = some v ∧ IntsOwn w B v d
/-- What Reduce says. -/
def RetReduce (x : Pb) (w : World) (en : Ending) (w' : World) : Prop := Gr w w' ∧
  ((checkP x.D x.cons ≠ 0 ∧ en = .returned (.tuple #[.slice none 0 0, .bool false, .int .i64 (checkP x.D x.cons)])) ∨
   (checkP x.D x.cons = 0 ∧ RedNo x.cons x.D ∧ en = .returned (.tuple #[.slice none 0 0, .bool false, .int .i64 0])) ∨
   (checkP x.D x.cons = 0 ∧ ∃ E p c, RedOk x.cons x.D E ∧ en = .returned (.tuple #[.slice p E.length c, .bool true, .int .i64 0]) ∧ RowsOwn w.heap.size w' p E ∧ E.length ≤ c ∧ c ≤ 9223372036854775807 ∧ (∀ d ∈ E, ∀ y ∈ d, Near y) ∧ ∀ d ∈ E, d.length ≤ 100))
theorem check_zero {D : List (List Int)} {C : List Con} (h : checkP D C = 0) : (∀ d ∈ D, okDom d = true) ∧ (∀ c ∈ C, c.ok D.length = true) ∧ D.length ≤ 50 ∧ C.length ≤ 100 ∧ ∀ d ∈ D, d.length ≤ 100 := by
  unfold checkP at h
  by_cases h1 : (D.all okDom && C.all fun c => c.ok D.length) = true
  · rw [if_pos h1] at h
    rw [Bool.and_eq_true, List.all_eq_true, List.all_eq_true] at h1
    cases h2 : largeP D C with
    | true => rw [h2] at h; simp at h
    | false =>
      rw [largeP, Bool.or_eq_false_iff, Bool.or_eq_false_iff] at h2
      refine ⟨h1.1, h1.2, by have := of_decide_eq_false h2.1; omega, by have := of_decide_eq_false h2.2.1; omega, fun d hd => ?_⟩
      have := List.any_eq_false.1 h2.2.2 d hd
      simp at this; exact this
  · rw [if_neg h1] at h; simp at h
theorem checkP_cases (D : List (List Int)) (C : List Con) : checkP D C = 0 ∨ checkP D C = 1 ∨ checkP D C = 9 := by
  unfold checkP
  split
  · split
    · exact .inr (.inr rfl)
    · exact .inl rfl
  · exact .inr (.inl rfl)
theorem EngW.rowsOwn {F : Fam} {w0 : World} {e dB : Nat} {D : List (List Int)} {w : World} (h : EngW F w0 e dB D w) {dp : Option Addr} (hdp : 0 < D.length → dp = some ⟨dB, 0, none⟩) : RowsOwn w0.heap.size w dp D := by
  by_cases h0 : 0 < D.length
  · obtain ⟨vs, k1, k2⟩ := h.row h0
    exact .inr ⟨dB, vs, hdp h0, h.ge.2, k1, k2⟩
  · exact .inl (List.eq_nil_of_length_eq_zero (by omega))

set_option maxHeartbeats 4000000 in
set_option maxRecDepth 100000 in
theorem reduceP_calls (x : Pb) (w : World) (hx : x.In w) : Calls Try.prog 10 #[x.val] w (RetReduce x w) := by
  have HX := Lib.hid hx
  have hR1 : Hid (∀ ec w', checkP x.D x.cons = ec → ec ≠ 0 → Gr w w' → RetReduce x w (.returned (.tuple #[.slice none 0 0, .bool false, .int .i64 ec])) w') := fun ec w' h1 h2 h3 => ⟨h3, .inl ⟨by rw [h1]; exact h2, by rw [h1]⟩⟩
  have hR2 : Hid (∀ w', checkP x.D x.cons = 0 → RedNo x.cons x.D → Gr w w' → RetReduce x w (.returned (.tuple #[.slice none 0 0, .bool false, .int .i64 0])) w') := fun w' h1 h2 h3 => ⟨h3, .inr (.inl ⟨h1, h2, rfl⟩)⟩
  have hR3 : Hid (∀ E p c w', checkP x.D x.cons = 0 → RedOk x.cons x.D E → RowsOwn w.heap.size w' p E → E.length ≤ c ∧ c ≤ 9223372036854775807 → (∀ d ∈ E, ∀ y ∈ d, Near y) → (∀ d ∈ E, d.length ≤ 100) → Gr w w' → RetReduce x w (.returned (.tuple #[.slice p E.length c, .bool true, .int .i64 0])) w') := fun E p c w' h1 h2 h3 h4 h5 h6 h7 => ⟨h7, .inr (.inr ⟨h1, E, p, c, h2, rfl, h3, h4.1, h4.2, h5, h6⟩)⟩
  generalize RetReduce x w = Q at hR1 hR2 hR3 ⊢
  have HVal := Lib.hid (show x.val = .agg #[.slice x.dp x.D.length x.dc, .slice x.cp x.C.length x.cc] from rfl)
  rw [HVal.out]
  clear hx
  go_enter Try.func10, Try.ntmps10
  try simp only [List.append_eq, List.cons_append, List.nil_append]
  go_upto_region 1 with fail
  have hB := BlkT.new w 25 #[.slice x.dp x.D.length x.dc, .slice x.cp x.C.length x.cc]
  have gA : Gr w (w.alloc (.cells #[.slice x.dp x.D.length x.dc, .slice x.cp x.C.length x.cc] 25)) := by go_grown
  generalize hwA : w.alloc (.cells #[.slice x.dp x.D.length x.dc, .slice x.cp x.C.length x.cc] 25) = wA at *
  clear hwA
  have HB := Lib.hid hB
  have HG := Lib.hid gA
  have b0 := hB.cell 0 (v := .slice x.dp x.D.length x.dc) rfl
  have b1 := hB.cell 1 (v := .slice x.cp x.C.length x.cc) rfl
  have Hc := Lib.hid (check_calls x wA (HX.out.mono gA))
  rw [HVal.out] at Hc
  obtain ⟨ec, hec⟩ : ∃ ec, checkP x.D x.cons = ec := ⟨_, rfl⟩
  rw [hec] at Hc
  have HEC := Lib.hid hec
  clear hB gA hec
  by_cases h0 : ec = 0
  case neg =>
    have hb1 : (ec == 0) = false := beq_eq_false_iff_ne.2 h0
    have hb2 : (ec != 0) = true := by rw [bne, hb1]; rfl
    have H0 := Lib.hid h0
    clear h0
    go_wp2_with (first
      | (go_at_call 9; refine Hc.out.mono ?_; rintro e1 w1 ⟨rfl, hb⟩; have HG1 := Lib.hid (HG.out.trans (show Gr wA w1 from hb)); clear hb b0 b1)
      | fail)
    exact hR1.out ec _ HEC.out H0.out HG1.out
  subst h0
  obtain ⟨c1, c2, c3, c4, c5⟩ := check_zero HEC.out
  have Hne := Lib.hid (fun W (hW : Gr wA W) => newEngine_calls x W (HX.out.mono (HG.out.trans hW)) c2 (fun d hd => (okDom_rise (c1 d hd)).2) c5 c3 (by rw [Pb.cons, List.length_map] at c4; exact c4))
  rw [HVal.out] at Hne
  clear c1 c2 c3 c4 c5
  go_upto_region 5 with (first
    | (go_at_call 9; refine Hc.out.mono ?_; rintro e1 w1 ⟨rfl, hb⟩; have HG1 := Lib.hid (show Gr wA w1 from hb); have b0 := HG1.out.at b0; have b1 := HG1.out.at b1; clear hb)
    | (go_at_call 30; refine (Hne.out _ HG1.out).mono ?_; rintro e2 w2 ⟨F, e, dB, rfl, hFC, hFN, hFO, hFW, hEW, hg2⟩; have HFC := Lib.hid hFC; have HFO := Lib.hid hFO; have HFW := Lib.hid hFW; have HEW := Lib.hid hEW; have HG2 := Lib.hid hg2; clear hFC hFN hFO hFW hEW hg2)
    | fail)
  have HCO := Lib.hid (show F.cons = x.cons by rw [Fam.cons, HFC.out]; rfl)
  obtain ⟨dp0, dc0, -, a1, -, -, -, -, -⟩ := HEW.out.cells
  have Hal := Lib.hid (all_calls' e F.C.length F.pc F.cc w2 a1 (by have := HFO.out.few; omega))
  clear a1
  go_upto_region 6 with (first
    | (go_at_call 32; refine Hal.out.mono ?_; rintro e3 w3 ⟨va, rfl, hown, hg3⟩; have HOW := Lib.hid hown; have HG3 := Lib.hid hg3; clear hown hg3)
    | fail)
  have hUBn : ∀ g, va.ownBlock = some g → ¬ F.UB g := fun g hg hub => by
    obtain ⟨v, hv, hvg⟩ := hub
    obtain ⟨i, hi⟩ := List.getElem?_of_mem hv
    obtain ⟨u, hu⟩ : ∃ u, F.U[i]? = some u := ⟨_, List.getElem?_eq_getElem (by rw [← HFO.out.lenU]; exact (List.getElem?_eq_some_iff.1 hi).1)⟩
    have h1 := (ownsRow_type (HFW.out.own i v u hi hu) hvg).1.lt
    have h2 := (ownsRow_type HOW.out hg).2
    omega
  have h12 : Gr w w1 := HG.out.trans HG1.out
  obtain ⟨pa, ca, rfl, htd⟩ := TodoM.own (F := F) (w0 := w1) (w := w3) (v := va) (T := upTo F.C.length) (ownsRow_base HOW.out HG2.out.size) (fun k hk => by have := upTo_mem.1 hk; have := HFO.out.few; exact ⟨by omega, by omega⟩) hUBn
  have Hrd := Lib.hid (reduce_calls F w1 e dB x.D pa ca (upTo F.C.length) w3 HFO.out (HFW.out.gr' HG3.out) (HEW.out.gr HG3.out) htd (upTo_nodup _) (fun k hk => by have := upTo_mem.1 hk; exact ⟨this.1, by omega⟩) (fun k y hk hn => absurd (upTo_mem.2 ⟨by omega, by
    have := (List.getElem?_eq_some_iff.1 hk).1
    rw [Fam.cons, List.length_map] at this
    omega⟩) hn))
  have HMG : Hid (∀ W, Kp (MutR F dB pa) w3 W → Gr w W) := fun W hk => by
    have h3 : Gr w1 w3 := HG2.out.trans HG3.out
    refine Below.trans (h12.trans h3) (hk.below (fun b hb => ?_) (h12.trans h3).size)
    have h1 := h12.size
    have h2 := HG2.out.size
    rcases hb with rfl | ⟨v, hv, hvg⟩ | ⟨a, ha, rfl⟩
    · have := HEW.out.ge.2; omega
    · obtain ⟨i, hi⟩ := List.getElem?_of_mem hv
      obtain ⟨u, hu⟩ : ∃ u, F.U[i]? = some u := ⟨_, List.getElem?_eq_getElem (by rw [← HFO.out.lenU]; exact (List.getElem?_eq_some_iff.1 hi).1)⟩
      have := (ownsRow_type (HFW.out.own i v u hi hu) hvg).2
      omega
    · have h4 : (Value.slice pa (upTo F.C.length).length ca).ownBlock = some a.block := by rw [ha]; rfl
      have := (ownsRow_type HOW.out h4).2
      omega
  clear hUBn htd h12
  by_cases hE : ∃ E, RedOk F.cons x.D E
  · go_wp2_with (first
      | (go_at_call 31; refine Hrd.out.mono ?_; rintro e4 w4 ⟨rb, rfl, hfw, hkp, hyes, hno⟩; obtain rfl : rb = true := (by
          cases rb with
          | true => rfl
          | false => obtain ⟨E, hE⟩ := hE; exact (RedOk.not hE (hno rfl)).elim); obtain ⟨E, hEW', hOk⟩ := hyes rfl; obtain ⟨dp1, dc1, -, -, a2, -, k1, k2, k3⟩ := hEW'.cells; have HFin := Lib.hid (hR3.out E dp1 dc1 w4 HEC.out (HCO.out ▸ hOk) (by
            have h1w : Gr w w1 := HG.out.trans HG1.out
            rcases hEW'.rowsOwn k3 with h | ⟨b, vs, h1, h2, h3, h4⟩
            · exact .inl h
            · exact .inr ⟨b, vs, h1, Nat.le_trans h1w.size h2, h3, fun i d hi => by
                obtain ⟨v, h5, h6⟩ := h4 i d hi
                exact ⟨v, h5, ownsRow_base h6 h1w.size⟩⟩) ⟨k1, k2⟩ hEW'.near hEW'.short (HMG.out _ hkp)); clear hfw hkp hyes hno hEW' hOk k1 k2 k3)
      | fail)
    exact HFin.out
  · go_wp2_with (first
      | (go_at_call 31; refine Hrd.out.mono ?_; rintro e4 w4 ⟨rb, rfl, hfw, hkp, hyes, hno⟩; obtain rfl : rb = false := (by
          cases rb with
          | false => rfl
          | true => obtain ⟨E, -, hOk⟩ := hyes rfl; exact absurd ⟨E, hOk⟩ hE); have HFin := Lib.hid (hR2.out w4 HEC.out (HCO.out ▸ hno rfl) (HMG.out _ hkp)); clear hfw hkp hyes hno)
      | fail)
    exact HFin.out
end Go.Proofs.Ytbapmokbkjmdcaa
