/-
  DomainMemory: the law's walk.
-/
import Derived.Test.YtbapmokbkjmdcaaDM01
import Derived.Test.YtbapmokbkjmdcaaDO01
namespace Go.Proofs.Ytbapmokbkjmdcaa
open Go.RowKit Go.Maps Go.Lib

/-- A copy of a row, on another block than r. -/
def rmV (r : Option Nat) (d : List Int) : VP := fun v w => Rmy 2 (-777) w v d ∧ ∀ g, v.ownBlock = some g → r ≠ some g
theorem rmV_stable {r : Option Nat} {d : List Int} : ∀ v w w', rmV r d v w → Kp (fun b => r = some b) w w' → rmV r d v w' := fun _ _ _ ⟨h1, h2⟩ hk => ⟨h1.kp hk fun g hg hc => h2 g hg hc, h2⟩
def rmsV (r : Option Nat) (d : List Int) : VP := fun t w => ∃ b v, t = .slice (some ⟨b, 0, none⟩) 1 1 ∧ BlkT w b 38 #[v] ∧ r ≠ some b ∧ rmV r d v w
theorem rmsV_stable {r : Option Nat} {d : List Int} : ∀ v w w', rmsV r d v w → Kp (fun b => r = some b) w w' → rmsV r d v w' := fun _ _ _ ⟨b, v, h1, h2, h3, h4⟩ hk => ⟨b, v, h1, h2.kp hk h3, h3, rmV_stable _ _ _ h4 hk⟩
def rmG (t : TypeId) (L : List Int) : VP := fun v w => Rmy t (-7) w v L
theorem rmG_stable {t : TypeId} {L : List Int} : ∀ v w w', rmG t L v w → Gr w w' → rmG t L v w' := fun _ _ _ h hg => h.gr hg
/-- The domains' copies, as they are laid. -/
structure QD (x : Pb) (w1 : World) (bq : Nat) (dv0 dv : Value) (xs : List Value) (j : Nat) (w : World) : Prop where
  blk : BlkT w bq 25 #[dv0, .slice none 0 0]
  rmd : RmD w1 x.D dv xs j w
  gr : Gr w1 w
  ge : w1.heap.size ≤ bq
theorem QD.gr' {x : Pb} {w1 w w' : World} {bq : Nat} {dv0 dv : Value} {xs : List Value} {j : Nat} (h : QD x w1 bq dv0 dv xs j w) (hg : Gr w w') : QD x w1 bq dv0 dv xs j w' := ⟨h.blk.gr hg, h.rmd.gr hg, h.gr.trans hg, h.ge⟩
theorem QD.store {x : Pb} {w1 w : World} {bq : Nat} {dv0 dv : Value} {xs : List Value} {j : Nat} (h : QD x w1 bq dv0 dv xs j w) : QD x w1 bq dv dv xs j (w.setCell ⟨bq, 0, none⟩ dv) := by
  have hk : Kp (· = bq) w (w.setCell ⟨bq, 0, none⟩ dv) := Kp.set rfl
  exact ⟨h.blk.set 0 dv, h.rmd.kp hk fun b hb => by rw [hb]; exact ⟨OfT.not (.of h.blk) (by decide), OfT.not (.of h.blk) (by decide)⟩, Below.trans h.gr (hk.below (fun b hb => by rw [hb]; exact h.ge) h.gr.size), h.ge⟩

theorem RmC.eq {w : World} {y y' : Cn} (h : RmC w y y') : ∃ g1 g2, (y'.vp = some ⟨g1, 0, none⟩ ∧ y'.vs = y.vs ∧ y'.vc = y.vs.length + 3) ∧ (y'.cp = some ⟨g2, 0, none⟩ ∧ y'.cs = y.cs ∧ y'.cc = y.cs.length + 3) ∧ BlkT w g1 3 (ints (y.vs ++ [-7, -7, -7])) ∧ BlkT w g2 2 (ints (y.cs ++ [-7, -7, -7])) := by
  obtain ⟨g1, k1, k2⟩ := h.va
  obtain ⟨g2, k3, k4⟩ := h.co
  injection k1 with a1 a2 a3
  injection k3 with c1 c2 c3
  exact ⟨g1, g2, ⟨a1, h.vs.1, a3⟩, ⟨c1, h.vs.2.1, c3⟩, k2, k4⟩
theorem RmD.at {w1 w : World} {D : List (List Int)} {p : Option Addr} {c n : Nat} {xs : List Value} (h : RmD w1 D (.slice p n c) xs D.length w) {i : Nat} {d : List Int} (hd : D[i]? = some d) : ∃ gb g, p = some ⟨gb, 0, none⟩ ∧ w.cell? ⟨gb, i, none⟩ = some (.slice (some ⟨g, 0, none⟩) d.length (d.length + 3)) ∧ BlkT w g 2 (ints (d ++ [-777, -777, -777])) ∧ D.length ≤ c ∧ c ≤ 9223372036854775807 := by
  have hi : i < D.length := (List.getElem?_eq_some_iff.1 hd).1
  have h0 := h.row
  rcases h.row.2 with ⟨_, h1⟩ | ⟨g, cap, cur, e0, h1, h2, h3, h4, h5, h6⟩
  · omega
  · cases e0
    simp only [maxLen] at h4
    obtain ⟨v, h7, g', rfl, h8⟩ := h.each i d hi hd
    exact ⟨g, g', rfl, by rw [World.ownsRow.cellAt h0 i (by omega)]; exact h7, h8, h3, by omega⟩
/-- A box that holds nothing yet. -/
def ZB (w : World) (B : Nat) : Prop := BlkT w B 42 #[.int .i64 0, .slice none 0 0, .slice none 0 0, .int .i64 0, .int .i64 0]
def ptr0 (B : Nat) : Value := .pointer (some ⟨B, 0, none⟩)
theorem ptr0_ne (B : Nat) : ptr0 B ≠ undef := fun e => by cases e
theorem ptr0_inj {B B' : Nat} (h : ptr0 B = ptr0 B') : B = B' := by cases h; rfl
def ptrV0 : VP := fun v _ => ∃ B, v = ptr0 B
theorem ptrV0_stable {R : World → World → Prop} : ∀ v w w', ptrV0 v w → R w w' → ptrV0 v w' := fun _ _ _ h _ => h
/-- Two boxes (operations 10 and 11), the first of which is filled late (operation 12). -/
structure BoxJ (B0 : Nat) (y : Cn) (listed : Array Bool) (a : Act) (w : World) : Prop where
  x1 : listed.getD 10 false = true → ∀ B, a.tmps[24]?.getD undef = ptr0 B → B0 ≤ B ∧ B < w.heap.size ∧ (listed.getD 12 false = false → ZB w B) ∧ (listed.getD 12 false = true → CnBlk w B y)
  x2 : listed.getD 11 false = true → ∀ B, a.tmps[25]?.getD undef = ptr0 B → B0 ≤ B ∧ B < w.heap.size ∧ ZB w B
  x3 : listed.getD 10 false = true → listed.getD 11 false = true → ∀ B, a.tmps[24]?.getD undef = ptr0 B → a.tmps[25]?.getD undef ≠ ptr0 B
  x4 : listed.getD 12 false = true → listed.getD 10 false = true
theorem BoxJ.start (B0 : Nat) (y : Cn) (m : Nat) (a : Act) (w : World) : BoxJ B0 y (Array.replicate m false) a w := by
  have : ∀ i, (Array.replicate m false).getD i false = false := by
    intro i
    rw [Array.getD_eq_getD_getElem?, Array.getElem?_replicate]
    split <;> rfl
  refine ⟨fun h => ?_, fun h => ?_, fun h => ?_, fun h => ?_⟩ <;> (rw [this] at h; cases h)
section
variable {B0 : Nat} {y : Cn} {listed : Array Bool} {a : Act} {w w' : World} {v : Value}
theorem BoxJ.other {i : Nat} {t : Option Tmp} (hi : (i != 10 && i != 11 && i != 12 && t != some 24 && t != some 25) = true) (listed : Array Bool) (a : Act) (w w' : World) (v : Value) (h : BoxJ B0 y listed a w) (hg : Gr w w') : BoxJ B0 y (listed.setIfInBounds i true) (a.put t v) w' := by
  simp only [Bool.and_eq_true, bne_iff_ne] at hi
  obtain ⟨⟨⟨⟨h10, h11⟩, h12⟩, t24⟩, t25⟩ := hi
  refine ⟨?_, ?_, ?_, ?_⟩
  all_goals simp only [Go.getD_set_ne false h10, Go.getD_set_ne false h11, Go.getD_set_ne false h12, put_ne t24, put_ne t25]
  · exact fun k B hB => by
      obtain ⟨h1, h2, h3, h4⟩ := h.x1 k B hB
      exact ⟨h1, Nat.lt_of_lt_of_le h2 hg.size, fun k => BlkT.gr (h3 k) hg, fun k => BlkT.gr (h4 k) hg⟩
  · exact fun k B hB => by
      obtain ⟨h1, h2, h3⟩ := h.x2 k B hB
      exact ⟨h1, Nat.lt_of_lt_of_le h2 hg.size, BlkT.gr h3 hg⟩
  · exact h.x3
  · exact h.x4
theorem BoxJ.a10 (h : BoxJ B0 y listed a w) (hl : listed.getD 10 true = false) (hg : Gr w w') {B : Nat} (h0 : B0 ≤ B) (h1 : w.heap.size ≤ B) (h2 : B < w'.heap.size) (hz : ZB w' B) : BoxJ B0 y (listed.setIfInBounds 10 true) (a.put (some 24) (ptr0 B)) w' := by
  have hlf := getD_tf hl
  have hn12 : listed.getD 12 false = false := by
    cases h12 : listed.getD 12 false with
    | false => rfl
    | true => have := h.x4 h12; rw [hlf] at this; cases this
  refine ⟨fun _ B' hB => ?_, ?_, fun _ k11 B' hB => ?_, ?_⟩
  · obtain rfl := ptr0_inj (put_eq hB (ptr0_ne _))
    rw [Go.getD_set_ne false (by decide)]
    exact ⟨h0, h2, fun _ => hz, fun k => by rw [hn12] at k; cases k⟩
  · rw [Go.getD_set_ne false (by decide), put_ne (by decide)]
    intro k B' hB
    obtain ⟨k1, k2, k3⟩ := h.x2 k B' hB
    exact ⟨k1, Nat.lt_of_lt_of_le k2 hg.size, BlkT.gr k3 hg⟩
  · rw [Go.getD_set_ne false (by decide)] at k11
    rw [put_ne (by decide)]
    have := ptr0_inj (put_eq hB (ptr0_ne _))
    intro e
    have := (h.x2 k11 B' e).2.1
    omega
  · rw [Go.getD_set_ne false (by decide)]
    intro k
    rw [hn12] at k; cases k
theorem BoxJ.a11 (h : BoxJ B0 y listed a w) (hg : Gr w w') {B : Nat} (h0 : B0 ≤ B) (h1 : w.heap.size ≤ B) (h2 : B < w'.heap.size) (hz : ZB w' B) : BoxJ B0 y (listed.setIfInBounds 11 true) (a.put (some 25) (ptr0 B)) w' := by
  refine ⟨?_, fun _ B' hB => ?_, fun k10 _ B' hB e => ?_, ?_⟩
  · rw [Go.getD_set_ne false (by decide), Go.getD_set_ne false (by decide), put_ne (by decide)]
    intro k B' hB
    obtain ⟨k1, k2, k3, k4⟩ := h.x1 k B' hB
    exact ⟨k1, Nat.lt_of_lt_of_le k2 hg.size, fun k => BlkT.gr (k3 k) hg, fun k => BlkT.gr (k4 k) hg⟩
  · obtain rfl := ptr0_inj (put_eq hB (ptr0_ne _))
    exact ⟨h0, h2, hz⟩
  · rw [Go.getD_set_ne false (by decide)] at k10
    rw [put_ne (by decide)] at hB
    have := ptr0_inj (put_eq e (ptr0_ne _))
    have := (h.x1 k10 B' hB).2.1
    omega
  · rw [Go.getD_set_ne false (by decide), Go.getD_set_ne false (by decide)]
    exact h.x4
theorem BoxJ.s12 (h : BoxJ B0 y listed a w) (hl : listed.getD 12 true = false) (h10 : listed.getD 10 false = true) {B : Nat} (hB : a.tmps[24]?.getD undef = ptr0 B) (hk : Kp (· = B) w w') (hb : CnBlk w' B y) (v : Value) : BoxJ B0 y (listed.setIfInBounds 12 true) (a.put none v) w' := by
  refine ⟨fun k B' hB' => ?_, fun k B' hB' => ?_, ?_, fun _ => ?_⟩
  · rw [put_ne (by decide)] at hB'
    rw [Go.getD_set_ne false (by decide)] at k
    obtain rfl := ptr0_inj (hB.symm.trans hB')
    obtain ⟨k1, k2, _⟩ := h.x1 k _ hB
    exact ⟨k1, Nat.lt_of_lt_of_le k2 hk.size, fun e => (by rw [getD_set_eq hl] at e; cases e), fun _ => hb⟩
  · rw [put_ne (by decide)] at hB'
    rw [Go.getD_set_ne false (by decide)] at k
    obtain ⟨k1, k2, k3⟩ := h.x2 k _ hB'
    exact ⟨k1, Nat.lt_of_lt_of_le k2 hk.size, BlkT.kp k3 hk fun e => by
      have e : B' = B := e
      subst e
      exact h.x3 h10 k _ hB hB'⟩
  · rw [Go.getD_set_ne false (by decide), Go.getD_set_ne false (by decide), put_ne (by decide), put_ne (by decide)]
    exact h.x3
  · rw [Go.getD_set_ne false (by decide)]; exact h10
theorem BoxJ.done {m : Nat} (h : BoxJ B0 y (Array.replicate m true) a w) (hm : 12 < m) {B B' : Nat} (h1 : a.tmps[24]?.getD undef = ptr0 B) (h2 : a.tmps[25]?.getD undef = ptr0 B') : CnBlk w B y ∧ ZB w B' ∧ B ≠ B' ∧ B0 ≤ B ∧ B0 ≤ B' := by
  have hl : ∀ i, i < m → (Array.replicate m true).getD i false = true := fun i hi => by
    rw [Array.getD_eq_getD_getElem?, Array.getElem?_replicate, if_pos hi]; rfl
  obtain ⟨k1, _, _, k4⟩ := h.x1 (hl 10 (by omega)) B h1
  obtain ⟨k5, _, k7⟩ := h.x2 (hl 11 (by omega)) B' h2
  exact ⟨k4 (hl 12 hm), k7, fun e => by subst e; exact h.x3 (hl 10 (by omega)) (hl 11 (by omega)) B h1 h2, k1, k5⟩
end

set_option maxHeartbeats 32000000 in
set_option maxRecDepth 100000 in
theorem domainMemory_walk (x : Pb) (most v : Int) (w : World) (hx : x.In w ∧ x.Sz) (_ : In64 most) (hv : In64 v) : Calls Try.prog 8 #[x.val, .int .i64 most, .int .i64 v] w (Ret (.bool true) w) := by
  have hR : Hid (∀ w', Gr w w' → Ret (.bool true) w (.returned (.bool true)) w') := fun w' hg => ⟨rfl, hg⟩
  generalize Ret (.bool true) w = Q at hR ⊢
  have HX := Lib.hid hx.1
  have HSZ := Lib.hid hx.2
  have HV := Lib.hid hv
  have Hth := Lib.hid there_calls
  have HVal := Lib.hid (show x.val = .agg #[.slice x.dp x.D.length x.dc, .slice x.cp x.C.length x.cc] from rfl)
  have hDl := hx.1.lenD.1
  have hDc := hx.1.lenD.2
  have hCl := hx.1.lenC.1
  have hCc := hx.1.lenC.2
  rw [HVal.out]
  clear hx hv
  go_enter Try.func8, Try.ntmps8
  try simp only [List.append_eq, List.cons_append, List.nil_append]
  go_upto_region 1 with fail
  have hB := BlkT.new w 25 #[.slice x.dp x.D.length x.dc, .slice x.cp x.C.length x.cc]
  have gA : Gr w (w.alloc (.cells #[.slice x.dp x.D.length x.dc, .slice x.cp x.C.length x.cc] 25)) := by go_grown
  obtain ⟨bx, hbx⟩ : ∃ bx, w.heap.size = bx := ⟨_, rfl⟩
  rw [hbx] at hB ⊢
  clear hbx
  generalize w.alloc (.cells #[.slice x.dp x.D.length x.dc, .slice x.cp x.C.length x.cc] 25) = wA at *
  have HB := Lib.hid hB
  have HG := Lib.hid gA
  clear hB gA
  by_cases hm : 20000 < most
  case pos =>
    have hd : decide (20000 < most) = true := decide_eq_true hm
    go_wp2_with fail
    exact hR.out _ HG.out
  have hd : decide (20000 < most) = false := decide_eq_false hm
  have HM := Lib.hid (show most ≤ 20000 by omega)
  clear hm
  go_upto_region 5 with (first
    | (go_at_call 14; refine (Hth.out _).mono ?_; rintro e1 w1 ⟨rfl, hb⟩; have HG1 := Lib.hid (HG.out.trans (show Gr wA w1 from hb)); have HB1 := Lib.hid (HB.out.gr (show Gr wA w1 from hb)); clear hb)
    | fail)
  clear hd
  go_upto_region 6 with fail
  have hq := BlkT.new w1 25 #[.slice none 0 0, .slice none 0 0]
  have gq : Gr w1 (w1.alloc (.cells #[.slice none 0 0, .slice none 0 0] 25)) := by go_grown
  obtain ⟨bq, hbq⟩ : ∃ bq, w1.heap.size = bq := ⟨_, rfl⟩
  have HBQ := Lib.hid hbq
  rw [hbq] at hq ⊢
  clear hbq
  generalize w1.alloc (.cells #[.slice none 0 0, .slice none 0 0] 25) = w2 at *
  have HQ0 : Hid (QD x w1 bq (.slice none 0 0) (.slice none 0 0) [] 0 w2) := ⟨hq, ⟨World.ownsRow_nil _ _ _ 1, fun i d hi => by omega⟩, gq, by rw [HBQ.out]; exact Nat.le_refl _⟩
  have b0 := (HB1.out.gr gq).cell 0 (v := .slice x.dp x.D.length x.dc) rfl
  clear hq gq
  go_upto_region 7 with fail
  clear b0
  go_loopg [38] x.D.length (fun k iv wr => ∃ (j : Nat) (dv : Value) (xs : List Value), j ≤ x.D.length ∧ k = x.D.length - j ∧ iv = .int .i64 ((j : Nat) : Int) ∧ Hid (QD x w1 bq dv dv xs j wr))
  case atStart => exact ⟨0, _, _, Nat.zero_le _, rfl, rfl, HQ0⟩
  case round =>
    clear HQ0
    obtain ⟨j, dv, xs, hj, rfl, rfl, hqd⟩ := hrel
    by_cases hlt : j < x.D.length
    case pos =>
      obtain ⟨d, hd⟩ : ∃ d, x.D[j]? = some d := ⟨_, List.getElem?_eq_getElem hlt⟩
      obtain ⟨rb, ro, hdp, hrb, hrd⟩ := (HX.out.mono HG1.out).rows.resolve_left (fun e0 => by rw [e0] at hlt; simp at hlt)
      obtain ⟨qd, cd, d0, hsl⟩ := hrd j d hd
      have HD0 := Lib.hid d0
      have HDP := Lib.hid hdp
      have HRB := Lib.hid hrb
      have HSL := Lib.hid hsl
      have HD := Lib.hid hd
      have HSD := Lib.hid (HSZ.out.row d (List.mem_of_getElem? hd))
      have HDB : Hid ((j + 1) * 24 ≤ 140737488355328) := by show _ ≤ _; have := HSZ.out.dom; omega
      clear d0 hsl hrd hdp hrb hd
      obtain ⟨dq, dqc, rfl⟩ := ownsRow_form hqd.out.rmd.row
      generalize wr = wI at *
      have HXB := Lib.hid (HB1.out.gr hqd.out.gr)
      have HE2 := Lib.hid (hqd.out.blk.cell 0 (v := .slice dq j dqc) rfl)
      have HE3 := Lib.hid (HXB.out.cell 0 (v := .slice x.dp x.D.length x.dc) rfl)
      have hnr : ∀ {b : Nat} {t : TypeId}, OfT wI b t → t ≠ 38 → ¬ (Value.slice dq j dqc).ownBlock = some b := fun h hne hh => OfT.ne (ownsRow_type hqd.out.rmd.row hh).1 h (fun e => hne e.symm) rfl
      have HEN := Lib.hid (hnr (.of hqd.out.blk) (by decide))
      have HEX := Lib.hid (hnr (.of HXB.out) (by decide))
      have HEC : Hid (¬ (Value.slice dq j dqc).ownBlock = some rb) := fun hh => by
        have h1 := (ownsRow_type hqd.out.rmd.row hh).2
        have h2 := HRB.out
        omega
      have HDL : Hid (∀ g, (Value.slice dq j dqc).ownBlock = some g → g < wI.heap.size) := fun g hh => (ownsRow_type hqd.out.rmd.row hh).1.lt
      have HKG : Hid (∀ W, Kp (fun b => (Value.slice dq j dqc).ownBlock = some b) wI W → Gr w1 W) := fun W hk => Below.trans hqd.out.gr (hk.below (fun b hb => (ownsRow_type hqd.out.rmd.row hb).2) hqd.out.gr.size)
      have E0 := Lib.hid (hqd.out.gr.at HD0.out)
      have hjI : (j : Int) < (x.D.length : Int) := by omega
      rw [HDP.out] at HE3
      clear hnr
      go_upto_region 9 with fail
      refine wp_region_relyA 11 [fx (.pointer (some ⟨bq, 0, none⟩)), fx (.slice dq j dqc), fx (.pointer (some ⟨bx, 0, none⟩)), fx (.slice (some ⟨rb, ro, none⟩) x.D.length x.dc), fx (.int .i64 (j : Nat)), fx (.pointer (some ⟨rb, ro + j, none⟩)), fx (.slice qd d.length cd), rmV (Value.ownBlock (.slice dq j dqc)) d, rmsV (Value.ownBlock (.slice dq j dqc)) d, slV, fx (.pointer (some ⟨bq, 0, none⟩))]
        (Kp (fun b => (Value.ownBlock (.slice dq j dqc)) = some b)) (AppJ 9 50 (fun wz => QD x w1 bq (.slice dq j dqc) (.slice dq j dqc) xs j wz) (fun v wz => ∃ u, QD x w1 bq (.slice dq j dqc) v (xs ++ [u]) (j + 1) wz)) (by kernel_rfl) (by kernel_rfl) (by decide) (by kernel_rfl) (fun _ _ h => Kp.of_gr h) (fun _ _ _ h k => Kp.trans h k) (fun w h => AppJ.start _ _ (hqd.out.gr' h)) (by repeat (first | exact StableR.nil | refine StableR.fix ?_ | refine StableR.cons rmV_stable ?_ | refine StableR.cons rmsV_stable ?_ | refine StableR.cons (fun _ _ _ h _ => h) ?_)) ?_ ?_
      · refine ⟨stepA_plain (fun _ _ h => Kp.of_gr h) (fun listed a w w' v h hg => AppJ.other (fun _ _ h k => h.gr' k) (fun _ _ _ h k => h.imp fun _ h => h.gr' k) rfl listed a w w' v h hg) ?_, ?a1, stepA_plain (fun _ _ h => Kp.of_gr h) (fun listed a w w' v h hg => AppJ.other (fun _ _ h k => h.gr' k) (fun _ _ _ h k => h.imp fun _ h => h.gr' k) rfl listed a w w' v h hg) ?_, ?a3, stepA_plain (fun _ _ h => Kp.of_gr h) (fun listed a w w' v h hg => AppJ.other (fun _ _ h k => h.gr' k) (fun _ _ _ h k => h.imp fun _ h => h.gr' k) rfl listed a w w' v h hg) ?_, stepA_plain (fun _ _ h => Kp.of_gr h) (fun listed a w w' v h hg => AppJ.other (fun _ _ h k => h.gr' k) (fun _ _ _ h k => h.imp fun _ h => h.gr' k) rfl listed a w w' v h hg) ?_, ?a6, ?a7, ?a8, ?a9, stepA_plain (fun _ _ h => Kp.of_gr h) (fun listed a w w' v h hg => AppJ.other (fun _ _ h k => h.gr' k) (fun _ _ _ h k => h.imp fun _ h => h.gr' k) rfl listed a w w' v h hg) ?_, trivial⟩
        case a1 =>
          intro listed fr wr hj hl hpre hg hdef hold
          have h3 : fr.tmps[3]?.getD undef = .pointer (some ⟨bx, 0, none⟩) := hold 3 rfl
          have h7 : fr.tmps[7]?.getD undef = .pointer (some ⟨bq, 0, none⟩) := hold 7 rfl
          have h8 : fr.tmps[8]?.getD undef = .int .i64 (j : Nat) := hold 8 rfl
          clear hold
          have q2 := Kp.cell hg HE2.out HEN.out
          clear hdef
          simp [predsImp, Region.binds, dstAt, fx]
          intros
          rename_i K hK
          go_simp
          exact hK _ _ rfl (Kp.of_gr (Gr.rfl' _)) (AppJ.other (fun _ _ h k => h.gr' k) (fun _ _ _ h k => h.imp fun _ h => h.gr' k) rfl listed fr wr wr _ hj (Gr.rfl' _))
        case a3 =>
          intro listed fr wr hj hl hpre hg hdef hold
          have h3 : fr.tmps[3]?.getD undef = .pointer (some ⟨bx, 0, none⟩) := hold 3 rfl
          have h7 : fr.tmps[7]?.getD undef = .pointer (some ⟨bq, 0, none⟩) := hold 7 rfl
          have h8 : fr.tmps[8]?.getD undef = .int .i64 (j : Nat) := hold 8 rfl
          clear hold
          have q2 := Kp.cell hg HE3.out HEX.out
          clear hdef
          simp [predsImp, Region.binds, dstAt, fx]
          intros
          rename_i K hK
          go_simp
          exact hK _ _ rfl (Kp.of_gr (Gr.rfl' _)) (AppJ.other (fun _ _ h k => h.gr' k) (fun _ _ _ h k => h.imp fun _ h => h.gr' k) rfl listed fr wr wr _ hj (Gr.rfl' _))
        case a6 =>
          intro listed fr wr hj hl hpre hg hdef hold
          have h3 : fr.tmps[3]?.getD undef = .pointer (some ⟨bx, 0, none⟩) := hold 3 rfl
          have h7 : fr.tmps[7]?.getD undef = .pointer (some ⟨bq, 0, none⟩) := hold 7 rfl
          have h8 : fr.tmps[8]?.getD undef = .int .i64 (j : Nat) := hold 8 rfl
          clear hold
          have q2 := Kp.cell hg E0.out HEC.out
          clear hdef
          simp [predsImp, Region.binds, dstAt, fx]
          intros
          rename_i K hK
          go_simp
          exact hK _ _ rfl (Kp.of_gr (Gr.rfl' _)) (AppJ.other (fun _ _ h k => h.gr' k) (fun _ _ _ h k => h.imp fun _ h => h.gr' k) rfl listed fr wr wr _ hj (Gr.rfl' _))
        case a7 =>
          intro listed fr wr hj hl hpre hg hdef hold
          have h3 : fr.tmps[3]?.getD undef = .pointer (some ⟨bx, 0, none⟩) := hold 3 rfl
          have h7 : fr.tmps[7]?.getD undef = .pointer (some ⟨bq, 0, none⟩) := hold 7 rfl
          have h8 : fr.tmps[8]?.getD undef = .int .i64 (j : Nat) := hold 8 rfl
          clear hold
          clear hdef
          simp [predsImp, Region.binds, dstAt, fx]
          intros
          rename_i K hK
          go_simp
          have hgs := HKG.out _ hg
          have hsz := hg.size
          refine (roomy64_calls qd cd d (-777) wr (HSL.out.mono hgs) HSD.out).mono ?_
          rintro e9 w9 ⟨g, rfl, k1, k2, k3⟩
          exact hK _ _ ⟨⟨g, rfl, k2⟩, fun g' hg1 hg2 => by cases hg1; have h2 := HDL.out g hg2; omega⟩ (Kp.of_gr k3) (AppJ.other (fun _ _ h k => h.gr' k) (fun _ _ _ h k => h.imp fun _ h => h.gr' k) rfl listed fr wr _ _ hj k3)
        case a8 =>
          intro listed fr wr hj hl hpre hg hdef hold
          have h3 : fr.tmps[3]?.getD undef = .pointer (some ⟨bx, 0, none⟩) := hold 3 rfl
          have h7 : fr.tmps[7]?.getD undef = .pointer (some ⟨bq, 0, none⟩) := hold 7 rfl
          have h8 : fr.tmps[8]?.getD undef = .int .i64 (j : Nat) := hold 8 rfl
          clear hold
          clear hdef
          simp [predsImp, Region.binds, dstAt]
          intro hc6
          intros
          rename_i K hK
          obtain ⟨g6, h30, h31⟩ := hc6.1
          rw [h30] at hc6
          go_simp
          have hsz := hg.size
          exact hK _ (wr.alloc (.cells #[.slice (some ⟨g6, 0, none⟩) d.length (d.length + 3)] 38)) ⟨_, _, rfl, BlkT.new _ _ _, fun hg2 => (by have h2 := HDL.out _ hg2; omega), rmV_stable _ _ _ hc6 (Kp.of_gr (by go_grown))⟩ (Kp.of_gr (by go_grown)) (AppJ.other (fun _ _ h k => h.gr' k) (fun _ _ _ h k => h.imp fun _ h => h.gr' k) rfl listed fr wr _ _ hj (by go_grown))
        case a9 =>
          intro listed fr wr hj hl hpre hg hdef hold
          have h3 : fr.tmps[3]?.getD undef = .pointer (some ⟨bx, 0, none⟩) := hold 3 rfl
          have h7 : fr.tmps[7]?.getD undef = .pointer (some ⟨bq, 0, none⟩) := hold 7 rfl
          have h8 : fr.tmps[8]?.getD undef = .int .i64 (j : Nat) := hold 8 rfl
          clear hold
          clear hdef
          simp [predsImp, Region.binds, dstAt, fx]
          intro hA hB
          intros
          rename_i K hK
          obtain ⟨b, u, hvb, hbb, _, hcu⟩ := hB
          have hqq := hj.1 (getD_tf hl)
          obtain ⟨v', w', hrun, hrm, hkp⟩ := hqq.rmd.push HD.out hcu.1 HDB.out hqq.gr.size 22 b (hbb.cell 0 rfl)
          obtain ⟨p', c', rfl⟩ := ownsRow_form hrm.row
          exact wp_append_run wr _ _ _ _ rfl _ _ (by simp [Act.eval, hA]) (by simp [Act.eval, hvb]) _ _ hrun (hK _ _ ⟨_, _, _, rfl⟩ hkp (AppJ.step hl ⟨u, ⟨hqq.blk.kp hkp HEN.out, hrm, Below.trans hqq.gr (hkp.below (fun b hb => (ownsRow_type hqq.rmd.row hb).2) hqq.gr.size), hqq.ge⟩⟩))
        all_goals
          intro fr wr hg hold
          have h3 : fr.tmps[3]?.getD undef = .pointer (some ⟨bx, 0, none⟩) := hold 3 rfl
          have h7 : fr.tmps[7]?.getD undef = .pointer (some ⟨bq, 0, none⟩) := hold 7 rfl
          have h8 : fr.tmps[8]?.getD undef = .int .i64 (j : Nat) := hold 8 rfl
          clear hold
          simp [predsImp, Region.binds, dstAt, fx]
          intros
          rename_i K hK
          go_simp
        all_goals exact hK _ _ rfl (Gr.rfl' _)
      · intro wz2 hg
        rintro _ rfl _ rfl _ rfl _ rfl _ rfl _ rfl _ rfl _ - _ - _ ⟨q50, n50, c50, rfl⟩ _ rfl hj2
        simp only [Act.put, List.setIfInBounds_toArray, List.set_cons_succ, List.set_cons_zero, List.drop_succ_cons, List.drop_zero] at hj2 ⊢
        obtain ⟨u, hqs2⟩ := hj2.done (by show 9 < 11; omega) q50 n50 c50 rfl
        obtain ⟨pq2, cq2, hq2⟩ := ownsRow_form hqs2.rmd.row
        cases hq2
        have zq := (hqd.out.blk.kp hg HEN.out).cell 0 (v := .slice dq j dqc) rfl
        have zf := (hqd.out.blk.kp hg HEN.out).open_ 0
        have HQ2 := Lib.hid hqs2.store
        clear hj2 hqs2 hg
        go_wp2_with fail
        go_roundg (x.D.length - (j + 1))
        case measure => omega
        case rel => exact ⟨j + 1, _, _, by omega, rfl, by go_num, HQ2⟩
    obtain rfl : j = x.D.length := by omega
    obtain ⟨dq, dqc, rfl⟩ := ownsRow_form hqd.out.rmd.row
    have b1 := (HB1.out.gr hqd.out.gr).cell 1 (v := .slice x.cp x.C.length x.cc) rfl
    have HQC : Hid (QM x w1 bq (.slice dq x.D.length dqc) xs (.slice none 0 0) (.slice none 0 0) [] 0 wr) := ⟨hqd.out.blk, hqd.out.rmd, World.ownsRow_nil _ _ _ 5, rfl, fun i y hi => by omega, hqd.out.gr, hqd.out.ge⟩
    clear hqd
    go_upto_region 12 with fail
    clear b1
    go_loopg [56] x.C.length (fun k iv wr => ∃ (j : Nat) (cv : Value) (L : List Cn), j ≤ x.C.length ∧ k = x.C.length - j ∧ iv = .int .i64 ((j : Nat) : Int) ∧ Hid (QM x w1 bq (.slice dq x.D.length dqc) xs cv cv L j wr))
    case atStart => exact ⟨0, _, _, Nat.zero_le _, rfl, rfl, HQC⟩
    case round =>
      clear HQC
      obtain ⟨j, cv, L, hj, rfl, rfl, hqm⟩ := hrel
      have b1 := (HB1.out.gr hqm.out.gr).cell 1 (v := .slice x.cp x.C.length x.cc) rfl
      by_cases hjC : j < x.C.length
      case pos =>
        obtain ⟨y, hy⟩ : ∃ y, x.C[j]? = some y := ⟨_, List.getElem?_eq_getElem hjC⟩
        have hyin := List.mem_of_getElem? hy
        have GW := Lib.hid (HG1.out.trans hqm.out.gr)
        obtain ⟨cb, co, hcpe, _, hcells⟩ := (HX.out.mono GW.out).cns.resolve_left (fun e0 => by rw [e0] at hyin; exact (List.not_mem_nil hyin))
        have x0 := hcells _ y hy 0 (.int .i64 y.k) rfl
        have x1 := hcells _ y hy 1 (.slice y.vp y.vs.length y.vc) rfl
        have x2 := hcells _ y hy 2 (.slice y.cp y.cs.length y.cc) rfl
        have x3 := hcells _ y hy 3 (.int .i64 y.op) rfl
        have x4 := hcells _ y hy 4 (.int .i64 y.c) rfl
        simp only [← Nat.add_assoc, Nat.add_zero] at x0 x1 x2 x3 x4
        rw [hcpe] at b1
        have HYI := Lib.hid (HX.out.ins y hyin)
        have HYS := Lib.hid (HSZ.out.each y hyin)
        have HYY := Lib.hid hy
        have hjI : (j : Int) < (x.C.length : Int) := by omega
        clear hy hyin hcells hcpe
        go_upto_region 15 with fail
        clear b1 x0 x1 x2 x3 x4
        have hBC := CnBlk.new wr y
        have gC : Gr wr (wr.alloc (.cells #[.int .i64 y.k, .slice y.vp y.vs.length y.vc, .slice y.cp y.cs.length y.cc, .int .i64 y.op, .int .i64 y.c] 42)) := by go_grown
        obtain ⟨bc, hbc⟩ : ∃ bc, wr.heap.size = bc := ⟨_, rfl⟩
        have HBC := Lib.hid hbc
        rw [hbc] at hBC ⊢
        clear hbc
        generalize wr.alloc (.cells #[.int .i64 y.k, .slice y.vp y.vs.length y.vc, .slice y.cp y.cs.length y.cc, .int .i64 y.op, .int .i64 y.c] 42) = wC at *
        have HBB := Lib.hid hBC
        have GC := Lib.hid gC
        have c1 := BlkT.cell hBC 1 (v := .slice y.vp y.vs.length y.vc) rfl
        have c2 := BlkT.cell hBC 2 (v := .slice y.cp y.cs.length y.cc) rfl
        clear hBC gC
        refine wp_region_rely_tail 7 [fx (.pointer (some ⟨bc, 1, none⟩)), fx (.slice y.vp y.vs.length y.vc), rmG 3 y.vs, fx (.pointer (some ⟨bc, 2, none⟩)), fx (.slice y.cp y.cs.length y.cc), rmG 2 y.cs, fx (.pointer (some ⟨bc, 1, none⟩))]
          (by kernel_rfl) (by kernel_rfl) (by decide) (by repeat (first | exact Stable.nil | refine Stable.fix ?_ | refine Stable.cons rmG_stable ?_)) ?_ ?_
        · refine ⟨?_, ?_, ?a2, ?_, ?_, ?a5, ?_, trivial⟩
          case a2 =>
            intro fr wz hg hold
            have h10 : fr.tmps[10]?.getD undef = .pointer (some ⟨bc, 0, none⟩) := hold 10 rfl
            clear hold
            have C1 := Gr.at hg c1
            have C2 := Gr.at hg c2
            simp [predsImp, Region.binds, dstAt, fx]
            intros
            rename_i K hK
            go_simp
            refine (roomyI_calls y.vp y.vc y.vs (-7) wz ((HYI.out.mono (GW.out.trans (GC.out.trans hg))).vars) HYS.out.1).mono ?_
            rintro e9 w9 ⟨g, rfl, k1, k2, k3⟩
            exact hK _ _ ⟨g, rfl, k2⟩ k3
          case a5 =>
            intro fr wz hg hold
            have h10 : fr.tmps[10]?.getD undef = .pointer (some ⟨bc, 0, none⟩) := hold 10 rfl
            clear hold
            have C1 := Gr.at hg c1
            have C2 := Gr.at hg c2
            simp [predsImp, Region.binds, dstAt, fx]
            intros
            rename_i K hK
            go_simp
            refine (roomy64_calls y.cp y.cc y.cs (-7) wz ((HYI.out.mono (GW.out.trans (GC.out.trans hg))).coefs) HYS.out.2).mono ?_
            rintro e9 w9 ⟨g, rfl, k1, k2, k3⟩
            exact hK _ _ ⟨g, rfl, k2⟩ k3
          all_goals
            intro fr wz hg hold
            have h10 : fr.tmps[10]?.getD undef = .pointer (some ⟨bc, 0, none⟩) := hold 10 rfl
            clear hold
            have C1 := Gr.at hg c1
            have C2 := Gr.at hg c2
            simp [predsImp, Region.binds, dstAt, fx]
            intros
            first
              | (rw [if_pos (by simp [*])]
                 intro K hK)
              | (rename_i K hK)
            go_simp
          all_goals exact hK _ _ rfl (Gr.rfl' _)
        · intro wz hg
          rintro _ rfl _ rfl _ ⟨g1, rfl, hv1⟩ _ rfl _ rfl _ ⟨g2, rfl, hv2⟩ _ rfl
          simp only [finAll, Act.put, List.setIfInBounds_toArray, List.set_cons_succ, List.set_cons_zero, List.drop_succ_cons, List.drop_zero, List.take_zero]
          clear c1 c2
          have hb1 : BlkT wz bc 42 #[.int .i64 y.k, .slice y.vp y.vs.length y.vc, .slice y.cp y.cs.length y.cc, .int .i64 y.op, .int .i64 y.c] := BlkT.gr HBB.out hg
          have z1 := hb1.cell 1 (v := .slice y.vp y.vs.length y.vc) rfl
          have z1f := hb1.open_ 1
          have hb2 := hb1.set 1 (.slice (some ⟨g1, 0, none⟩) y.vs.length (y.vs.length + 3))
          have z2 := hb2.cell 2 (v := .slice y.cp y.cs.length y.cc) rfl
          have z2f := hb2.open_ 2
          have hb3 := hb2.set 2 (.slice (some ⟨g2, 0, none⟩) y.cs.length (y.cs.length + 3))
          obtain ⟨y', hy'⟩ : ∃ y' : Cn, y' = ⟨y.k, some ⟨g1, 0, none⟩, y.vs.length + 3, y.vs, some ⟨g2, 0, none⟩, y.cs.length + 3, y.cs, y.op, y.c⟩ := ⟨_, rfl⟩
          have hks : Kp (· = bc) wz ((wz.setCell ⟨bc, 1, none⟩ (.slice (some ⟨g1, 0, none⟩) y.vs.length (y.vs.length + 3))).setCell ⟨bc, 2, none⟩ (.slice (some ⟨g2, 0, none⟩) y.cs.length (y.cs.length + 3))) := (Kp.set (C := (· = bc)) rfl).trans (Kp.set (C := (· = bc)) rfl)
          have HBY : Hid (BlkT ((wz.setCell ⟨bc, 1, none⟩ (.slice (some ⟨g1, 0, none⟩) y.vs.length (y.vs.length + 3))).setCell ⟨bc, 2, none⟩ (.slice (some ⟨g2, 0, none⟩) y.cs.length (y.cs.length + 3))) bc 42 y'.arr) := by
            rw [hy']; exact hb3
          have hqz := hqm.out.gr' (GC.out.trans hg)
          have hnew : Gr wr ((wz.setCell ⟨bc, 1, none⟩ (.slice (some ⟨g1, 0, none⟩) y.vs.length (y.vs.length + 3))).setCell ⟨bc, 2, none⟩ (.slice (some ⟨g2, 0, none⟩) y.cs.length (y.cs.length + 3))) := Below.trans (GC.out.trans hg) (hks.below (fun b hb => by rw [hb, HBC.out]; exact Nat.le_refl _) (GC.out.trans hg).size)
          have HRC : Hid (RmC ((wz.setCell ⟨bc, 1, none⟩ (.slice (some ⟨g1, 0, none⟩) y.vs.length (y.vs.length + 3))).setCell ⟨bc, 2, none⟩ (.slice (some ⟨g2, 0, none⟩) y.cs.length (y.cs.length + 3))) y y') := by
            rw [hy']
            exact ⟨rfl, ⟨rfl, rfl, rfl, rfl, rfl⟩, ⟨g1, rfl, hv1.kp hks fun e => OfT.ne (.of hv1) (.of hb1) (by decide) e⟩, ⟨g2, rfl, hv2.kp hks fun e => OfT.ne (.of hv2) (.of hb1) (by decide) e⟩⟩
          have HQM2 := Lib.hid (hqm.out.gr' hnew)
          have HYV : Hid (y'.arr = #[.int .i64 y'.k, .slice y'.vp y'.vs.length y'.vc, .slice y'.cp y'.cs.length y'.cc, .int .i64 y'.op, .int .i64 y'.c]) := rfl
          clear hqz hnew hks hb1 hb2 hb3 hv1 hv2 hy' hg
          go_upto_region 16 with fail
          clear z1 z1f z2 z2f
          generalize (wz.setCell ⟨bc, 1, none⟩ (.slice (some ⟨g1, 0, none⟩) y.vs.length (y.vs.length + 3))).setCell ⟨bc, 2, none⟩ (.slice (some ⟨g2, 0, none⟩) y.cs.length (y.cs.length + 3)) = wS at *
          obtain ⟨cq, cqc, hcv, -, -, -⟩ := HQM2.out.own.form
          subst hcv
          have q0 := HQM2.out.blk.cell 1 (v := .slice cq L.length cqc) rfl
          have y0 := HBY.out.cell 0 (v := .int .i64 y'.k) rfl
          have y1 := HBY.out.cell 1 (v := .slice y'.vp y'.vs.length y'.vc) rfl
          have y2 := HBY.out.cell 2 (v := .slice y'.cp y'.cs.length y'.cc) rfl
          have y3 := HBY.out.cell 3 (v := .int .i64 y'.op) rfl
          have y4 := HBY.out.cell 4 (v := .int .i64 y'.c) rfl
          have gy : Gr wS (wS.alloc (.cells #[.int .i64 y'.k, .slice y'.vp y'.vs.length y'.vc, .slice y'.cp y'.cs.length y'.cc, .int .i64 y'.op, .int .i64 y'.c] 42)) := by go_grown
          obtain ⟨v', w', hrun, hqp⟩ := (HQM2.out.gr' gy).push HYY.out (HRC.out.gr gy) (by have := HSZ.out.con; omega) 23 wS.heap.size (BlkT.new wS 42 y'.arr)
          obtain ⟨L1, hL1⟩ : ∃ L1, L ++ [y'] = L1 := ⟨_, rfl⟩
          rw [hL1] at hqp
          obtain ⟨p', c', rfl, -, -, -⟩ := hqp.own.form
          clear hL1
          have HRN := Lib.hid hrun
          have HQP := Lib.hid hqp.store
          have zq := hqp.blk.cell 1 (v := .slice cq L.length cqc) rfl
          have zf := hqp.blk.open_ 1
          clear hrun hqp gy
          go_wp2_with (first
            | (at_builtin; refine wpList_append_run _ rfl _ _ _ _ rfl _ _ (by rfl) (by rfl) _ _ HRN.out ?_)
            | fail)
          go_roundg (x.C.length - (j + 1))
          case measure => omega
          case rel => exact ⟨j + 1, _, _, by omega, rfl, by go_num, HQP⟩
      obtain rfl : j = x.C.length := by omega
      clear b1
      obtain ⟨cq, cqc, hcv, hcns, hcql, hcqc⟩ := hqm.out.own.form
      subst hcv
      have HIN : Hid (∀ d ∈ x.D, ∀ y ∈ d, In64 y) := fun d hd y hy => by
        obtain ⟨i, hi⟩ := List.getElem?_of_mem hd
        obtain ⟨b, o, _, _, hr⟩ := HX.out.rows.resolve_left (fun e0 => by rw [e0] at hd; cases hd)
        obtain ⟨q, c, _, h⟩ := hr i d hi
        exact h.2.2.1 y hy
      obtain ⟨-, hrows, hdql, hdqc⟩ := hqm.out.rmd.rows HIN.out HSZ.out.row
      obtain ⟨z, hz⟩ : ∃ z : Pb, z = ⟨dq, dqc, x.D, cq, cqc, L⟩ := ⟨_, rfl⟩
      have HLC : Hid (∀ (i : Nat) (y' : Cn), L[i]? = some y' → ∃ y, x.C[i]? = some y ∧ RmC wr y y') := fun i y' hy' => by
        have hi : i < x.C.length := by rw [← hqm.out.len]; exact (List.getElem?_eq_some_iff.1 hy').1
        obtain ⟨y'', h1, h2⟩ := hqm.out.each i _ hi (List.getElem?_eq_getElem hi)
        rw [hy'] at h1; cases h1
        exact ⟨_, List.getElem?_eq_getElem hi, h2⟩
      have HGW : Hid (Gr w wr) := HG1.out.trans hqm.out.gr
      have HZI : Hid (∀ W, Gr wr W → z.In W) := fun W hW => by
        rw [hz]
        refine ⟨hrows.mono hW, ⟨hdql, hdqc⟩, hcns.mono hW, ⟨hcql, hcqc⟩, fun y' hy' => ?_⟩
        obtain ⟨i, hi⟩ := List.getElem?_of_mem hy'
        obtain ⟨y, hy, hrc⟩ := HLC.out i y' hi
        have hyin := List.mem_of_getElem? hy
        exact (hrc.gr hW).in_ ((HX.out.ins y hyin).mono (HGW.out.trans hW)) (HSZ.out.each y hyin).1 (HSZ.out.each y hyin).2
      have HZV : Hid (z.val = .agg #[.slice dq x.D.length dqc, .slice cq L.length cqc]) := by rw [hz]; rfl
      have HZD : Hid (z.D = x.D) := by rw [hz]; rfl
      have HZC : Hid (z.cons = x.cons) := by
        rw [hz]
        show L.map Cn.con = x.C.map Cn.con
        apply List.ext_getElem?
        intro i
        rw [List.getElem?_map, List.getElem?_map]
        cases hi : L[i]? with
        | none =>
          rw [List.getElem?_eq_none (by rw [List.getElem?_eq_none_iff] at hi; rw [← hqm.out.len]; exact hi)]
        | some y' =>
          obtain ⟨y, hy, hrc⟩ := HLC.out i y' hi
          rw [hy]
          exact congrArg some hrc.con
      have hLl : L.length = x.C.length := hqm.out.len
      have HLl := Lib.hid hLl
      have HCQ : Hid (CnsAt wr cq L) := hcns
      generalize wr = w3 at *
      have HGD := Lib.hid (And.intro hdql hdqc)
      have HGC := Lib.hid (And.intro hcql hcqc)
      have HBX3 := Lib.hid (HB1.out.gr hqm.out.gr)
      have HBQ3 := Lib.hid hqm.out.blk
      have HRMD := Lib.hid hqm.out.rmd
      have q0 := HBQ3.out.cell 0 (v := .slice dq x.D.length dqc) rfl
      have q1 := HBQ3.out.cell 1 (v := .slice cq L.length cqc) rfl
      have H1 := Lib.hid (reduce_own z w3 (HZI.out w3 (Gr.rfl' _)))
      rw [HZV.out] at H1
      clear hcns hrows hz hqm hLl
      go_upto_region 19 with (first
        | (go_at_call 10; refine H1.out.mono ?_; rintro e4 w4 ⟨E, pE, cE, ok, ec, rfl, k1, k2, k3, k4⟩; have HS4 : Hid (Shape w3.heap.size w4 pE (E.map List.length) ∧ Gr w3 w4) := ⟨k1, k4⟩; clear k1 k4 q0 q1)
        | fail)
      go_upto_region 20 with fail
      go_loopg [87] E.length (fun k iv wr => ∃ i : Nat, i ≤ E.length ∧ k = E.length - i ∧ iv = .int .i64 ((i : Nat) : Int) ∧ Hid (Shape w3.heap.size wr pE (E.map List.length)) ∧ Hid (Gr w3 wr))
      case atStart => exact ⟨0, Nat.zero_le _, rfl, rfl, HS4.out.1, HS4.out.2⟩
      case round =>
        obtain ⟨i, hi, rfl, rfl, hsh, gr⟩ := hrel
        by_cases hiE : i < E.length
        case pos =>
          obtain ⟨d, hd⟩ : ∃ d, E[i]? = some d := ⟨_, List.getElem?_eq_getElem hiE⟩
          obtain ⟨b, vs, hpe, _, hbv, hrr⟩ := hsh.out.resolve_left (fun e0 => by rw [List.map_eq_nil_iff] at e0; rw [e0] at hiE; simp at hiE)
          obtain ⟨hn, qs, cs, xs', hvs, hown⟩ := hrr i d.length (by rw [List.getElem?_map, hd]; rfl)
          have c0 := hbv.cell i hvs
          have HSP := Lib.hid (spoilI_calls (-777) hown hn)
          have HOW := Lib.hid hown
          subst hpe
          clear hrr hvs hown hd hbv
          go_wp2_with (first
            | (go_at_call 26; refine HSP.out.mono ?_; rintro e9 w9 ⟨rfl, k1, k2⟩; have HS9 := Lib.hid (hsh.out.spoil HOW.out k1 k2); have G9 : Hid (Gr w3 w9) := Below.trans gr.out (k1.below (fun b hb => (ownsRow_type HOW.out hb).2) gr.out.size); clear k1 k2 c0)
            | fail)
          go_roundg (E.length - (i + 1))
          case measure => omega
          case rel => exact ⟨i + 1, by omega, rfl, by go_num, HS9, G9⟩
        obtain rfl : i = E.length := by omega
        have G5 := gr
        clear hsh
        generalize wr = w5 at *
        have q0 := (HBQ3.out.gr G5.out).cell 0 (v := .slice dq x.D.length dqc) rfl
        have q1 := (HBQ3.out.gr G5.out).cell 1 (v := .slice cq L.length cqc) rfl
        have H2 := Lib.hid (solve_own z most w5 (HZI.out w5 G5.out) HM.out)
        rw [HZV.out] at H2
        go_upto_region 25 with (first
          | (go_at_call 15; refine H2.out.mono ?_; rintro e6 w6 ⟨M, pM, cM, es, rfl, k5, k6, k7, k8⟩; have HS6 : Hid (Shape w5.heap.size w6 pM (M.map List.length) ∧ Gr w5 w6) := ⟨k5, k8⟩; clear k5 k8 q0 q1)
          | fail)
        go_upto_region 26 with fail
        go_loopg [104] M.length (fun k iv wr => ∃ i : Nat, i ≤ M.length ∧ k = M.length - i ∧ iv = .int .i64 ((i : Nat) : Int) ∧ Hid (Shape w5.heap.size wr pM (M.map List.length)) ∧ Hid (Gr w5 wr))
        case atStart => exact ⟨0, Nat.zero_le _, rfl, rfl, HS6.out.1, HS6.out.2⟩
        case round =>
          obtain ⟨i, hi, rfl, rfl, hsh, gr⟩ := hrel
          by_cases hiE : i < M.length
          case pos =>
            obtain ⟨d, hd⟩ : ∃ d, M[i]? = some d := ⟨_, List.getElem?_eq_getElem hiE⟩
            obtain ⟨b, vs, hpe, _, hbv, hrr⟩ := hsh.out.resolve_left (fun e0 => by rw [List.map_eq_nil_iff] at e0; rw [e0] at hiE; simp at hiE)
            obtain ⟨hn, qs, cs, xs', hvs, hown⟩ := hrr i d.length (by rw [List.getElem?_map, hd]; rfl)
            have c0 := hbv.cell i hvs
            have HSP := Lib.hid (spoilI_calls (-777) hown hn)
            have HOW := Lib.hid hown
            subst hpe
            clear hrr hvs hown hd hbv
            go_wp2_with (first
              | (go_at_call 26; refine HSP.out.mono ?_; rintro e9 w9 ⟨rfl, k1, k2⟩; have HS9 := Lib.hid (hsh.out.spoil HOW.out k1 k2); have G9 : Hid (Gr w5 w9) := Below.trans gr.out (k1.below (fun b hb => (ownsRow_type HOW.out hb).2) gr.out.size); clear k1 k2 c0)
              | fail)
            go_roundg (M.length - (i + 1))
            case measure => omega
            case rel => exact ⟨i + 1, by omega, rfl, by go_num, HS9, G9⟩
          obtain rfl : i = M.length := by omega
          have G7 := gr
          clear hsh
          generalize wr = w7 at *
          have G37 := Lib.hid (G5.out.trans G7.out)
          have q0 := (HBQ3.out.gr G37.out).cell 0 (v := .slice dq x.D.length dqc) rfl
          have q1 := (HBQ3.out.gr G37.out).cell 1 (v := .slice cq L.length cqc) rfl
          have H3 := Lib.hid (best_own z v w7 (HZI.out w7 G37.out) HV.out)
          rw [HZV.out] at H3
          go_upto_region 31 with (first
            | (go_at_call 22; refine H3.out.mono ?_; rintro e8 w8 ⟨nb, pb, cb8, okb, fb, rfl, k9, ⟨xb, k10⟩, k11⟩; have HOB := Lib.hid k10; have HNB := Lib.hid k9; have G8 := Lib.hid k11; clear k9 k10 k11 q0 q1)
            | fail)
          have HSPB := Lib.hid (spoilI_calls (-777) HOB.out HNB.out)
          go_upto_region 32 with (first
            | (go_at_call 26; refine HSPB.out.mono ?_; rintro e9 w9 ⟨rfl, k1, k2⟩; have G9 : Hid (Gr w7 w9) := Below.trans G8.out (k1.below (fun b hb => (ownsRow_type HOB.out hb).2) G8.out.size); clear k1 k2)
            | fail)
          have G39 := Lib.hid (G37.out.trans G9.out)
          have b0 := (HBX3.out.gr G39.out).cell 0 (v := .slice x.dp x.D.length x.dc) rfl
          go_upto_region 33 with fail
          clear b0
          go_loopg [125] x.D.length (fun k iv wr => ∃ i : Nat, i ≤ x.D.length ∧ k = x.D.length - i ∧ iv = .int .i64 ((i : Nat) : Int) ∧ Hid (Gr w9 wr))
          case atStart => exact ⟨0, Nat.zero_le _, rfl, rfl, Gr.rfl' _⟩
          case round =>
            obtain ⟨i, hi, rfl, rfl, gr⟩ := hrel
            have G3r := Lib.hid (G39.out.trans gr.out)
            have b0 := (HBX3.out.gr G3r.out).cell 0 (v := .slice x.dp x.D.length x.dc) rfl
            by_cases hiD : i < x.D.length
            case pos =>
              obtain ⟨d, hd⟩ : ∃ d, x.D[i]? = some d := ⟨_, List.getElem?_eq_getElem hiD⟩
              obtain ⟨gb, g, hdq, cg, hgb, -, -⟩ := HRMD.out.at hd
              subst hdq
              obtain ⟨rb, ro, hdp, _, hrd⟩ := (HX.out.mono (HGW.out.trans G3r.out)).rows.resolve_left (fun e0 => by rw [e0] at hiD; simp at hiD)
              obtain ⟨qd, cd, d0, hsl⟩ := hrd i d hd
              have hgb2 := hgb.gr G3r.out
              have q0 := (HBQ3.out.gr G3r.out).cell 0 (v := .slice (some ⟨gb, 0, none⟩) x.D.length dqc) rfl
              have c0 := G3r.out.at cg
              have m0 := rmy_mark hgb2
              have Hsm := Lib.hid (same_calls (some ⟨g, 0, none⟩) qd (d.length + 3) cd d d wr (rmy_sl hgb2 (HIN.out d (List.mem_of_getElem? hd)) (HSZ.out.row d (List.mem_of_getElem? hd))) hsl)
              rw [decide_eq_true rfl] at Hsm
              have hdl := hsl.1
              have hdc := hsl.2.1
              have hdz := HSZ.out.row d (List.mem_of_getElem? hd)
              have hiI : (i : Int) < (x.D.length : Int) := by omega
              rw [hdp] at b0
              clear hrd hsl hgb hgb2 cg hd hdp
              go_wp2_with (first
                | (go_at_call 17; refine Hsm.out.mono ?_; rintro e10 w10 ⟨rfl, hb⟩; have hb : Gr wr w10 := hb; replace m0 := Gr.at hb m0; have G10 := Lib.hid (gr.out.trans hb); clear hb b0 q0 c0 d0)
                | fail)
              go_roundg (x.D.length - (i + 1))
              case measure => omega
              case rel => exact ⟨i + 1, by omega, rfl, by go_num, G10⟩
            obtain rfl : i = x.D.length := by omega
            clear b0
            generalize wr = wB at *
            have b1 := (HBX3.out.gr G3r.out).cell 1 (v := .slice x.cp x.C.length x.cc) rfl
            have G3B := Lib.hid G3r.out
            clear gr G3r
            go_upto_region 40 with fail
            clear b1
            go_loopg [157] x.C.length (fun k iv wr => ∃ i : Nat, i ≤ x.C.length ∧ k = x.C.length - i ∧ iv = .int .i64 ((i : Nat) : Int) ∧ Hid (Gr wB wr))
            case atStart => exact ⟨0, Nat.zero_le _, rfl, rfl, Gr.rfl' _⟩
            case round =>
              obtain ⟨i, hi, rfl, rfl, gr⟩ := hrel
              have G3r := Lib.hid (G3B.out.trans gr.out)
              have b0 := (HBX3.out.gr G3r.out).cell 0 (v := .slice x.dp x.D.length x.dc) rfl
              have b1 := (HBX3.out.gr G3r.out).cell 1 (v := .slice x.cp x.C.length x.cc) rfl
              have q0 := (HBQ3.out.gr G3r.out).cell 0 (v := .slice dq x.D.length dqc) rfl
              have q1 := (HBQ3.out.gr G3r.out).cell 1 (v := .slice cq L.length cqc) rfl
              have hcql := HGC.out.1
              have hcqc := HGC.out.2
              by_cases hiC : i < x.C.length
              case neg =>
                obtain rfl : i = x.C.length := by omega
                obtain ⟨Ls, es2, hsol⟩ := solve_det x.D x.cons most HM.out
                have HX3 : Hid (∀ W, Gr wr W → Calls Try.prog 15 #[.agg #[.slice x.dp x.D.length x.dc, .slice x.cp x.C.length x.cc], .int .i64 most] W fun en w' => ∃ p c, en = .returned (.tuple #[.slice p Ls.length c, .int .i64 es2]) ∧ RowsBack w' p c Ls ∧ Gr W w') := fun W hW => by
                  have h := hsol x W (HX.out.mono (HGW.out.trans (G3r.out.trans hW))) rfl rfl (fun _ => Iff.rfl)
                  rw [HVal.out] at h; exact h
                have HX4 : Hid (∀ W, Gr wr W → Calls Try.prog 15 #[.agg #[.slice dq x.D.length dqc, .slice cq L.length cqc], .int .i64 most] W fun en w' => ∃ p c, en = .returned (.tuple #[.slice p Ls.length c, .int .i64 es2]) ∧ RowsBack w' p c Ls ∧ Gr W w') := fun W hW => by
                  have h := hsol z W (HZI.out W (G3r.out.trans hW)) HZD.out (by rw [HZC.out]) (fun _ => by rw [HZC.out])
                  rw [HZV.out] at h; exact h
                clear hsol
                have HQB := Lib.hid (HBQ3.out.gr G3r.out)
                clear q0 q1
                go_upto_region 53 with (first
                  | (go_at_call 15; refine (HX3.out _ (Gr.rfl' _)).mono ?_; rintro e1 w10 ⟨p10, c10, rfl, h1, h2⟩; have HR10 := Lib.hid h1; have G10 := Lib.hid h2; clear h1 h2 b0 b1)
                  | fail)
                have q0 := (HQB.out.gr G10.out).cell 0 (v := .slice dq x.D.length dqc) rfl
                have q1 := (HQB.out.gr G10.out).cell 1 (v := .slice cq L.length cqc) rfl
                go_upto_region 54 with (first
                  | (go_at_call 15; refine (HX4.out _ G10.out).mono ?_; rintro e1 w11 ⟨p11, c11, rfl, h1, h2⟩; have HR11 := Lib.hid h1; have G11 := Lib.hid h2; clear h1 h2 q0 q1)
                  | fail)
                have Hw1 : Hid (Calls Try.prog 16 #[.slice p10 Ls.length c10, .slice p11 Ls.length c11] w11 (Ret (.bool true) w11)) := by
                  have h3 := HR10.out.mono G11.out
                  have h := rowsKeep_calls p10 p11 c10 c11 Ls Ls w11 h3.at_ HR11.out.at_ h3.cap HR11.out.cap
                  rw [decide_eq_true rfl] at h; exact h
                have he1 : (es2 == es2) = true := beq_self_eq_true es2
                go_wp2_with (first
                  | (go_at_call 16; refine Hw1.out.mono ?_; rintro e7 w12 ⟨rfl, hb⟩; have G12 := Lib.hid (show Gr w11 w12 from hb); clear hb)
                  | fail)
                exact hR.out _ (HGW.out.trans (G3r.out.trans (G10.out.trans (G11.out.trans G12.out))))
              obtain ⟨y, hy⟩ : ∃ y, x.C[i]? = some y := ⟨_, List.getElem?_eq_getElem hiC⟩
              have hyin := List.mem_of_getElem? hy
              obtain ⟨y', hy'⟩ : ∃ y', L[i]? = some y' := ⟨_, List.getElem?_eq_getElem (by rw [HLl.out]; exact hiC)⟩
              have hrc : RmC w3 y y' := by
                obtain ⟨u, hu, hrc⟩ := HLC.out i y' hy'
                rw [hy] at hu; cases hu; exact hrc
              have HRC := Lib.hid hrc
              obtain ⟨cb, co, hcpe, hcb, hcells⟩ := (HX.out.mono HGW.out).cns.resolve_left (fun e0 => by rw [e0] at hyin; exact (List.not_mem_nil hyin))
              obtain ⟨db, dO, hdpe, hdb, hdells⟩ := HCQ.out.resolve_left (fun e0 => by rw [e0] at hy'; simp at hy')
              have X0 := Lib.hid (G3r.out.at (hcells _ y hy 0 (.int .i64 y.k) rfl))
              have X1 := Lib.hid (G3r.out.at (hcells _ y hy 1 (.slice y.vp y.vs.length y.vc) rfl))
              have X2 := Lib.hid (G3r.out.at (hcells _ y hy 2 (.slice y.cp y.cs.length y.cc) rfl))
              have X3 := Lib.hid (G3r.out.at (hcells _ y hy 3 (.int .i64 y.op) rfl))
              have X4 := Lib.hid (G3r.out.at (hcells _ y hy 4 (.int .i64 y.c) rfl))
              have Y0 := Lib.hid (G3r.out.at (hdells _ y' hy' 0 (.int .i64 y'.k) rfl))
              have Y1 := Lib.hid (G3r.out.at (hdells _ y' hy' 1 (.slice y'.vp y'.vs.length y'.vc) rfl))
              have Y2 := Lib.hid (G3r.out.at (hdells _ y' hy' 2 (.slice y'.cp y'.cs.length y'.cc) rfl))
              have Y3 := Lib.hid (G3r.out.at (hdells _ y' hy' 3 (.int .i64 y'.op) rfl))
              have Y4 := Lib.hid (G3r.out.at (hdells _ y' hy' 4 (.int .i64 y'.c) rfl))
              have HB0 := Lib.hid b1
              have HQ0 := Lib.hid q1
              have HLT : Hid (bx < wr.heap.size ∧ bq < wr.heap.size ∧ cb < wr.heap.size ∧ db < wr.heap.size) := by
                have h1 := (HBX3.out.gr G3r.out).lt
                have h2 := (HBQ3.out.gr G3r.out).lt
                have h3 := G3r.out.size
                exact ⟨h1, h2, by omega, by omega⟩
              rw [hcpe] at HB0
              rw [hdpe] at HQ0
              have HYI := Lib.hid (HX.out.ins y hyin)
              have HYZ := Lib.hid (HSZ.out.each y hyin)
              have hiI : (i : Int) < (x.C.length : Int) := by omega
              have hiL : (i : Int) < (L.length : Int) := by rw [HLl.out]; exact hiI
              have hiLn : i < L.length := by rw [HLl.out]; exact hiC
              clear hy hyin hy' hrc hcells hdells b0 b1 q0 q1 hcb hdb hcpe hdpe
              generalize wr = wI at *
              go_upto_region 42 with fail
              refine wp_region_relyA 13 [fx (.pointer (some ⟨bq, 1, none⟩)), fx (.slice (some ⟨db, dO, none⟩) L.length cqc), fx (.int .i64 (i : Nat)), fx (.pointer (some ⟨db, dO + i * 5, none⟩)), fx (.agg #[.int .i64 y'.k, .slice y'.vp y'.vs.length y'.vc, .slice y'.cp y'.cs.length y'.cc, .int .i64 y'.op, .int .i64 y'.c]), fx (.pointer (some ⟨bx, 1, none⟩)), fx (.slice (some ⟨cb, co, none⟩) x.C.length x.cc), fx (.int .i64 (i : Nat)), fx (.pointer (some ⟨cb, co + i * 5, none⟩)), fx (.agg #[.int .i64 y.k, .slice y.vp y.vs.length y.vc, .slice y.cp y.cs.length y.cc, .int .i64 y.op, .int .i64 y.c]), ptrV0, ptrV0, fx undef]
                (Kp (fun b => wI.heap.size ≤ b)) (BoxJ wI.heap.size y') (by kernel_rfl) (by kernel_rfl) (by decide) (by kernel_rfl) (fun _ _ h => Kp.of_gr h) (fun _ _ _ h k => Kp.trans h k) (fun w _ => BoxJ.start _ _ _ _ w) (by repeat (first | exact StableR.nil | refine StableR.fix ?_ | refine StableR.cons ptrV0_stable ?_)) ?_ ?_
              · refine ⟨stepA_plain (fun _ _ h => Kp.of_gr h) (fun listed a w w' v h hg => BoxJ.other rfl listed a w w' v h hg) ?_, ?a1, stepA_plain (fun _ _ h => Kp.of_gr h) (fun listed a w w' v h hg => BoxJ.other rfl listed a w w' v h hg) ?_, stepA_plain (fun _ _ h => Kp.of_gr h) (fun listed a w w' v h hg => BoxJ.other rfl listed a w w' v h hg) ?_, ?a4, stepA_plain (fun _ _ h => Kp.of_gr h) (fun listed a w w' v h hg => BoxJ.other rfl listed a w w' v h hg) ?_, ?a6, stepA_plain (fun _ _ h => Kp.of_gr h) (fun listed a w w' v h hg => BoxJ.other rfl listed a w w' v h hg) ?_, stepA_plain (fun _ _ h => Kp.of_gr h) (fun listed a w w' v h hg => BoxJ.other rfl listed a w w' v h hg) ?_, ?a9, ?a10, ?a11, ?a12, trivial⟩
                case a1 =>
                  intro listed fr wr hj hl hpre hg hdef hold
                  have h3 : fr.tmps[3]?.getD undef = .pointer (some ⟨bx, 0, none⟩) := hold 3 rfl
                  have h7 : fr.tmps[7]?.getD undef = .pointer (some ⟨bq, 0, none⟩) := hold 7 rfl
                  have h23 : fr.tmps[23]?.getD undef = .int .i64 (i : Nat) := hold 23 rfl
                  clear hold
                  have k0 := Kp.cell hg HQ0.out (fun hc => by have := HLT.out; have hc : wI.heap.size ≤ bq := hc; omega)
                  clear hdef
                  simp [predsImp, Region.binds, dstAt, fx]
                  intros
                  rename_i K hK
                  go_simp
                  exact hK _ _ rfl (Kp.of_gr (Gr.rfl' _)) (BoxJ.other rfl listed fr wr wr _ hj (Gr.rfl' _))
                case a4 =>
                  intro listed fr wr hj hl hpre hg hdef hold
                  have h3 : fr.tmps[3]?.getD undef = .pointer (some ⟨bx, 0, none⟩) := hold 3 rfl
                  have h7 : fr.tmps[7]?.getD undef = .pointer (some ⟨bq, 0, none⟩) := hold 7 rfl
                  have h23 : fr.tmps[23]?.getD undef = .int .i64 (i : Nat) := hold 23 rfl
                  clear hold
                  have k0 := Kp.cell hg Y0.out (fun hc => by have := HLT.out; have hc : wI.heap.size ≤ db := hc; omega)
                  have k1 := Kp.cell hg Y1.out (fun hc => by have := HLT.out; have hc : wI.heap.size ≤ db := hc; omega)
                  have k2 := Kp.cell hg Y2.out (fun hc => by have := HLT.out; have hc : wI.heap.size ≤ db := hc; omega)
                  have k3 := Kp.cell hg Y3.out (fun hc => by have := HLT.out; have hc : wI.heap.size ≤ db := hc; omega)
                  have k4 := Kp.cell hg Y4.out (fun hc => by have := HLT.out; have hc : wI.heap.size ≤ db := hc; omega)
                  simp only [← Nat.add_assoc, Nat.add_zero] at k0 k1 k2 k3 k4
                  clear hdef
                  simp [predsImp, Region.binds, dstAt, fx]
                  intros
                  rename_i K hK
                  go_simp
                  exact hK _ _ rfl (Kp.of_gr (Gr.rfl' _)) (BoxJ.other rfl listed fr wr wr _ hj (Gr.rfl' _))
                case a6 =>
                  intro listed fr wr hj hl hpre hg hdef hold
                  have h3 : fr.tmps[3]?.getD undef = .pointer (some ⟨bx, 0, none⟩) := hold 3 rfl
                  have h7 : fr.tmps[7]?.getD undef = .pointer (some ⟨bq, 0, none⟩) := hold 7 rfl
                  have h23 : fr.tmps[23]?.getD undef = .int .i64 (i : Nat) := hold 23 rfl
                  clear hold
                  have k0 := Kp.cell hg HB0.out (fun hc => by have := HLT.out; have hc : wI.heap.size ≤ bx := hc; omega)
                  clear hdef
                  simp [predsImp, Region.binds, dstAt, fx]
                  intros
                  rename_i K hK
                  go_simp
                  exact hK _ _ rfl (Kp.of_gr (Gr.rfl' _)) (BoxJ.other rfl listed fr wr wr _ hj (Gr.rfl' _))
                case a9 =>
                  intro listed fr wr hj hl hpre hg hdef hold
                  have h3 : fr.tmps[3]?.getD undef = .pointer (some ⟨bx, 0, none⟩) := hold 3 rfl
                  have h7 : fr.tmps[7]?.getD undef = .pointer (some ⟨bq, 0, none⟩) := hold 7 rfl
                  have h23 : fr.tmps[23]?.getD undef = .int .i64 (i : Nat) := hold 23 rfl
                  clear hold
                  have k0 := Kp.cell hg X0.out (fun hc => by have := HLT.out; have hc : wI.heap.size ≤ cb := hc; omega)
                  have k1 := Kp.cell hg X1.out (fun hc => by have := HLT.out; have hc : wI.heap.size ≤ cb := hc; omega)
                  have k2 := Kp.cell hg X2.out (fun hc => by have := HLT.out; have hc : wI.heap.size ≤ cb := hc; omega)
                  have k3 := Kp.cell hg X3.out (fun hc => by have := HLT.out; have hc : wI.heap.size ≤ cb := hc; omega)
                  have k4 := Kp.cell hg X4.out (fun hc => by have := HLT.out; have hc : wI.heap.size ≤ cb := hc; omega)
                  simp only [← Nat.add_assoc, Nat.add_zero] at k0 k1 k2 k3 k4
                  clear hdef
                  simp [predsImp, Region.binds, dstAt, fx]
                  intros
                  rename_i K hK
                  go_simp
                  exact hK _ _ rfl (Kp.of_gr (Gr.rfl' _)) (BoxJ.other rfl listed fr wr wr _ hj (Gr.rfl' _))
                case a10 =>
                  intro listed fr wr hj hl hpre hg hdef hold
                  have h3 : fr.tmps[3]?.getD undef = .pointer (some ⟨bx, 0, none⟩) := hold 3 rfl
                  have h7 : fr.tmps[7]?.getD undef = .pointer (some ⟨bq, 0, none⟩) := hold 7 rfl
                  have h23 : fr.tmps[23]?.getD undef = .int .i64 (i : Nat) := hold 23 rfl
                  clear hold
                  have hl2 := hl
                  clear hdef
                  simp [predsImp]
                  intros
                  rename_i K hK
                  go_simp
                  have hsz := hg.size
                  exact hK _ _ ⟨wr.heap.size, rfl⟩ (Kp.of_gr (by go_grown)) (BoxJ.a10 hj hl2 (by go_grown) hsz (Nat.le_refl _) (by simp) (BlkT.new _ _ _))
                case a11 =>
                  intro listed fr wr hj hl hpre hg hdef hold
                  have h3 : fr.tmps[3]?.getD undef = .pointer (some ⟨bx, 0, none⟩) := hold 3 rfl
                  have h7 : fr.tmps[7]?.getD undef = .pointer (some ⟨bq, 0, none⟩) := hold 7 rfl
                  have h23 : fr.tmps[23]?.getD undef = .int .i64 (i : Nat) := hold 23 rfl
                  clear hold
                  clear hdef
                  simp [predsImp]
                  intros
                  rename_i K hK
                  go_simp
                  have hsz := hg.size
                  exact hK _ _ ⟨wr.heap.size, rfl⟩ (Kp.of_gr (by go_grown)) (BoxJ.a11 hj (by go_grown) hsz (Nat.le_refl _) (by simp) (BlkT.new _ _ _))
                case a12 =>
                  intro listed fr wr hj hl hpre hg hdef hold
                  have h3 : fr.tmps[3]?.getD undef = .pointer (some ⟨bx, 0, none⟩) := hold 3 rfl
                  have h7 : fr.tmps[7]?.getD undef = .pointer (some ⟨bq, 0, none⟩) := hold 7 rfl
                  have h23 : fr.tmps[23]?.getD undef = .int .i64 (i : Nat) := hold 23 rfl
                  clear hold
                  have hl2 := hl
                  have hp := hpre ⟨10, Ground.data⟩ (by simp) rfl
                  clear hdef
                  simp [predsImp, Region.binds, dstAt, fx]
                  intro hA hB
                  obtain ⟨B, hBv⟩ := hA
                  obtain ⟨hB0, hBl, hzb, -⟩ := hj.x1 hp B hBv
                  have hz := hzb (getD_tf hl2)
                  have HZ := Lib.hid hz
                  have z0 := BlkT.cell hz 0 (v := .int .i64 0) rfl
                  have z1 := BlkT.cell hz 1 (v := .slice none 0 0) rfl
                  have z2 := BlkT.cell hz 2 (v := .slice none 0 0) rfl
                  have z3 := BlkT.cell hz 3 (v := .int .i64 0) rfl
                  have z4 := BlkT.cell hz 4 (v := .int .i64 0) rfl
                  have f0 := BlkT.open_ hz 0
                  have f1 := BlkT.open_ hz 1
                  have f2 := BlkT.open_ hz 2
                  have f3 := BlkT.open_ hz 3
                  have f4 := BlkT.open_ hz 4
                  have HBV := Lib.hid hBv
                  rw [show ptr0 B = .pointer (some ⟨B, 0, none⟩) from rfl] at hBv
                  clear hz hzb
                  intros
                  rename_i K hK
                  go_simp
                  exact hK _ _ rfl (Kp.sets5 hB0 _ _ _ _ _) (BoxJ.s12 hj hl2 hp HBV.out (Kp.sets5 (C := (· = B)) rfl _ _ _ _ _) (CnBlk.set5 HZ.out rfl y') _)
                all_goals
                  intro fr wr hg hold
                  have h3 : fr.tmps[3]?.getD undef = .pointer (some ⟨bx, 0, none⟩) := hold 3 rfl
                  have h7 : fr.tmps[7]?.getD undef = .pointer (some ⟨bq, 0, none⟩) := hold 7 rfl
                  have h23 : fr.tmps[23]?.getD undef = .int .i64 (i : Nat) := hold 23 rfl
                  clear hold
                  simp [predsImp, Region.binds, dstAt, fx]
                  intros
                  rename_i K hK
                  go_simp
                all_goals exact hK _ _ rfl (Gr.rfl' _)
              · intro wz hg
                rintro _ rfl _ rfl _ rfl _ rfl _ rfl _ rfl _ rfl _ rfl _ rfl _ rfl _ ⟨B1, rfl⟩ _ ⟨B2, rfl⟩ _ rfl hj2
                simp only [Act.put, List.setIfInBounds_toArray, List.set_cons_succ, List.set_cons_zero, List.drop_succ_cons, List.drop_zero] at hj2 ⊢
                obtain ⟨hb1, hz2, hB12, hge1, hge2⟩ := hj2.done (by show 12 < 13; omega) rfl rfl
                have z0 := BlkT.cell hz2 0 (v := .int .i64 0) rfl
                have z1 := BlkT.cell hz2 1 (v := .slice none 0 0) rfl
                have z2 := BlkT.cell hz2 2 (v := .slice none 0 0) rfl
                have z3 := BlkT.cell hz2 3 (v := .int .i64 0) rfl
                have z4 := BlkT.cell hz2 4 (v := .int .i64 0) rfl
                have f0 := BlkT.open_ hz2 0
                have f1 := BlkT.open_ hz2 1
                have f2 := BlkT.open_ hz2 2
                have f3 := BlkT.open_ hz2 3
                have f4 := BlkT.open_ hz2 4
                simp only [show ∀ B, ptr0 B = Value.pointer (some ⟨B, 0, none⟩) from fun _ => rfl]
                have hset := CnBlk.set5 hz2 rfl y
                have hk5 : Kp (· = B2) wz (((((wz.setCell ⟨B2, 0, none⟩ (.int .i64 y.k)).setCell ⟨B2, 1, none⟩ (.slice y.vp y.vs.length y.vc)).setCell ⟨B2, 2, none⟩ (.slice y.cp y.cs.length y.cc)).setCell ⟨B2, 3, none⟩ (.int .i64 y.op)).setCell ⟨B2, 4, none⟩ (.int .i64 y.c)) := Kp.sets5 (C := (· = B2)) rfl _ _ _ _ _
                have HBY := Lib.hid hset
                have HBX := Lib.hid (BlkT.kp hb1 hk5 hB12)
                have hgz : Gr wI wz := hg.below (fun b hb => hb) (Nat.le_refl _)
                have HGS : Hid (Gr wI (((((wz.setCell ⟨B2, 0, none⟩ (.int .i64 y.k)).setCell ⟨B2, 1, none⟩ (.slice y.vp y.vs.length y.vc)).setCell ⟨B2, 2, none⟩ (.slice y.cp y.cs.length y.cc)).setCell ⟨B2, 3, none⟩ (.int .i64 y.op)).setCell ⟨B2, 4, none⟩ (.int .i64 y.c))) := Below.trans hgz (hk5.below (fun b hb => by rw [hb]; exact hge2) hgz.size)
                clear hb1 hz2 hB12 hge1 hge2 hset hk5 hgz hj2 hg
                go_upto_region 43 with fail
                clear z0 z1 z2 z3 z4 f0 f1 f2 f3 f4
                generalize ((((wz.setCell ⟨B2, 0, none⟩ (.int .i64 y.k)).setCell ⟨B2, 1, none⟩ (.slice y.vp y.vs.length y.vc)).setCell ⟨B2, 2, none⟩ (.slice y.cp y.cs.length y.cc)).setCell ⟨B2, 3, none⟩ (.int .i64 y.op)).setCell ⟨B2, 4, none⟩ (.int .i64 y.c) = wS at *
                obtain ⟨g1, g2, ⟨e1, e2, e3⟩, ⟨e4, e5, e6⟩, hv1, hv2⟩ := HRC.out.eq
                have HG3S := Lib.hid (G3r.out.trans HGS.out)
                have HV1 := Lib.hid (hv1.gr HG3S.out)
                have HV2 := Lib.hid (hv2.gr HG3S.out)
                have hcx1 : wS.cell? ⟨B1, 1, none⟩ = some (.slice y'.vp y'.vs.length y'.vc) := BlkT.cell HBX.out 1 rfl
                have hcx2 : wS.cell? ⟨B1, 2, none⟩ = some (.slice y'.cp y'.cs.length y'.cc) := BlkT.cell HBX.out 2 rfl
                rw [e1, e2, e3] at hcx1
                rw [e4, e5, e6] at hcx2
                have HX1 := Lib.hid hcx1
                have HX2 := Lib.hid hcx2
                have HY1 := Lib.hid (BlkT.cell HBY.out 1 (v := .slice y.vp y.vs.length y.vc) rfl)
                have HY2 := Lib.hid (BlkT.cell HBY.out 2 (v := .slice y.cp y.cs.length y.cc) rfl)
                have HYIn := Lib.hid (HYI.out.mono (HGW.out.trans HG3S.out))
                have hyv := HYZ.out.1
                have hyc := HYZ.out.2
                have hvl := HYIn.out.vars.1
                have hvc := HYIn.out.vars.2.1
                have hcl := HYIn.out.coefs.1
                have hcc := HYIn.out.coefs.2.1
                have HGBS := Lib.hid (gr.out.trans HGS.out)
                clear hcx1 hcx2 hv1 hv2 e1 e2 e3 e4 e5 e6 X0 X1 X2 X3 X4 Y0 Y1 Y2 Y3 Y4 HB0 HQ0 HLT HRC
                have cy1 := HY1.out
                go_upto_region 44 with fail
                clear cy1
                go_loopg [173, 26] y.vs.length (fun k iv u26 wr => ∃ j : Nat, j ≤ y.vs.length ∧ k = y.vs.length - j ∧ iv = .int .i64 ((j : Nat) : Int) ∧ Hid (Gr wS wr))
                case atStart => exact ⟨0, Nat.zero_le _, rfl, rfl, Gr.rfl' _⟩
                case round =>
                  obtain ⟨j, hj, rfl, rfl, gs⟩ := hrel
                  have cx1 := gs.out.at HX1.out
                  have cx2 := gs.out.at HX2.out
                  have cy1 := gs.out.at HY1.out
                  have cy2 := gs.out.at HY2.out
                  by_cases hjv : j < y.vs.length
                  case pos =>
                    obtain ⟨nv, hnv⟩ : ∃ nv, y.vs[j]? = some nv := ⟨_, List.getElem?_eq_getElem hjv⟩
                    obtain ⟨vb, vo, hvp, _, hrv⟩ := (HYIn.out.vars.mono gs.out).ptr (by omega)
                    have v0 := hrv j nv hnv
                    have u0 := (HV1.out.gr gs.out).cell j (ints_at (by rw [List.getElem?_append_left hjv]; exact hnv))
                    rw [hvp] at cy1
                    have hjI : (j : Int) < (y.vs.length : Int) := by omega
                    clear hrv hnv
                    go_upto_region 46 with fail
                    refine wp_region_rely [fx (.pointer (some ⟨B1, 1, none⟩)), fx (.slice (some ⟨g1, 0, none⟩) y.vs.length (y.vs.length + 3)), fx (.int .i64 (j : Nat)), fx (.pointer (some ⟨g1, j, none⟩)), fx (.int .i64 nv), fx (.pointer (some ⟨B2, 1, none⟩)), fx (.slice (some ⟨vb, vo, none⟩) y.vs.length y.vc), fx (.int .i64 (j : Nat)), fx (.pointer (some ⟨vb, vo + j, none⟩)), fx (.int .i64 nv), fx (.bool false)]
                      (by kernel_rfl) (by kernel_rfl) (by repeat (first | exact Stable.nil | refine Stable.fix ?_)) ?_ ?_
                    · refine ⟨?_, ?_, ?_, ?_, ?_, ?_, ?_, ?_, ?_, ?_, ?_, trivial⟩
                      all_goals
                        intro fr wz hg hold
                        have h24 : fr.tmps[24]?.getD undef = .pointer (some ⟨B1, 0, none⟩) := hold 24 rfl
                        have h25 : fr.tmps[25]?.getD undef = .pointer (some ⟨B2, 0, none⟩) := hold 25 rfl
                        have h26 : fr.tmps[26]?.getD undef = .int .i64 (j : Nat) := hold 26 rfl
                        clear hold
                        have CX1 := Gr.at hg cx1
                        have CY1 := Gr.at hg cy1
                        have V0 := Gr.at hg v0
                        have U0 := Gr.at hg u0
                        simp [predsImp, Region.binds, dstAt, fx]
                        intros
                        first
                          | (rw [if_pos (by simp [*])]
                             intro K hK)
                          | (rename_i K hK)
                        go_simp
                      all_goals exact hK _ _ rfl (Gr.rfl' _)
                    · intro wz hg
                      rintro _ rfl _ rfl _ rfl _ rfl _ rfl _ rfl _ rfl _ rfl _ rfl _ rfl _ rfl
                      simp only [finAll, Act.put, List.setIfInBounds_toArray, List.set_cons_succ, List.set_cons_zero]
                      clear cx1 cx2 cy1 cy2 v0 u0
                      have HGZ := Lib.hid (gs.out.trans hg)
                      clear hg
                      go_wp2_with fail
                      go_roundg (y.vs.length - (j + 1))
                      case measure => omega
                      case rel => exact ⟨j + 1, by omega, rfl, by go_num, HGZ⟩
                  obtain rfl : j = y.vs.length := by omega
                  have m1 := rmy_mark (HV1.out.gr gs.out)
                  have m2 := rmy_mark (HV2.out.gr gs.out)
                  have Hsm : Hid (∀ W, Gr wr W → Calls Try.prog 17 #[.slice (some ⟨g2, 0, none⟩) y.cs.length (y.cs.length + 3), .slice y.cp y.cs.length y.cc] W (Ret (.bool true) W)) := fun W hW => by
                    have h := same_calls (some ⟨g2, 0, none⟩) y.cp (y.cs.length + 3) y.cc y.cs y.cs W (rmy_sl (HV2.out.gr (gs.out.trans hW)) HYIn.out.coefs.2.2.1 hyc) (HYIn.out.coefs.mono (gs.out.trans hW))
                    rw [decide_eq_true rfl] at h
                    exact h
                  have hs1 : y.cs.length + 1 ≤ y.cs.length + 3 := by omega
                  have hs2 : y.vs.length + 1 ≤ y.vs.length + 3 := by omega
                  go_upto_region 49 with fail
                  refine wp_region_rely [fx (.pointer (some ⟨B1, 2, none⟩)), fx (.slice (some ⟨g2, 0, none⟩) y.cs.length (y.cs.length + 3)), fx (.pointer (some ⟨B2, 2, none⟩)), fx (.slice y.cp y.cs.length y.cc), fx (.bool true), fx (.bool false), fx (.bool false), fx (.pointer (some ⟨B1, 2, none⟩)), fx (.slice (some ⟨g2, 0, none⟩) y.cs.length (y.cs.length + 3)), fx (.pointer (some ⟨B1, 2, none⟩)), fx (.slice (some ⟨g2, 0, none⟩) y.cs.length (y.cs.length + 3)), fx (.int .i64 y.cs.length), fx (.int .i64 ((y.cs.length : Int) + 1)), fx (.slice (some ⟨g2, 0, none⟩) (y.cs.length + 1) (y.cs.length + 3)), fx (.pointer (some ⟨B1, 2, none⟩)), fx (.slice (some ⟨g2, 0, none⟩) y.cs.length (y.cs.length + 3)), fx (.int .i64 y.cs.length), fx (.pointer (some ⟨g2, y.cs.length, none⟩)), fx (.int .i64 (-7)), fx (.bool false), fx (.bool false), fx (.bool false), fx (.pointer (some ⟨B1, 1, none⟩)), fx (.slice (some ⟨g1, 0, none⟩) y.vs.length (y.vs.length + 3)), fx (.pointer (some ⟨B1, 1, none⟩)), fx (.slice (some ⟨g1, 0, none⟩) y.vs.length (y.vs.length + 3)), fx (.int .i64 y.vs.length), fx (.int .i64 ((y.vs.length : Int) + 1)), fx (.slice (some ⟨g1, 0, none⟩) (y.vs.length + 1) (y.vs.length + 3)), fx (.pointer (some ⟨B1, 1, none⟩)), fx (.slice (some ⟨g1, 0, none⟩) y.vs.length (y.vs.length + 3)), fx (.int .i64 y.vs.length), fx (.pointer (some ⟨g1, y.vs.length, none⟩)), fx (.int .i64 (-7)), fx (.bool false), fx (.bool false)]
                    (by kernel_rfl) (by kernel_rfl) (by repeat (first | exact Stable.nil | refine Stable.fix ?_)) ?_ ?_
                  · refine ⟨?_, ?_, ?_, ?_, ?a4, ?_, ?_, ?_, ?_, ?_, ?_, ?_, ?a12, ?_, ?_, ?_, ?_, ?a17, ?_, ?_, ?_, ?_, ?_, ?_, ?_, ?_, ?_, ?a27, ?_, ?_, ?_, ?_, ?a32, ?_, ?_, ?_, trivial⟩
                    case a4 =>
                      intro a wz hg hold
                      have h24 : a.tmps[24]?.getD undef = .pointer (some ⟨B1, 0, none⟩) := hold 24 rfl
                      have h25 : a.tmps[25]?.getD undef = .pointer (some ⟨B2, 0, none⟩) := hold 25 rfl
                      clear hold
                      have CX1 := Gr.at hg cx1
                      have CX2 := Gr.at hg cx2
                      have CY2 := Gr.at hg cy2
                      have M1 := Gr.at hg m1
                      have M2 := Gr.at hg m2
                      simp [predsImp, Region.binds, dstAt, fx]
                      intros
                      rename_i K hK
                      go_simp
                      refine (Hsm.out wz hg).mono ?_
                      rintro e9 w9 ⟨rfl, k1⟩
                      exact hK _ _ rfl k1
                    all_goals
                      intro a wz hg hold
                      have h24 : a.tmps[24]?.getD undef = .pointer (some ⟨B1, 0, none⟩) := hold 24 rfl
                      have h25 : a.tmps[25]?.getD undef = .pointer (some ⟨B2, 0, none⟩) := hold 25 rfl
                      clear hold
                      have CX1 := Gr.at hg cx1
                      have CX2 := Gr.at hg cx2
                      have CY2 := Gr.at hg cy2
                      have M1 := Gr.at hg m1
                      have M2 := Gr.at hg m2
                      simp [predsImp, Region.binds, dstAt, fx, wantedE, Act.eval]
                      intros
                      first
                        | (rw [if_pos (by simp [*])]
                           intro K hK)
                        | (rename_i K hK)
                      go_simp
                    case a12 =>
                      exact hK _ _ (by first | rfl | exact congrArg (Value.int .i64) (IntWalk.i64_in _ ⟨by omega, by omega⟩)) (Gr.rfl' _)
                    case a17 =>
                      rw [if_pos (by omega)]
                      exact hK _ _ rfl (Gr.rfl' _)
                    case a27 =>
                      exact hK _ _ (by first | rfl | exact congrArg (Value.int .i64) (IntWalk.i64_in _ ⟨by omega, by omega⟩)) (Gr.rfl' _)
                    case a32 =>
                      rw [if_pos (by omega)]
                      exact hK _ _ rfl (Gr.rfl' _)
                    all_goals exact hK _ _ rfl (Gr.rfl' _)
                  · intro wz hg
                    rintro _ rfl _ rfl _ rfl _ rfl _ rfl _ rfl _ rfl _ rfl _ rfl _ rfl _ rfl _ rfl _ rfl _ rfl _ rfl _ rfl _ rfl _ rfl _ rfl _ rfl _ rfl _ rfl _ rfl _ rfl _ rfl _ rfl _ rfl _ rfl _ rfl _ rfl _ rfl _ rfl _ rfl _ rfl _ rfl _ rfl
                    simp only [finAll, Act.put, List.setIfInBounds_toArray, List.set_cons_succ, List.set_cons_zero]
                    clear cx1 cx2 cy1 cy2 m1 m2
                    have HGZ := Lib.hid (HGBS.out.trans (gs.out.trans hg))
                    clear hg
                    go_wp2_with fail
                    go_roundg (x.C.length - (i + 1))
                    case measure => omega
                    case rel => exact ⟨i + 1, by omega, rfl, by go_num, HGZ⟩
end Go.Proofs.Ytbapmokbkjmdcaa
