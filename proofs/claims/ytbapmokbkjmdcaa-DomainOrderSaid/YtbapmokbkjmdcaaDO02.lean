/-
  DomainOrder: the law's walk.
-/
import Derived.Test.YtbapmokbkjmdcaaDO01
namespace Go.Proofs.Ytbapmokbkjmdcaa
open Go.RowKit Go.Maps Go.Lib

/-- The constraints from the j-th on, the last one first, some of them twice. -/
structure OrdL (C : List Cn) (j : Nat) (L : List Cn) : Prop where
  mem : ∀ y, y ∈ L ↔ ∃ i, j ≤ i ∧ C[i]? = some y
  low : C.length - j ≤ L.length
  high : L.length ≤ C.length - j ∨ (C.length ≤ 50 ∧ L.length ≤ 2 * (C.length - j))
theorem OrdL.start (C : List Cn) : OrdL C C.length [] := ⟨fun y => ⟨(fun h => by cases h), fun ⟨i, hi, hy⟩ => by have := (List.getElem?_eq_some_iff.1 hy).1; omega⟩, by simp, .inl (by simp)⟩
theorem OrdL.one {C : List Cn} {j : Nat} {L : List Cn} (h : OrdL C (j + 1) L) {y : Cn} (hy : C[j]? = some y) : OrdL C j (L ++ [y]) := by
  have hj := (List.getElem?_eq_some_iff.1 hy).1
  refine ⟨fun z => ?_, by rw [List.length_append, List.length_singleton]; have := h.low; omega, by rw [List.length_append, List.length_singleton]; have := h.high; omega⟩
  rw [List.mem_append, List.mem_singleton, h.mem]
  constructor
  · rintro (⟨i, hi, hz⟩ | rfl)
    · exact ⟨i, by omega, hz⟩
    · exact ⟨j, Nat.le_refl _, hy⟩
  · rintro ⟨i, hi, hz⟩
    by_cases hij : i = j
    · subst hij
      rw [hy] at hz; cases hz; exact .inr rfl
    · exact .inl ⟨i, by omega, hz⟩
theorem OrdL.two {C : List Cn} {j : Nat} {L : List Cn} (h : OrdL C (j + 1) L) {y : Cn} (hy : C[j]? = some y) (hf : C.length ≤ 50) : OrdL C j ((L ++ [y]) ++ [y]) := by
  have hj := (List.getElem?_eq_some_iff.1 hy).1
  have h1 := h.one hy
  refine ⟨fun z => ?_, by rw [List.length_append]; have := h1.low; omega, .inr ⟨hf, by rw [List.length_append, List.length_append, List.length_singleton]; have := h.high; omega⟩⟩
  rw [List.mem_append, List.mem_singleton, h1.mem]
  exact ⟨fun h => h.elim id fun e => ⟨j, Nat.le_refl _, by rw [e]; exact hy⟩, .inl⟩
theorem OrdL.done {C L : List Cn} (h : OrdL C 0 L) : (∀ c, c ∈ L.map Cn.con ↔ c ∈ C.map Cn.con) ∧ (100 < (L.map Cn.con).length ↔ 100 < (C.map Cn.con).length) ∧ ∀ y ∈ L, y ∈ C := by
  have hm : ∀ y, y ∈ L ↔ y ∈ C := fun y => by
    rw [h.mem]
    exact ⟨fun ⟨i, _, hi⟩ => List.mem_of_getElem? hi, fun hy => by
      obtain ⟨i, hi⟩ := List.getElem?_of_mem hy
      exact ⟨i, Nat.zero_le _, hi⟩⟩
  refine ⟨fun c => ?_, ?_, fun y hy => (hm y).1 hy⟩
  · rw [List.mem_map, List.mem_map]
    exact ⟨fun ⟨y, hy, e⟩ => ⟨y, (hm y).1 hy, e⟩, fun ⟨y, hy, e⟩ => ⟨y, (hm y).2 hy, e⟩⟩
  · rw [List.length_map, List.length_map]
    have h1 := h.low
    have h2 := h.high
    omega
/-- The other problem, as it is built. -/
structure QS (x : Pb) (w1 : World) (bq : Nat) (v0 v : Value) (L : List Cn) (w : World) : Prop where
  blk : BlkT w bq 25 #[.slice x.dp x.D.length x.dc, v0]
  own : CnOwn w w1.heap.size v L
  gr : Gr w1 w
  ge : w1.heap.size ≤ bq
theorem QS.gr' {x : Pb} {w1 : World} {bq : Nat} {v0 v : Value} {L : List Cn} {w w' : World} (h : QS x w1 bq v0 v L w) (hg : Gr w w') : QS x w1 bq v0 v L w' := ⟨h.blk.gr hg, ownsRow_gr h.own hg, h.gr.trans hg, h.ge⟩
theorem QS.store {x : Pb} {w1 w : World} {bq : Nat} {v0 v : Value} {L : List Cn} (h : QS x w1 bq v0 v L w) : QS x w1 bq v v L (w.setCell ⟨bq, 1, none⟩ v) := by
  have hk : Kp (· = bq) w (w.setCell ⟨bq, 1, none⟩ v) := Kp.set rfl
  exact ⟨h.blk.set 1 v, ownsRow_kpN h.own hk fun g hg e => OfT.ne (ownsRow_typeN h.own hg).1 (.of h.blk) (by decide) e, Below.trans h.gr (hk.below (fun b hb => by rw [hb]; exact h.ge) h.gr.size), h.ge⟩
/-- A new slice of the constraint, on another block than the row. -/
def cnSV (r : Option Nat) (y : Cn) : VP := fun t w => ∃ b, t = .slice (some ⟨b, 0, none⟩) 1 1 ∧ BlkT w b 42 y.arr ∧ r ≠ some b
theorem cnSV_stable {r : Option Nat} {y : Cn} : ∀ v w w', cnSV r y v w → Kp (fun b => r = some b) w w' → cnSV r y v w' := fun _ _ _ ⟨b, h1, h2, h3⟩ hk => ⟨b, h1, h2.kp hk h3, h3⟩

set_option maxHeartbeats 8000000 in
set_option maxRecDepth 100000 in
theorem domainOrder_walk (x : Pb) (kk most : Int) (w : World) (hx : x.In w ∧ x.Sz) (_ : In64 kk) (_ : In64 most) : Calls Try.prog 5 #[x.val, .int .i64 kk, .int .i64 most] w (Ret (.bool true) w) := by
  have hR : Hid (∀ w', Gr w w' → Ret (.bool true) w (.returned (.bool true)) w') := fun w' hg => ⟨rfl, hg⟩
  generalize Ret (.bool true) w = Q at hR ⊢
  have HX := Lib.hid hx.1
  have HSZ := Lib.hid hx.2
  have Hth := Lib.hid there_calls
  have HVal := Lib.hid (show x.val = .agg #[.slice x.dp x.D.length x.dc, .slice x.cp x.C.length x.cc] from rfl)
  rw [HVal.out]
  clear hx
  go_enter Try.func5, Try.ntmps5
  try simp only [List.append_eq, List.cons_append, List.nil_append]
  go_upto_region 1 with fail
  have hB := BlkT.new w 25 #[.slice x.dp x.D.length x.dc, .slice x.cp x.C.length x.cc]
  have gA : Gr w (w.alloc (.cells #[.slice x.dp x.D.length x.dc, .slice x.cp x.C.length x.cc] 25)) := by go_grown
  obtain ⟨bx, hbx⟩ : ∃ bx, w.heap.size = bx := ⟨_, rfl⟩
  rw [hbx] at hB ⊢
  clear hbx
  generalize w.alloc (.cells #[.slice x.dp x.D.length x.dc, .slice x.cp x.C.length x.cc] 25) = wA at *
  have HB := Lib.hid hB
  have HG := Lib.hid gA
  clear hB gA
  by_cases hm : 20000 < most
  case pos =>
    have hd : decide (20000 < most) = true := decide_eq_true hm
    go_wp2_with fail
    exact hR.out _ HG.out
  have hd : decide (20000 < most) = false := decide_eq_false hm
  have HM := Lib.hid (show most ≤ 20000 by omega)
  clear hm
  go_upto_region 5 with (first
    | (go_at_call 14; refine (Hth.out _).mono ?_; rintro e1 w1 ⟨rfl, hb⟩; have HG1 := Lib.hid (HG.out.trans (show Gr wA w1 from hb)); have HB1 := Lib.hid (HB.out.gr (show Gr wA w1 from hb)); clear hb)
    | fail)
  clear hd
  have b0 := HB1.out.cell 0 (v := .slice x.dp x.D.length x.dc) rfl
  have b1 := HB1.out.cell 1 (v := .slice x.cp x.C.length x.cc) rfl
  have HlC := Lib.hid HX.out.lenC
  have hlC := HX.out.lenC.1
  have hcC := HX.out.lenC.2
  go_upto_region 6 with fail
  have hq := BlkT.new w1 25 #[.slice x.dp x.D.length x.dc, .slice none 0 0]
  have gq : Gr w1 (w1.alloc (.cells #[.slice x.dp x.D.length x.dc, .slice none 0 0] 25)) := by go_grown
  obtain ⟨bq, hbq⟩ : ∃ bq, w1.heap.size = bq := ⟨_, rfl⟩
  have HBQ := Lib.hid hbq
  rw [hbq] at hq ⊢
  clear hbq
  generalize w1.alloc (.cells #[.slice x.dp x.D.length x.dc, .slice none 0 0] 25) = w2 at *
  have HQ0 : Hid (QS x w1 bq (.slice none 0 0) (.slice none 0 0) [] w2) := ⟨hq, World.ownsRow_nil _ _ _ 5, gq, by rw [HBQ.out]; exact Nat.le_refl _⟩
  replace b0 := gq.at b0
  replace b1 := gq.at b1
  have HO0 := Lib.hid (OrdL.start x.C)
  have hn1 : ((x.C.length : Nat) : Int) - 1 = ((x.C.length : Nat) : Int) - 1 := rfl
  clear hq gq hn1
  go_upto_region 7 with fail
  clear b0 b1
  go_loopg [8] x.C.length (fun k iv wr => ∃ (j : Nat) (z : Int) (v : Value) (L : List Cn), j ≤ x.C.length ∧ k = 0 + j ∧ iv = .int .i64 z ∧ z = (j : Int) - 1 ∧ Hid (QS x w1 bq v v L wr) ∧ Hid (OrdL x.C j L))
  case atStart => exact ⟨x.C.length, _, _, _, Nat.le_refl _, (Nat.zero_add _).symm, by first | rfl | go_num, rfl, HQ0, HO0⟩
  case round =>
    clear HQ0 HO0
    obtain ⟨j, z, v, L, hj, rfl, rfl, hz, hqs, hol⟩ := hrel
    cases j with
    | zero =>
      have hz0 : decide (0 ≤ z) = false := decide_eq_false (by omega)
      have hz1 : decide (z ≥ 0) = false := decide_eq_false (by omega)
      clear hz
      obtain ⟨hm1, hm2, hm3⟩ := hol.out.done
      obtain ⟨qp, qc, rfl, hcn, hql, hqc⟩ := hqs.out.own.form
      have gw : Gr w wr := HG1.out.trans hqs.out.gr
      have HBX := Lib.hid (HB1.out.gr hqs.out.gr)
      have HBQ2 := Lib.hid hqs.out.blk
      obtain ⟨y, hy⟩ : ∃ y : Pb, y = ⟨x.dp, x.dc, x.D, qp, qc, L⟩ := ⟨_, rfl⟩
      have HYI : Hid (∀ W, Gr wr W → y.In W) := fun W hW => by
        rw [hy]
        have hxw := HX.out.mono (gw.trans hW)
        exact ⟨hxw.rows, hxw.lenD, hcn.mono hW, ⟨hql, hqc⟩, fun u hu => hxw.ins u (hm3 u hu)⟩
      have HYV : Hid (y.val = .agg #[.slice x.dp x.D.length x.dc, .slice qp L.length qc]) := by rw [hy]; rfl
      have HYD : Hid (y.D = x.D) := by rw [hy]; rfl
      have HYC : Hid (∀ c, c ∈ y.cons ↔ c ∈ x.cons) := by rw [hy]; exact hm1
      have HYK : Hid (checkP x.D y.cons = checkP x.D x.cons) := checkP_perm HYC.out (by rw [hy]; exact hm2)
      obtain ⟨Eo, ok, ec, hred⟩ := reduce_det x.D x.cons
      obtain ⟨Ls, es, hsol⟩ := solve_det x.D x.cons most HM.out
      have HX1 : Hid (∀ W, Gr wr W → Calls Try.prog 10 #[.agg #[.slice x.dp x.D.length x.dc, .slice x.cp x.C.length x.cc]] W fun en w' => ∃ p c, en = .returned (.tuple #[.slice p Eo.length c, .bool ok, .int .i64 ec]) ∧ RowsBack w' p c Eo ∧ Gr W w') := fun W hW => by
        have h := hred x W (HX.out.mono (gw.trans hW)) rfl rfl (fun _ => Iff.rfl)
        rw [HVal.out] at h; exact h
      have HX2 : Hid (∀ W, Gr wr W → Calls Try.prog 10 #[.agg #[.slice x.dp x.D.length x.dc, .slice qp L.length qc]] W fun en w' => ∃ p c, en = .returned (.tuple #[.slice p Eo.length c, .bool ok, .int .i64 ec]) ∧ RowsBack w' p c Eo ∧ Gr W w') := fun W hW => by
        have h := hred y W (HYI.out W hW) HYD.out HYK.out HYC.out
        rw [HYV.out] at h; exact h
      have HX3 : Hid (∀ W, Gr wr W → Calls Try.prog 15 #[.agg #[.slice x.dp x.D.length x.dc, .slice x.cp x.C.length x.cc], .int .i64 most] W fun en w' => ∃ p c, en = .returned (.tuple #[.slice p Ls.length c, .int .i64 es]) ∧ RowsBack w' p c Ls ∧ Gr W w') := fun W hW => by
        have h := hsol x W (HX.out.mono (gw.trans hW)) rfl rfl (fun _ => Iff.rfl)
        rw [HVal.out] at h; exact h
      have HX4 : Hid (∀ W, Gr wr W → Calls Try.prog 15 #[.agg #[.slice x.dp x.D.length x.dc, .slice qp L.length qc], .int .i64 most] W fun en w' => ∃ p c, en = .returned (.tuple #[.slice p Ls.length c, .int .i64 es]) ∧ RowsBack w' p c Ls ∧ Gr W w') := fun W hW => by
        have h := hsol y W (HYI.out W hW) HYD.out HYK.out HYC.out
        rw [HYV.out] at h; exact h
      have HGW := Lib.hid gw
      clear hm1 hm2 hm3 hcn hql hqc gw hy hred hsol hol hqs
      have b0 := HBX.out.cell 0 (v := .slice x.dp x.D.length x.dc) rfl
      have b1 := HBX.out.cell 1 (v := .slice x.cp x.C.length x.cc) rfl
      go_upto_region 13 with (first
        | (go_at_call 10; refine (HX1.out _ (Gr.rfl' _)).mono ?_; rintro e1 w3 ⟨p3, c3, rfl, h1, h2⟩; have HR3 := Lib.hid h1; have G3 := Lib.hid h2; clear h1 h2 b0 b1)
        | fail)
      have q0 := (HBQ2.out.gr G3.out).cell 0 (v := .slice x.dp x.D.length x.dc) rfl
      have q1 := (HBQ2.out.gr G3.out).cell 1 (v := .slice qp L.length qc) rfl
      go_upto_region 14 with (first
        | (go_at_call 10; refine (HX2.out _ G3.out).mono ?_; rintro e1 w4 ⟨p4, c4, rfl, h1, h2⟩; have HR4 := Lib.hid h1; have G34 := Lib.hid h2; have G4 := Lib.hid (G3.out.trans h2); clear h1 h2 q0 q1)
        | fail)
      have b0 := (HBX.out.gr G4.out).cell 0 (v := .slice x.dp x.D.length x.dc) rfl
      have b1 := (HBX.out.gr G4.out).cell 1 (v := .slice x.cp x.C.length x.cc) rfl
      go_upto_region 15 with (first
        | (go_at_call 15; refine (HX3.out _ G4.out).mono ?_; rintro e1 w5 ⟨p5, c5, rfl, h1, h2⟩; have HR5 := Lib.hid h1; have G45 := Lib.hid h2; have G5 := Lib.hid (G4.out.trans h2); clear h1 h2 b0 b1)
        | fail)
      have q0 := (HBQ2.out.gr G5.out).cell 0 (v := .slice x.dp x.D.length x.dc) rfl
      have q1 := (HBQ2.out.gr G5.out).cell 1 (v := .slice qp L.length qc) rfl
      go_upto_region 16 with (first
        | (go_at_call 15; refine (HX4.out _ G5.out).mono ?_; rintro e1 w6 ⟨p6, c6, rfl, h1, h2⟩; have HR6 := Lib.hid h1; have G56 := Lib.hid h2; have G6 := Lib.hid (G5.out.trans h2); clear h1 h2 q0 q1)
        | fail)
      have Hw1 : Hid (∀ W, Gr w6 W → Calls Try.prog 16 #[.slice p3 Eo.length c3, .slice p4 Eo.length c4] W (Ret (.bool true) W)) := fun W hW => by
        have h4 := HR4.out.mono (G45.out.trans (G56.out.trans hW))
        have h3 := HR3.out.mono (G34.out.trans (G45.out.trans (G56.out.trans hW)))
        have h := rowsKeep_calls p3 p4 c3 c4 Eo Eo W h3.at_ h4.at_ h3.cap h4.cap
        rw [decide_eq_true rfl] at h; exact h
      have Hw2 : Hid (∀ W, Gr w6 W → Calls Try.prog 16 #[.slice p5 Ls.length c5, .slice p6 Ls.length c6] W (Ret (.bool true) W)) := fun W hW => by
        have h5 := HR5.out.mono (G56.out.trans hW)
        have h6 := HR6.out.mono hW
        have h := rowsKeep_calls p5 p6 c5 c6 Ls Ls W h5.at_ h6.at_ h5.cap h6.cap
        rw [decide_eq_true rfl] at h; exact h
      have Mk : Hid True := trivial
      have he1 : (ec == ec) = true := beq_self_eq_true ec
      have he2 : (ok == ok) = true := beq_self_eq_true ok
      go_wp2_with (first
        | (go_at_call 16; clear Mk; refine (Hw1.out _ (Gr.rfl' _)).mono ?_; rintro e7 w7 ⟨rfl, hb⟩; have G7 := Lib.hid (show Gr w6 w7 from hb); clear hb)
        | (go_at_call 16; refine (Hw2.out _ G7.out).mono ?_; rintro e8 w8 ⟨rfl, hb⟩; have G8 := Lib.hid (G7.out.trans (show Gr w7 w8 from hb)); clear hb)
        | fail)
      exact hR.out _ (HGW.out.trans (G6.out.trans G8.out))
    | succ j =>
      obtain rfl : z = (j : Int) := by omega
      clear hz
      have hjc : j < x.C.length := by omega
      obtain ⟨y, hy⟩ : ∃ y, x.C[j]? = some y := ⟨_, List.getElem?_eq_getElem (by omega)⟩
      have hyin := List.mem_of_getElem? hy
      obtain ⟨cb, co, hcpe, hcb, hcells⟩ := (HX.out.mono HG1.out).cns.resolve_left (fun e0 => by rw [e0] at hyin; exact (List.not_mem_nil hyin))
      have HCB : Hid (cb < w1.heap.size) := hcb
      have HY0 := Lib.hid (hcells _ y hy 0 (.int .i64 y.k) rfl)
      have HY1 := Lib.hid (hcells _ y hy 1 (.slice y.vp y.vs.length y.vc) rfl)
      have HY2 := Lib.hid (hcells _ y hy 2 (.slice y.cp y.cs.length y.cc) rfl)
      have HY3 := Lib.hid (hcells _ y hy 3 (.int .i64 y.op) rfl)
      have HY4 := Lib.hid (hcells _ y hy 4 (.int .i64 y.c) rfl)
      have HYY := Lib.hid hy
      have HCP := Lib.hid hcpe
      have HLow := Lib.hid (show (L.length + 1) * 72 ≤ 140737488355328 ∧ (x.C.length ≤ 50 → (L.length + 1 + 1) * 72 ≤ 140737488355328) by
        have := HSZ.out.con
        have := hol.out.high
        omega)
      clear hy hyin hcells hcpe hcb
      generalize wr = wI at *
      obtain ⟨qp, qc, hv, -, hq1, hq2⟩ := hqs.out.own.form
      subst hv
      go_upto_region 9 with fail
      have HXB := Lib.hid (HB1.out.gr hqs.out.gr)
      have HE2 := Lib.hid (hqs.out.blk.cell 1 (v := .slice qp L.length qc) rfl)
      have HE3 := Lib.hid (HXB.out.cell 1 (v := .slice x.cp x.C.length x.cc) rfl)
      have hnr : ∀ {b : Nat} {t : TypeId}, OfT wI b t → t ≠ 42 → ¬ (Value.slice qp L.length qc).ownBlock = some b := fun h hne hh => OfT.ne (ownsRow_typeN hqs.out.own hh).1 h (fun e => hne e.symm) rfl
      have HEN := Lib.hid (hnr (.of hqs.out.blk) (by decide))
      have HEX := Lib.hid (hnr (.of HXB.out) (by decide))
      have HEC : Hid (¬ (Value.slice qp L.length qc).ownBlock = some cb) := fun hh => by
        have h1 := (ownsRow_typeN hqs.out.own hh).2
        have h2 := HCB.out
        omega
      have HDL : Hid (∀ g, (Value.slice qp L.length qc).ownBlock = some g → g < wI.heap.size) := fun g hh => (ownsRow_typeN hqs.out.own hh).1.lt
      have E0 := Lib.hid (hqs.out.gr.at HY0.out)
      have E1 := Lib.hid (hqs.out.gr.at HY1.out)
      have E2 := Lib.hid (hqs.out.gr.at HY2.out)
      have E3 := Lib.hid (hqs.out.gr.at HY3.out)
      have E4 := Lib.hid (hqs.out.gr.at HY4.out)
      clear hnr
      rw [HCP.out] at HE3
      refine wp_region_relyA 10 [fx (.pointer (some ⟨bq, 1, none⟩)), fx (.slice qp L.length qc), fx (.pointer (some ⟨bx, 1, none⟩)), fx (.slice (some ⟨cb, co, none⟩) x.C.length x.cc), fx (.int .i64 (j : Nat)), fx (.pointer (some ⟨cb, co + j * 5, none⟩)), fx (.agg #[.int .i64 y.k, .slice y.vp y.vs.length y.vc, .slice y.cp y.cs.length y.cc, .int .i64 y.op, .int .i64 y.c]), cnSV (Value.ownBlock (.slice qp L.length qc)) y, slV, fx (.pointer (some ⟨bq, 1, none⟩))]
        (Kp (fun b => (Value.ownBlock (.slice qp L.length qc)) = some b)) (AppJ 8 42 (fun wz => QS x w1 bq (.slice qp L.length qc) (.slice qp L.length qc) L wz) (fun v wz => (∃ p c, v = .slice p (L.length + 1) c) ∧ QS x w1 bq (.slice qp L.length qc) v (L ++ [y]) wz)) (by kernel_rfl) (by kernel_rfl) (by decide) (by kernel_rfl) (fun _ _ h => Kp.of_gr h) (fun _ _ _ h k => Kp.trans h k) (fun w h => AppJ.start _ _ (hqs.out.gr' h)) (by repeat (first | exact StableR.nil | refine StableR.fix ?_ | refine StableR.cons cnSV_stable ?_ | refine StableR.cons (fun _ _ _ h _ => h) ?_)) ?_ ?_
      · refine ⟨stepA_plain (fun _ _ h => Kp.of_gr h) (fun listed a w w' v h hg => AppJ.other (fun _ _ h k => h.gr' k) (fun _ _ _ h k => ⟨h.1, h.2.gr' k⟩) rfl listed a w w' v h hg) ?_, ?a1, stepA_plain (fun _ _ h => Kp.of_gr h) (fun listed a w w' v h hg => AppJ.other (fun _ _ h k => h.gr' k) (fun _ _ _ h k => ⟨h.1, h.2.gr' k⟩) rfl listed a w w' v h hg) ?_, ?a3, stepA_plain (fun _ _ h => Kp.of_gr h) (fun listed a w w' v h hg => AppJ.other (fun _ _ h k => h.gr' k) (fun _ _ _ h k => ⟨h.1, h.2.gr' k⟩) rfl listed a w w' v h hg) ?_, stepA_plain (fun _ _ h => Kp.of_gr h) (fun listed a w w' v h hg => AppJ.other (fun _ _ h k => h.gr' k) (fun _ _ _ h k => ⟨h.1, h.2.gr' k⟩) rfl listed a w w' v h hg) ?_, ?a6, ?a7, ?a8, stepA_plain (fun _ _ h => Kp.of_gr h) (fun listed a w w' v h hg => AppJ.other (fun _ _ h k => h.gr' k) (fun _ _ _ h k => ⟨h.1, h.2.gr' k⟩) rfl listed a w w' v h hg) ?_, trivial⟩
        case a1 =>
          intro listed fr wr hj hl hpre hg hdef hold
          have h3 : fr.tmps[3]?.getD undef = .pointer (some ⟨bx, 0, none⟩) := hold 3 rfl
          have h7 : fr.tmps[7]?.getD undef = .pointer (some ⟨bq, 0, none⟩) := hold 7 rfl
          have h8 : fr.tmps[8]?.getD undef = .int .i64 (j : Nat) := hold 8 rfl
          clear hold
          have q2 := Kp.cell hg HE2.out HEN.out
          clear hdef
          simp [predsImp, Region.binds, dstAt, fx]
          intros
          rename_i K hK
          go_simp
          exact hK _ _ rfl (Kp.of_gr (Gr.rfl' _)) (AppJ.other (fun _ _ h k => h.gr' k) (fun _ _ _ h k => ⟨h.1, h.2.gr' k⟩) rfl listed fr wr wr _ hj (Gr.rfl' _))
        case a3 =>
          intro listed fr wr hj hl hpre hg hdef hold
          have h3 : fr.tmps[3]?.getD undef = .pointer (some ⟨bx, 0, none⟩) := hold 3 rfl
          have h7 : fr.tmps[7]?.getD undef = .pointer (some ⟨bq, 0, none⟩) := hold 7 rfl
          have h8 : fr.tmps[8]?.getD undef = .int .i64 (j : Nat) := hold 8 rfl
          clear hold
          have q2 := Kp.cell hg HE3.out HEX.out
          clear hdef
          simp [predsImp, Region.binds, dstAt, fx]
          intros
          rename_i K hK
          go_simp
          exact hK _ _ rfl (Kp.of_gr (Gr.rfl' _)) (AppJ.other (fun _ _ h k => h.gr' k) (fun _ _ _ h k => ⟨h.1, h.2.gr' k⟩) rfl listed fr wr wr _ hj (Gr.rfl' _))
        case a6 =>
          intro listed fr wr hj hl hpre hg hdef hold
          have h3 : fr.tmps[3]?.getD undef = .pointer (some ⟨bx, 0, none⟩) := hold 3 rfl
          have h7 : fr.tmps[7]?.getD undef = .pointer (some ⟨bq, 0, none⟩) := hold 7 rfl
          have h8 : fr.tmps[8]?.getD undef = .int .i64 (j : Nat) := hold 8 rfl
          clear hold
          have X0 := Kp.cell hg E0.out HEC.out
          have X1 := Kp.cell hg E1.out HEC.out
          have X2 := Kp.cell hg E2.out HEC.out
          have X3 := Kp.cell hg E3.out HEC.out
          have X4 := Kp.cell hg E4.out HEC.out
          simp only [← Nat.add_assoc, Nat.add_zero] at X0 X1 X2 X3 X4
          clear hdef
          simp [predsImp, Region.binds, dstAt, fx]
          intros
          rename_i K hK
          go_simp
          exact hK _ _ rfl (Kp.of_gr (Gr.rfl' _)) (AppJ.other (fun _ _ h k => h.gr' k) (fun _ _ _ h k => ⟨h.1, h.2.gr' k⟩) rfl listed fr wr wr _ hj (Gr.rfl' _))
        case a7 =>
          intro listed fr wr hj hl hpre hg hdef hold
          have h3 : fr.tmps[3]?.getD undef = .pointer (some ⟨bx, 0, none⟩) := hold 3 rfl
          have h7 : fr.tmps[7]?.getD undef = .pointer (some ⟨bq, 0, none⟩) := hold 7 rfl
          have h8 : fr.tmps[8]?.getD undef = .int .i64 (j : Nat) := hold 8 rfl
          clear hold
          clear hdef
          simp [predsImp, Region.binds, dstAt, fx]
          intros
          rename_i K hK
          go_simp
          have hsz := hg.size
          exact hK _ (wr.alloc (.cells y.arr 42)) ⟨_, rfl, BlkT.new _ _ _, fun hg2 => (by have h2 := HDL.out _ hg2; omega)⟩ (Kp.of_gr (by go_grown)) (AppJ.other (fun _ _ h k => h.gr' k) (fun _ _ _ h k => ⟨h.1, h.2.gr' k⟩) rfl listed fr wr _ _ hj (by go_grown))
        case a8 =>
          intro listed fr wr hj hl hpre hg hdef hold
          have h3 : fr.tmps[3]?.getD undef = .pointer (some ⟨bx, 0, none⟩) := hold 3 rfl
          have h7 : fr.tmps[7]?.getD undef = .pointer (some ⟨bq, 0, none⟩) := hold 7 rfl
          have h8 : fr.tmps[8]?.getD undef = .int .i64 (j : Nat) := hold 8 rfl
          clear hold
          clear hdef
          simp [predsImp, Region.binds, dstAt, fx]
          intro hA hB
          intros
          rename_i K hK
          obtain ⟨b, hvb, hbb, hbr⟩ := hB
          have hqq := hj.1 (getD_tf hl)
          obtain ⟨v', w', hrun, hown, hkp, hob⟩ := hqq.own.push y hqq.gr.size HLow.out.1 23 b hbb
          obtain ⟨p', c', rfl, -, -, -⟩ := hown.form
          exact wp_append_run wr _ _ _ _ rfl _ _ (by simp [Act.eval, hA]) (by simp [Act.eval, hvb]) _ _ hrun (hK _ _ ⟨_, _, _, rfl⟩ hkp (AppJ.step hl ⟨⟨p', c', by rw [List.length_append]; rfl⟩, ⟨hqq.blk.kp hkp HEN.out, hown, Below.trans hqq.gr (hkp.below (fun b hb => (ownsRow_typeN hqq.own hb).2) hqq.gr.size), hqq.ge⟩⟩))
        all_goals
          intro fr wr hg hold
          have h3 : fr.tmps[3]?.getD undef = .pointer (some ⟨bx, 0, none⟩) := hold 3 rfl
          have h7 : fr.tmps[7]?.getD undef = .pointer (some ⟨bq, 0, none⟩) := hold 7 rfl
          have h8 : fr.tmps[8]?.getD undef = .int .i64 (j : Nat) := hold 8 rfl
          clear hold
          simp [predsImp, Region.binds, dstAt, fx]
          intros
          rename_i K hK
          go_simp
        all_goals exact hK _ _ rfl (Gr.rfl' _)
      · intro wz2 hg
        rintro _ rfl _ rfl _ rfl _ rfl _ rfl _ rfl _ rfl _ - _ ⟨q32, n32, cq32, rfl⟩ _ rfl hj2
        simp only [Act.put, List.setIfInBounds_toArray, List.set_cons_succ, List.set_cons_zero, List.drop_succ_cons, List.drop_zero] at hj2 ⊢
        obtain ⟨⟨p', c', hv'⟩, hqs2⟩ := hj2.done (by show 8 < 10; omega) q32 n32 cq32 rfl
        cases hv'
        have zq := (hqs.out.blk.kp hg HEN.out).cell 1 (v := .slice qp L.length qc) rfl
        have zf := (hqs.out.blk.kp hg HEN.out).open_ 1
        have HQ2 : Hid (QS x w1 bq (.slice q32 (L.length + 1) cq32) (.slice q32 (L.length + 1) cq32) (L ++ [y]) (wz2.setCell ⟨bq, 1, none⟩ (.slice q32 (L.length + 1) cq32))) := hqs2.store
        clear hj2 hqs2 hg
        go_upto_region 10 with fail
        clear zq zf
        generalize wz2.setCell ⟨bq, 1, none⟩ (.slice q32 (L.length + 1) cq32) = wS at *
        have HXB2 := Lib.hid (HB1.out.gr HQ2.out.gr)
        have b1 := HXB2.out.cell 1 (v := .slice x.cp x.C.length x.cc) rfl
        rw [HCP.out] at b1
        have HO1 := Lib.hid (hol.out.one HYY.out)
        have HO2 := Lib.hid (hol.out.two HYY.out)
        obtain ⟨bb, hbb⟩ : ∃ bb, ((j : Int) % 3 == kk.tmod 3) = bb := ⟨_, rfl⟩
        cases bb with
        | false =>
          go_wp2_with fail
          go_roundg (0 + j)
          case measure => omega
          case rel => exact ⟨j, _, _, _, by omega, rfl, by go_num, rfl, HQ2, HO1⟩
        | true =>
          by_cases hf : x.C.length ≤ 50
          case neg =>
            have hfd : decide ((x.C.length : Int) ≤ 50) = false := decide_eq_false (by omega)
            clear hf
            go_wp2_with fail
            go_roundg (0 + j)
            case measure => omega
            case rel => exact ⟨j, _, _, _, by omega, rfl, by go_num, rfl, HQ2, HO1⟩
          have hfd : decide ((x.C.length : Int) ≤ 50) = true := decide_eq_true (by omega)
          have HO3 := Lib.hid (HO2.out hf)
          have HLow2 : Hid (((L ++ [y]).length + 1) * 72 ≤ 140737488355328) := by
            show _ ≤ _
            rw [List.length_append]; exact HLow.out.2 hf
          obtain ⟨L1, hL1⟩ : ∃ L1, L ++ [y] = L1 := ⟨_, rfl⟩
          have hln : L.length + 1 = L1.length := by rw [← hL1, List.length_append]; rfl
          rw [hL1] at HQ2 HO3 HLow2
          rw [hln] at HQ2 ⊢
          clear hf hL1 hln hqs hol HXB HXB2 HE2 HE3 HEN HEX HEC HDL E0 E1 E2 E3 E4
          go_upto_region 11 with fail
          clear b1 hbb hfd
          have HXB := Lib.hid (HB1.out.gr HQ2.out.gr)
          have HE2 := Lib.hid (HQ2.out.blk.cell 1 (v := .slice q32 L1.length cq32) rfl)
          have HE3 := Lib.hid (HXB.out.cell 1 (v := .slice x.cp x.C.length x.cc) rfl)
          have hnr : ∀ {b : Nat} {t : TypeId}, OfT wS b t → t ≠ 42 → ¬ (Value.slice q32 L1.length cq32).ownBlock = some b := fun h hne hh => OfT.ne (ownsRow_typeN HQ2.out.own hh).1 h (fun e => hne e.symm) rfl
          have HEN := Lib.hid (hnr (.of HQ2.out.blk) (by decide))
          have HEX := Lib.hid (hnr (.of HXB.out) (by decide))
          have HEC : Hid (¬ (Value.slice q32 L1.length cq32).ownBlock = some cb) := fun hh => by
            have h1 := (ownsRow_typeN HQ2.out.own hh).2
            have h2 := HCB.out
            omega
          have HDL : Hid (∀ g, (Value.slice q32 L1.length cq32).ownBlock = some g → g < wS.heap.size) := fun g hh => (ownsRow_typeN HQ2.out.own hh).1.lt
          have E0 := Lib.hid (HQ2.out.gr.at HY0.out)
          have E1 := Lib.hid (HQ2.out.gr.at HY1.out)
          have E2 := Lib.hid (HQ2.out.gr.at HY2.out)
          have E3 := Lib.hid (HQ2.out.gr.at HY3.out)
          have E4 := Lib.hid (HQ2.out.gr.at HY4.out)
          clear hnr
          rw [HCP.out] at HE3
          refine wp_region_relyA 10 [fx (.pointer (some ⟨bq, 1, none⟩)), fx (.slice q32 L1.length cq32), fx (.pointer (some ⟨bx, 1, none⟩)), fx (.slice (some ⟨cb, co, none⟩) x.C.length x.cc), fx (.int .i64 (j : Nat)), fx (.pointer (some ⟨cb, co + j * 5, none⟩)), fx (.agg #[.int .i64 y.k, .slice y.vp y.vs.length y.vc, .slice y.cp y.cs.length y.cc, .int .i64 y.op, .int .i64 y.c]), cnSV (Value.ownBlock (.slice q32 L1.length cq32)) y, slV, fx (.pointer (some ⟨bq, 1, none⟩))]
            (Kp (fun b => (Value.ownBlock (.slice q32 L1.length cq32)) = some b)) (AppJ 8 63 (fun wz => QS x w1 bq (.slice q32 L1.length cq32) (.slice q32 L1.length cq32) L1 wz) (fun v wz => (∃ p c, v = .slice p (L1.length + 1) c) ∧ QS x w1 bq (.slice q32 L1.length cq32) v (L1 ++ [y]) wz)) (by kernel_rfl) (by kernel_rfl) (by decide) (by kernel_rfl) (fun _ _ h => Kp.of_gr h) (fun _ _ _ h k => Kp.trans h k) (fun w h => AppJ.start _ _ (HQ2.out.gr' h)) (by repeat (first | exact StableR.nil | refine StableR.fix ?_ | refine StableR.cons cnSV_stable ?_ | refine StableR.cons (fun _ _ _ h _ => h) ?_)) ?_ ?_
          · refine ⟨stepA_plain (fun _ _ h => Kp.of_gr h) (fun listed a w w' v h hg => AppJ.other (fun _ _ h k => h.gr' k) (fun _ _ _ h k => ⟨h.1, h.2.gr' k⟩) rfl listed a w w' v h hg) ?_, ?a1, stepA_plain (fun _ _ h => Kp.of_gr h) (fun listed a w w' v h hg => AppJ.other (fun _ _ h k => h.gr' k) (fun _ _ _ h k => ⟨h.1, h.2.gr' k⟩) rfl listed a w w' v h hg) ?_, ?a3, stepA_plain (fun _ _ h => Kp.of_gr h) (fun listed a w w' v h hg => AppJ.other (fun _ _ h k => h.gr' k) (fun _ _ _ h k => ⟨h.1, h.2.gr' k⟩) rfl listed a w w' v h hg) ?_, stepA_plain (fun _ _ h => Kp.of_gr h) (fun listed a w w' v h hg => AppJ.other (fun _ _ h k => h.gr' k) (fun _ _ _ h k => ⟨h.1, h.2.gr' k⟩) rfl listed a w w' v h hg) ?_, ?a6, ?a7, ?a8, stepA_plain (fun _ _ h => Kp.of_gr h) (fun listed a w w' v h hg => AppJ.other (fun _ _ h k => h.gr' k) (fun _ _ _ h k => ⟨h.1, h.2.gr' k⟩) rfl listed a w w' v h hg) ?_, trivial⟩
            case a1 =>
              intro listed fr wr hj hl hpre hg hdef hold
              have h3 : fr.tmps[3]?.getD undef = .pointer (some ⟨bx, 0, none⟩) := hold 3 rfl
              have h7 : fr.tmps[7]?.getD undef = .pointer (some ⟨bq, 0, none⟩) := hold 7 rfl
              have h8 : fr.tmps[8]?.getD undef = .int .i64 (j : Nat) := hold 8 rfl
              clear hold
              have q2 := Kp.cell hg HE2.out HEN.out
              clear hdef
              simp [predsImp, Region.binds, dstAt, fx]
              intros
              rename_i K hK
              go_simp
              exact hK _ _ rfl (Kp.of_gr (Gr.rfl' _)) (AppJ.other (fun _ _ h k => h.gr' k) (fun _ _ _ h k => ⟨h.1, h.2.gr' k⟩) rfl listed fr wr wr _ hj (Gr.rfl' _))
            case a3 =>
              intro listed fr wr hj hl hpre hg hdef hold
              have h3 : fr.tmps[3]?.getD undef = .pointer (some ⟨bx, 0, none⟩) := hold 3 rfl
              have h7 : fr.tmps[7]?.getD undef = .pointer (some ⟨bq, 0, none⟩) := hold 7 rfl
              have h8 : fr.tmps[8]?.getD undef = .int .i64 (j : Nat) := hold 8 rfl
              clear hold
              have q2 := Kp.cell hg HE3.out HEX.out
              clear hdef
              simp [predsImp, Region.binds, dstAt, fx]
              intros
              rename_i K hK
              go_simp
              exact hK _ _ rfl (Kp.of_gr (Gr.rfl' _)) (AppJ.other (fun _ _ h k => h.gr' k) (fun _ _ _ h k => ⟨h.1, h.2.gr' k⟩) rfl listed fr wr wr _ hj (Gr.rfl' _))
            case a6 =>
              intro listed fr wr hj hl hpre hg hdef hold
              have h3 : fr.tmps[3]?.getD undef = .pointer (some ⟨bx, 0, none⟩) := hold 3 rfl
              have h7 : fr.tmps[7]?.getD undef = .pointer (some ⟨bq, 0, none⟩) := hold 7 rfl
              have h8 : fr.tmps[8]?.getD undef = .int .i64 (j : Nat) := hold 8 rfl
              clear hold
              have X0 := Kp.cell hg E0.out HEC.out
              have X1 := Kp.cell hg E1.out HEC.out
              have X2 := Kp.cell hg E2.out HEC.out
              have X3 := Kp.cell hg E3.out HEC.out
              have X4 := Kp.cell hg E4.out HEC.out
              simp only [← Nat.add_assoc, Nat.add_zero] at X0 X1 X2 X3 X4
              clear hdef
              simp [predsImp, Region.binds, dstAt, fx]
              intros
              rename_i K hK
              go_simp
              exact hK _ _ rfl (Kp.of_gr (Gr.rfl' _)) (AppJ.other (fun _ _ h k => h.gr' k) (fun _ _ _ h k => ⟨h.1, h.2.gr' k⟩) rfl listed fr wr wr _ hj (Gr.rfl' _))
            case a7 =>
              intro listed fr wr hj hl hpre hg hdef hold
              have h3 : fr.tmps[3]?.getD undef = .pointer (some ⟨bx, 0, none⟩) := hold 3 rfl
              have h7 : fr.tmps[7]?.getD undef = .pointer (some ⟨bq, 0, none⟩) := hold 7 rfl
              have h8 : fr.tmps[8]?.getD undef = .int .i64 (j : Nat) := hold 8 rfl
              clear hold
              clear hdef
              simp [predsImp, Region.binds, dstAt, fx]
              intros
              rename_i K hK
              go_simp
              have hsz := hg.size
              exact hK _ (wr.alloc (.cells y.arr 42)) ⟨_, rfl, BlkT.new _ _ _, fun hg2 => (by have h2 := HDL.out _ hg2; omega)⟩ (Kp.of_gr (by go_grown)) (AppJ.other (fun _ _ h k => h.gr' k) (fun _ _ _ h k => ⟨h.1, h.2.gr' k⟩) rfl listed fr wr _ _ hj (by go_grown))
            case a8 =>
              intro listed fr wr hj hl hpre hg hdef hold
              have h3 : fr.tmps[3]?.getD undef = .pointer (some ⟨bx, 0, none⟩) := hold 3 rfl
              have h7 : fr.tmps[7]?.getD undef = .pointer (some ⟨bq, 0, none⟩) := hold 7 rfl
              have h8 : fr.tmps[8]?.getD undef = .int .i64 (j : Nat) := hold 8 rfl
              clear hold
              clear hdef
              simp [predsImp, Region.binds, dstAt, fx]
              intro hA hB
              intros
              rename_i K hK
              obtain ⟨b, hvb, hbb, hbr⟩ := hB
              have hqq := hj.1 (getD_tf hl)
              obtain ⟨v', w', hrun, hown, hkp, hob⟩ := hqq.own.push y hqq.gr.size HLow2.out 23 b hbb
              obtain ⟨p', c', rfl, -, -, -⟩ := hown.form
              exact wp_append_run wr _ _ _ _ rfl _ _ (by simp [Act.eval, hA]) (by simp [Act.eval, hvb]) _ _ hrun (hK _ _ ⟨_, _, _, rfl⟩ hkp (AppJ.step hl ⟨⟨p', c', by rw [List.length_append]; rfl⟩, ⟨hqq.blk.kp hkp HEN.out, hown, Below.trans hqq.gr (hkp.below (fun b hb => (ownsRow_typeN hqq.own hb).2) hqq.gr.size), hqq.ge⟩⟩))
            all_goals
              intro fr wr hg hold
              have h3 : fr.tmps[3]?.getD undef = .pointer (some ⟨bx, 0, none⟩) := hold 3 rfl
              have h7 : fr.tmps[7]?.getD undef = .pointer (some ⟨bq, 0, none⟩) := hold 7 rfl
              have h8 : fr.tmps[8]?.getD undef = .int .i64 (j : Nat) := hold 8 rfl
              clear hold
              simp [predsImp, Region.binds, dstAt, fx]
              intros
              rename_i K hK
              go_simp
            all_goals exact hK _ _ rfl (Gr.rfl' _)
          · intro wz3 hg
            rintro _ rfl _ rfl _ rfl _ rfl _ rfl _ rfl _ rfl _ - _ ⟨q33, n32, cq33, rfl⟩ _ rfl hj2
            simp only [Act.put, List.setIfInBounds_toArray, List.set_cons_succ, List.set_cons_zero, List.drop_succ_cons, List.drop_zero] at hj2 ⊢
            obtain ⟨⟨p', c', hv'⟩, hqs2⟩ := hj2.done (by show 8 < 10; omega) q33 n32 cq33 rfl
            cases hv'
            have zq := (HQ2.out.blk.kp hg HEN.out).cell 1 (v := .slice q32 L1.length cq32) rfl
            have zf := (HQ2.out.blk.kp hg HEN.out).open_ 1
            have HQ3 : Hid (QS x w1 bq (.slice q33 (L1.length + 1) cq33) (.slice q33 (L1.length + 1) cq33) (L1 ++ [y]) (wz3.setCell ⟨bq, 1, none⟩ (.slice q33 (L1.length + 1) cq33))) := hqs2.store
            clear hj2 hqs2 hg
            go_wp2_with fail
            go_roundg (0 + j)
            case measure => omega
            case rel => exact ⟨j, _, _, _, by omega, rfl, by go_num, rfl, HQ3, HO3⟩
end Go.Proofs.Ytbapmokbkjmdcaa
