/-
  machine.Check
-/
import Derived.Test.YtgaijgadeodoeaaDoorUA
import Derived.Test.YtgaijgadeodoeaaDoorUC
import Derived.Test.YtgaijgadeodoeaaDoorS0
import Derived.Deep.LoopGhost
import Derived.Deep.CutRange
import Derived.Deep.CutBlock
import Derived.BigRegion
namespace Go.Proofs.YtgaijgadeodoeaaDoor
open Go.RowKit Go.Maps

/-- How often a predicate comes among the first k. -/
def cntE (l : List Ent) (k : Nat) (s : List UInt8) (n : Int) : Int := (((l.take k).filter fun x => decide (x.s.toList = s) && decide (x.n = n)).length : Int)

theorem cntE_zero (l : List Ent) : cntE l 0 = fun _ _ => 0 := by funext s n; simp [cntE]
theorem cntE_bound (l : List Ent) (k : Nat) (s : List UInt8) (n : Int) : 0 ≤ cntE l k s n ∧ cntE l k s n ≤ k := by
  have h1 := List.length_filter_le (fun x : Ent => decide (x.s.toList = s) && decide (x.n = n)) (l.take k)
  have h2 := List.length_take_le k l
  unfold cntE
  omega
theorem cntE_succ {l : List Ent} {k : Nat} {y : Ent} (hy : l[k]? = some y) : bump (cntE l k) y.s.toList y.n (cntE l k y.s.toList y.n + 1) = cntE l (k + 1) := by
  obtain ⟨hk, rfl⟩ := List.getElem?_eq_some_iff.1 hy
  funext s n
  unfold bump cntE
  rw [List.take_succ_eq_append_getElem hk, List.filter_append, List.length_append]
  by_cases h : s = l[k].s.toList ∧ n = l[k].n
  · obtain ⟨rfl, rfl⟩ := h
    rw [if_pos ⟨rfl, rfl⟩]
    simp
  · rw [if_neg h]
    have : ¬ (l[k].s.toList = s ∧ l[k].n = n) := fun e => h ⟨e.1.symm, e.2.symm⟩
    simp only [List.filter_cons, List.filter_nil]
    rw [if_neg (by simpa using this)]
    simp
theorem cntE_seen {l : List Ent} {k : Nat} {y : Ent} : 0 < cntE l k y.s.toList y.n ↔ (l.take k).any (entSame · y) = true := by
  unfold cntE
  rw [show (0 : Int) < (((l.take k).filter fun x => decide (x.s.toList = y.s.toList) && decide (x.n = y.n)).length : Int) ↔ 0 < ((l.take k).filter fun x => decide (x.s.toList = y.s.toList) && decide (x.n = y.n)).length by omega,
    List.length_filter_pos_iff, List.any_eq_true]
  exact Iff.rfl

theorem entsTo_bad {l : List Ent} {size : Int} {k : Nat} {y : Ent} (hy : l[k]? = some y) (h : entBad y size = true) : entsTo l size l.length = false :=
  entsTo_le (j := k + 1) (by rw [entsTo_at hy, h]; simp) (List.getElem?_eq_some_iff.1 hy).1
theorem entsTo_seen {l : List Ent} {size : Int} {k : Nat} {y : Ent} (hy : l[k]? = some y) (h : 0 < cntE l k y.s.toList y.n) : entsTo l size l.length = false :=
  entsTo_le (j := k + 1) (by rw [entsTo_at hy, cntE_seen.1 h]; simp) (List.getElem?_eq_some_iff.1 hy).1
theorem entsTo_good {l : List Ent} {size : Int} {k : Nat} {y : Ent} (hk : entsTo l size k = true) (hy : l[k]? = some y) (h : entBad y size = false) (h2 : ¬ 0 < cntE l k y.s.toList y.n) : entsTo l size (k + 1) = true := by
  rw [entsTo_at hy, hk, h]
  have : (l.take k).any (entSame · y) = false := by
    cases h3 : (l.take k).any (entSame · y)
    · rfl
    · exact absurd (cntE_seen.2 h3) h2
  rw [this]; rfl

theorem cells3' (w : World) (a b c : Value) (t : TypeId) : (w.alloc (.cells #[a, b, c] t)).cell? ⟨w.heap.size, 0, none⟩ = some a ∧ (w.alloc (.cells #[a, b, c] t)).cell? ⟨w.heap.size, 1, none⟩ = some b ∧ (w.alloc (.cells #[a, b, c] t)).cell? ⟨w.heap.size, 2, none⟩ = some c := by
  refine ⟨?_, ?_, ?_⟩ <;> (rw [World.cell?_alloc_at _ _ _ _ rfl]; rfl)
theorem cells2' (w : World) (a b : Value) (t : TypeId) : (w.alloc (.cells #[a, b] t)).cell? ⟨w.heap.size, 0, none⟩ = some a ∧ (w.alloc (.cells #[a, b] t)).cell? ⟨w.heap.size, 1, none⟩ = some b := by
  refine ⟨?_, ?_⟩ <;> (rw [World.cell?_alloc_at _ _ _ _ rfl]; rfl)

theorem wf_i64 {c : Int} (h : -9223372036854775808 ≤ c ∧ c ≤ 9223372036854775807) : (Lit.int .i64 c).wf = true := WalkArith.wf_i64 h

theorem keepC {w w' : World} {r R o : Nat} {v : Value} (hg : w.grownBy w' (some r)) (hR : R < w.heap.size) (hne : R ≠ r) (h : w.cell? ⟨R, o, none⟩ = some v) : w'.cell? ⟨R, o, none⟩ = some v :=
  (World.cell?_of_block (hg.block R hR (by simpa using hne))).trans h
theorem gr_grown {w w1 w2 : World} {r : Nat} (h : Gr w w1) (hg : w1.grownBy w2 (some r)) (hr : w.heap.size ≤ r) : Gr w w2 :=
  Below.trans h (grownBy_below hg h.size fun k hk => by cases hk; exact hr)

set_option maxHeartbeats 2000000 in
set_option maxRecDepth 100000 in
theorem mcheck_calls (x : Codev) (w : World) (hx : x.In w) : Calls Tryd.prog 10 #[x.val] w (Ret (.int .i64 (codeErr x.il x.el x.q)) w) := by
  have hR : Hid (∀ n, codeErr x.il x.el x.q = n → ∀ w', Gr w w' → Ret (.int .i64 (codeErr x.il x.el x.q)) w (.returned (.int .i64 n)) w') := fun b hb w' hg => ⟨by rw [hb], hg⟩
  generalize hQ : Ret (.int .i64 (codeErr x.il x.el x.q)) w = Q at hR ⊢
  clear hQ
  obtain ⟨ip, ic, l, ep, ec, m, q⟩ := x
  obtain ⟨hxi, hxe, hq64⟩ := hx
  simp only at hxi hxe hq64
  have HXI := Lib.hid hxi
  have HXE := Lib.hid hxe
  have hl64 : l.length ≤ 140737488351232 := by have := hxi.2.1.1; omega
  have hm64 : m.length ≤ 140737488351232 := by have := hxe.2.1.1; omega
  have hic : l.length ≤ ic := hxi.1
  have hec : m.length ≤ ec := hxe.1
  clear hxi hxe
  simp only [Codev.val]
  have hRl := Lib.hid (fun h => hR.out _ (codeErr_long (l := l) (m := m) (q := q) h))
  have hRq := Lib.hid (fun h h2 => hR.out _ (codeErr_query (l := l) (m := m) (q := q) h h2))
  have hRi := Lib.hid (fun h h2 => hR.out _ (codeErr_ins (l := l) (m := m) (q := q) h h2))
  have hRt := Lib.hid (fun x h hx h2 => hR.out _ (codeErr_last (l := l) (m := m) (q := q) (x := x) h hx h2))
  have hRe := Lib.hid (fun h h2 => hR.out _ (codeErr_ents (l := l) (m := m) (q := q) h h2))
  have hRf := Lib.hid (fun x h h1 h2 hx h3 h4 => hR.out _ (codeErr_fine (l := l) (m := m) (q := q) (x := x) h h1 h2 hx h3 h4))
  clear hR
  go_enter Tryd.func10, Tryd.ntmps10
  try simp only [List.append_eq, List.cons_append, List.nil_append]
  go_upto_region 1 with fail
  obtain ⟨c0, c1, c2⟩ := cells3' w (.slice ip l.length ic) (.slice ep m.length ec) (.int .i64 q) 32
  have gA : Gr w (w.alloc (.cells #[.slice ip l.length ic, .slice ep m.length ec, .int .i64 q] 32)) := by go_grown
  have hszA : (w.alloc (.cells #[.slice ip l.length ic, .slice ep m.length ec, .int .i64 q] 32)).heap.size = w.heap.size + 1 := by simp
  generalize w.alloc (.cells #[.slice ip l.length ic, .slice ep m.length ec, .int .i64 q] 32) = wA at *
  go_upto_region 2 with fail
  have gB : Gr wA (wA.alloc (.cells #[.int .i64 l.length] 3)) := by go_grown
  have cn : (wA.alloc (.cells #[.int .i64 l.length] 3)).cell? ⟨wA.heap.size, 0, none⟩ = some (.int .i64 l.length) := by rw [World.cell?_alloc_at _ _ _ _ rfl]; rfl
  have hszB : (wA.alloc (.cells #[.int .i64 l.length] 3)).heap.size = wA.heap.size + 1 := by simp
  replace c0 := Gr.at gB c0
  replace c1 := Gr.at gB c1
  replace c2 := Gr.at gB c2
  rw [hszA] at cn hszB
  have g := gA.trans gB
  clear gA gB
  simp only [hszA] at *
  generalize wA.alloc (.cells #[.int .i64 l.length] 3) = wB at *
  by_cases hlong : 100000 < l.length
  · have hv := Lib.hid (hRl.out hlong)
    have hlong' : (100000 : Int) < (l.length : Int) := by omega
    go_wp2_with fail
    exact hv.out _ g
  have hlong' : ¬ (100000 : Int) < (l.length : Int) := by omega
  by_cases hq0 : l.length = 0 ∨ q < 0 ∨ (l.length : Int) ≤ q
  · have hv := Lib.hid (hRq.out hlong hq0)
    rcases hq0 with h1 | h1 | h1
    · have h2 : ((l.length : Int) == 0) = true := beq_iff_eq.2 (by omega)
      go_wp2_with fail
      exact hv.out _ g
    · by_cases h0 : l.length = 0
      · have h2 : ((l.length : Int) == 0) = true := beq_iff_eq.2 (by omega)
        go_wp2_with fail
        exact hv.out _ g
      · have h2 : ((l.length : Int) == 0) = false := beq_eq_false_iff_ne.2 (by omega)
        go_wp2_with fail
        exact hv.out _ g
    · by_cases h0 : l.length = 0
      · have h2 : ((l.length : Int) == 0) = true := beq_iff_eq.2 (by omega)
        go_wp2_with fail
        exact hv.out _ g
      · have h2 : ((l.length : Int) == 0) = false := beq_eq_false_iff_ne.2 (by omega)
        have h3 : ¬ q < 0 := by omega
        go_wp2_with fail
        exact hv.out _ g
  have hq1 := Lib.hid hq0
  have hn0 : ((l.length : Int) == 0) = false := beq_eq_false_iff_ne.2 (by omega)
  have hqa : ¬ q < 0 := by omega
  have hqb : ¬ (l.length : Int) ≤ q := by omega
  clear hq0
  have HCN := Lib.hid cn
  cases hall : l.all (insOk · l.length) with
  | false =>
    have hv := Lib.hid (hRi.out hlong hall)
    have hcon := Lib.hid (containsIns_calls ip ic l l.length (w.heap.size + 1) wB (HXI.out.mono g) cn)
    rw [hall] at hcon
    clear hall
    go_wp2_with (first | (go_at_call 27; refine hcon.out.mono ?_; rintro e w' ⟨rfl, hb⟩) | fail)
    exact hv.out _ (g.trans hb)
  | true =>
  have hcon := Lib.hid (containsIns_calls ip ic l l.length (w.heap.size + 1) wB (HXI.out.mono g) cn)
  rw [hall] at hcon
  have HALL := Lib.hid hall
  clear hall
  obtain ⟨b, o, rfl, _, _⟩ := HXI.out.ptr (by omega)
  have hy0 : l[l.length - 1]? = some l[l.length - 1] := List.getElem?_eq_getElem (by omega)
  obtain ⟨i0, _⟩ := ins_cells (HXI.out.mono g) hy0
  generalize l[l.length - 1] = y at *
  have HY := Lib.hid hy0
  clear hy0
  have hw1 : IntKind.i64.wrap ((l.length : Int) - 1) = (l.length : Int) - 1 := IntWalk.i64_in _ (by omega)
  have hT : ((l.length : Int) - 1).toNat = l.length - 1 := by omega
  go_upto_block 0 with (first | (go_at_call 27; refine hcon.out.mono ?_; rintro e w' ⟨rfl, hb⟩; have d0 := Gr.at hb c0; have d1 := Gr.at hb c1; have dn := Gr.at hb cn; have j0 := Gr.at hb i0; have g2 := g.trans hb; clear c0 c1 c2 cn i0) | fail)
  have HJ := Lib.hid j0
  have hop : ∀ n : Int, (y.op == n) = true → lastOk n = true → lastOk y.op = true := fun n h h2 => by rw [beq_iff_eq.1 h]; exact h2
  go_cut [39] from 39 to 43 (fun c wx => c = .bool true ∧ wx = w' ∧ Hid (lastOk y.op = true))
  case first =>
    cases h15 : (y.op == 15) with
    | true =>
      have ho := Lib.hid (hop 15 h15 rfl)
      go_wp2_with fail
      go_meet
      exact ⟨rfl, rfl, ho⟩
    | false =>
    cases h16 : (y.op == 16) with
    | true =>
      have ho := Lib.hid (hop 16 h16 rfl)
      go_wp2_with fail
      go_meet
      exact ⟨rfl, rfl, ho⟩
    | false =>
    cases h17 : (y.op == 17) with
    | true =>
      have ho := Lib.hid (hop 17 h17 rfl)
      go_wp2_with fail
      go_meet
      exact ⟨rfl, rfl, ho⟩
    | false =>
    cases h19 : (y.op == 19) with
    | true =>
      have ho := Lib.hid (hop 19 h19 rfl)
      go_wp2_with fail
      go_meet
      exact ⟨rfl, rfl, ho⟩
    | false =>
      have hv := Lib.hid (hRt.out y hlong HY.out (by simp only [beq_eq_false_iff_ne] at h15 h16 h17 h19; simp [lastOk, h15, h16, h17, h19]))
      go_wp2_with fail
      exact hv.out _ g2
  case rest =>
    obtain ⟨rfl, rfl, ho⟩ := hcut
    have hmm := @run_makeMap Tryd.prog
    have dn0 := dn
    clear hop hcon hT hw1 j0
    go_upto_region 13 with fail
    have hpm := (PredMap.made wc).ext (cntE_zero m).symm
    have gM : Gr wc (wc.alloc (.map #[] 0)) := by go_grown
    replace d1 := Gr.at gM d1
    replace dn := Gr.at gM dn
    have g3 := g2.trans gM
    have hbm : w.heap.size + 1 < wc.heap.size := World.block_lt_of_cell? _ _ dn0
    clear gM d0
    generalize wc.alloc (.map #[] 0) = wM at *
    generalize wc.heap.size = bm at *
    clear HJ HCN hb
    go_wp2_with fail
    go_loopg [48] m.length (fun t i wr => ∃ k : Nat, k ≤ m.length ∧ t = m.length - k ∧ i = .int .i64 k ∧ Hid (entsTo m l.length k = true) ∧ Gr w wr ∧ wr.cell? ⟨w.heap.size + 1, 0, none⟩ = some (.int .i64 l.length) ∧ PredMap wr bm k (cntE m k))
    case atStart => exact ⟨0, Nat.zero_le _, rfl, rfl, rfl, g3, dn, hpm⟩
    case round =>
      clear hpm
      obtain ⟨k, hk, rfl, rfl, hfine, gr, cn, pm⟩ := hrel
      by_cases hlt : k < m.length
      · obtain ⟨b2, o2, rfl, _, _⟩ := HXE.out.ptr (by omega)
        have hy0 : m[k]? = some m[k] := List.getElem?_eq_getElem hlt
        obtain ⟨e0, e1, e2⟩ := ent_cells (HXE.out.mono gr) hy0
        generalize m[k] = z at *
        have HZ := Lib.hid hy0
        clear hy0
        go_upto_region 16 with fail
        obtain ⟨f0, f1, f2⟩ := cells3' wr (.string z.s) (.int .i64 z.n) (.int .i64 z.at_) 68
        have gE : Gr wr (wr.alloc (.cells #[.string z.s, .int .i64 z.n, .int .i64 z.at_] 68)) := by go_grown
        have hszE : (wr.alloc (.cells #[.string z.s, .int .i64 z.n, .int .i64 z.at_] 68)).heap.size = wr.heap.size + 1 := by simp
        generalize wr.alloc (.cells #[.string z.s, .int .i64 z.n, .int .i64 z.at_] 68) = wE at *
        go_upto_region 17 with fail
        obtain ⟨p0, p1⟩ := cells2' wE (.string z.s) (.int .i64 z.n) 70
        have gP : Gr wE (wE.alloc (.cells #[.string z.s, .int .i64 z.n] 70)) := by go_grown
        rw [hszE] at p0 p1
        replace f0 := Gr.at gP f0
        replace f1 := Gr.at gP f1
        replace f2 := Gr.at gP f2
        have gEP := gE.trans gP
        have cn' := Gr.at gEP cn
        have pm' := pm.gr gEP
        have g4 := gr.trans gEP
        simp only [hszE] at *
        generalize wE.alloc (.cells #[.string z.s, .int .i64 z.n] 70) = wP at *
        clear gE gP gEP cn pm e0 e1 e2 hszE
        obtain ⟨hzs, hzn, hza⟩ := HXE.out.2.2.2 z (List.mem_of_getElem? HZ.out)
        have hvb := Lib.hid (fun h => hRe.out hlong (entsTo_bad (size := l.length) HZ.out h))
        have hvs := Lib.hid (fun h => hRe.out hlong (entsTo_seen (size := l.length) HZ.out h))
        by_cases a1 : z.at_ < 0
        · have hv := Lib.hid (hvb.out (by simp [entBad, a1]))
          go_wp2_with fail
          exact hv.out _ g4
        by_cases a2 : (l.length : Int) ≤ z.at_
        · have hv := Lib.hid (hvb.out (by simp [entBad, a2]))
          go_wp2_with fail
          exact hv.out _ g4
        by_cases a3 : z.n < 0
        · have hv := Lib.hid (hvb.out (by simp [entBad, a3]))
          go_wp2_with fail
          exact hv.out _ g4
        by_cases a4 : 50 < z.n
        · have hv := Lib.hid (hvb.out (by simp [entBad, a4]))
          go_wp2_with fail
          exact hv.out _ g4
        by_cases a5 : 100 < (z.s.size : Int)
        · have hv := Lib.hid (hvb.out (by simp [entBad, a5]))
          go_wp2_with fail
          exact hv.out _ g4
        cases a6 : reserved z.s.toList z.n with
        | true =>
          have hv := Lib.hid (hvb.out (by simp [entBad, a6]))
          have ha6 := Lib.hid a6
          clear a6
          go_wp2_with (first | (go_at_call 17; refine (reserved_calls z.s z.n _).mono ?_; rintro e w' ⟨rfl, hb⟩; rewrite [ha6.out]) | fail)
          exact hv.out _ (g4.trans hb)
        | false =>
        have hgood : Hid (entBad z l.length = false) := by show _ = _; simp [entBad, a6]; omega
        have ha6 := Lib.hid a6
        clear a6
        obtain ⟨cb0, cb1⟩ := cntE_bound m k z.s.toList z.n
        by_cases a7 : 0 < cntE m k z.s.toList z.n
        · have hv := Lib.hid (hvs.out a7)
          go_wp2_with (first | (go_at_call 17; refine (reserved_calls z.s z.n _).mono ?_; rintro e w' ⟨rfl, hb⟩; rewrite [ha6.out]; have hrun := PredMap.run (pm'.gr hb) z.s z.n (by unfold maxLen; omega) (wf_i64 hzn); have p0' := Gr.at hb p0; have p1' := Gr.at hb p1; have cn'' := Gr.at hb cn'; have pm'' := pm'.gr hb; have g5 := g4.trans hb; clear p0 p1 cn' pm' hb) | fail)
          exact hv.out _ g5
        have hnew : Hid (entsTo m l.length (k + 1) = true) := entsTo_good hfine.out HZ.out hgood.out a7
        go_upto_region 19 with (first | (go_at_call 17; refine (reserved_calls z.s z.n _).mono ?_; rintro e w' ⟨rfl, hb⟩; rewrite [ha6.out]; have hrun := PredMap.run (pm'.gr hb) z.s z.n (by unfold maxLen; omega) (wf_i64 hzn); have p0' := Gr.at hb p0; have p1' := Gr.at hb p1; have cn'' := Gr.at hb cn'; have pm'' := pm'.gr hb; have g5 := g4.trans hb; clear p0 p1 cn' pm' hb) | fail)
        have hgd : Gr w' w'.drew := (Gr.rfl' w').drewN 1
        have hrd := PredMap.run (pm''.gr hgd) z.s z.n (by unfold maxLen; omega) (wf_i64 hzn)
        have hwb : IntKind.i64.wrap (cntE m k z.s.toList z.n + 1) = cntE m k z.s.toList z.n + 1 := IntWalk.i64_in _ (by omega)
        obtain ⟨v0, st, w2, w4, he, hst, pm4, hg4, hg2, hl2⟩ := PredMap.bumped (pm''.gr hgd) z.s z.n (cntE m k z.s.toList z.n + 1) (by unfold maxLen; omega) (wf_i64 hzn) (by unfold maxLen; omega) (wf_i64 (by omega))
        have HP4 := Lib.hid pm4
        have HG4 := Lib.hid hg4
        clear pm4 hg4 hg2 hrun
        unfold goInt at he hst
        go_region
        go_wp2_with fail
        go_roundg (m.length - (k + 1))
        case measure => omega
        case rel =>
          refine ⟨k + 1, by omega, rfl, by go_num, hnew, gr_grown (show Gr w w'.drew from g5.drewN 1) HG4.out (by omega), keepC HG4.out (show w.heap.size + 1 < w'.drew.heap.size from World.block_lt_of_cell? _ _ cn'') (by omega) cn'', HP4.out.ext (cntE_succ HZ.out)⟩
      · obtain rfl : k = m.length := by omega
        have hv := Lib.hid (hRf.out y hlong hq1.out HALL.out HY.out ho.out hfine.out)
        go_wp2_with fail
        exact hv.out _ gr
end Go.Proofs.YtgaijgadeodoeaaDoor
