/-
  hornref.CheckCode
-/
import Derived.Test.YtgaijgadeodoeaaDoorUD
import Derived.Test.YtgaijgadeodoeaaDoorU9
namespace Go.Proofs.YtgaijgadeodoeaaDoor
open Go.RowKit Go.Maps

theorem sameTo_succ {m : List Ent} {j : Nat} {y z : Ent} (hy : m[j]? = some y) : (m.take (j + 1)).any (entSame · z) = ((m.take j).any (entSame · z) || (decide (y.s.toList = z.s.toList) && decide (y.n = z.n))) := by
  obtain ⟨hj, rfl⟩ := List.getElem?_eq_some_iff.1 hy
  rw [List.take_succ_eq_append_getElem hj, List.any_append, List.any_cons, List.any_nil, Bool.or_false]
  rfl
theorem entsTo_same {l : List Ent} {size : Int} {k j : Nat} {z : Ent} (hz : l[k]? = some z) (hj : j ≤ k) (h : (l.take j).any (entSame · z) = true) : entsTo l size l.length = false :=
  entsTo_le (j := k + 1) (by
    have : (l.take k).any (entSame · z) = true := by
      rw [List.any_eq_true] at h ⊢
      obtain ⟨x, hx, h⟩ := h
      exact ⟨x, (List.take_subset_take_left l hj) hx, h⟩
    rw [entsTo_at hz, this]; simp) (List.getElem?_eq_some_iff.1 hz).1
theorem entsTo_fine {l : List Ent} {size : Int} {k : Nat} {z : Ent} (hk : entsTo l size k = true) (hz : l[k]? = some z) (h : entBad z size = false) (h2 : (l.take k).any (entSame · z) = false) : entsTo l size (k + 1) = true := by
  rw [entsTo_at hz, hk, h, h2]; rfl

set_option maxHeartbeats 2000000 in
set_option maxRecDepth 100000 in
theorem rcheck_calls (x : Codev) (w : World) (m₀ : Int) (hm₀ : w.cell? ⟨0, 0, none⟩ = some (.int .i64 m₀)) (hx : x.In w) : Calls Tryd.prog 11 #[x.val] w (Ret (.int .i64 (codeErr x.il x.el x.q)) w) := by
  have hR : Hid (∀ n, codeErr x.il x.el x.q = n → ∀ w', Gr w w' → Ret (.int .i64 (codeErr x.il x.el x.q)) w (.returned (.int .i64 n)) w') := fun b hb w' hg => ⟨by rw [hb], hg⟩
  generalize hQ : Ret (.int .i64 (codeErr x.il x.el x.q)) w = Q at hR ⊢
  clear hQ
  obtain ⟨ip, ic, l, ep, ec, m, q⟩ := x
  obtain ⟨hxi, hxe, hq64⟩ := hx
  simp only at hxi hxe hq64
  have HXI := Lib.hid hxi
  have HXE := Lib.hid hxe
  have hl64 : l.length ≤ 140737488351232 := by have := hxi.2.1.1; omega
  have hm64 : m.length ≤ 140737488351232 := by have := hxe.2.1.1; omega
  have hic : l.length ≤ ic := hxi.1
  have hec : m.length ≤ ec := hxe.1
  clear hxi hxe
  simp only [Codev.val]
  have hRl := Lib.hid (fun h => hR.out _ (codeErr_long (l := l) (m := m) (q := q) h))
  have hRq := Lib.hid (fun h h2 => hR.out _ (codeErr_query (l := l) (m := m) (q := q) h h2))
  have hRi := Lib.hid (fun h h2 => hR.out _ (codeErr_ins (l := l) (m := m) (q := q) h h2))
  have hRt := Lib.hid (fun x h hx h2 => hR.out _ (codeErr_last (l := l) (m := m) (q := q) (x := x) h hx h2))
  have hRe := Lib.hid (fun h h2 => hR.out _ (codeErr_ents (l := l) (m := m) (q := q) h h2))
  have hRf := Lib.hid (fun x h h1 h2 hx h3 h4 => hR.out _ (codeErr_fine (l := l) (m := m) (q := q) (x := x) h h1 h2 hx h3 h4))
  clear hR
  go_enter Tryd.func11, Tryd.ntmps11
  try simp only [List.append_eq, List.cons_append, List.nil_append]
  go_upto_region 1 with fail
  obtain ⟨c0, c1, c2⟩ := cells3' w (.slice ip l.length ic) (.slice ep m.length ec) (.int .i64 q) 32
  have gA : Gr w (w.alloc (.cells #[.slice ip l.length ic, .slice ep m.length ec, .int .i64 q] 32)) := by go_grown
  have hszA : (w.alloc (.cells #[.slice ip l.length ic, .slice ep m.length ec, .int .i64 q] 32)).heap.size = w.heap.size + 1 := by simp
  generalize w.alloc (.cells #[.slice ip l.length ic, .slice ep m.length ec, .int .i64 q] 32) = wA at *
  generalize HMdef : wA = wB at *
  have HM := Lib.hid (Gr.at gA hm₀)
  clear hszA HMdef
  by_cases hlong : 100000 < l.length
  · have hv := Lib.hid (hRl.out hlong)
    have hlong' : (100000 : Int) < (l.length : Int) := by omega
    go_wp2_with fail
    exact hv.out _ gA
  have hlong' : ¬ (100000 : Int) < (l.length : Int) := by omega
  by_cases hq0 : l.length = 0 ∨ q < 0 ∨ (l.length : Int) ≤ q
  · have hv := Lib.hid (hRq.out hlong hq0)
    rcases hq0 with h1 | h1 | h1
    · have h2 : ((l.length : Int) == 0) = true := beq_iff_eq.2 (by omega)
      go_wp2_with fail
      exact hv.out _ gA
    · by_cases h0 : l.length = 0
      · have h2 : ((l.length : Int) == 0) = true := beq_iff_eq.2 (by omega)
        go_wp2_with fail
        exact hv.out _ gA
      · have h2 : ((l.length : Int) == 0) = false := beq_eq_false_iff_ne.2 (by omega)
        go_wp2_with fail
        exact hv.out _ gA
    · by_cases h0 : l.length = 0
      · have h2 : ((l.length : Int) == 0) = true := beq_iff_eq.2 (by omega)
        go_wp2_with fail
        exact hv.out _ gA
      · have h2 : ((l.length : Int) == 0) = false := beq_eq_false_iff_ne.2 (by omega)
        have h3 : ¬ q < 0 := by omega
        go_wp2_with fail
        exact hv.out _ gA
  have hq1 := Lib.hid hq0
  have hn0 : ((l.length : Int) == 0) = false := beq_eq_false_iff_ne.2 (by omega)
  have hqa : ¬ q < 0 := by omega
  have hqb : ¬ (l.length : Int) ≤ q := by omega
  clear hq0
  obtain ⟨b, o, rfl, _, _⟩ := HXI.out.ptr (by omega)
  go_wp2_with fail
  have C0 := Lib.hid c0
  have C1 := Lib.hid c1
  go_loopg [4] l.length (fun t i wr => ∃ k : Nat, k ≤ l.length ∧ t = l.length - k ∧ i = .int .i64 k ∧ Hid (fineTo l l.length k) ∧ Gr wB wr)
  case atStart => exact ⟨0, Nat.zero_le _, rfl, rfl, fineTo_zero _ _, Gr.rfl' _⟩
  case round =>
    clear c0 c1 c2
    obtain ⟨k, hk, rfl, rfl, hfine, gr⟩ := hrel
    have c0 := Gr.at gr C0.out
    have g2 : Gr w wr := gA.trans gr
    by_cases hlt : k < l.length
    · have hy0 : l[k]? = some l[k] := List.getElem?_eq_getElem hlt
      obtain ⟨i0, i1, i2, i3, i4, i5⟩ := ins_cells (HXI.out.mono g2) hy0
      generalize l[k] = y at *
      have HY := Lib.hid hy0
      have hv := Lib.hid (show y.val = .agg #[.int .i64 y.op, .int .i64 y.a, .int .i64 y.b, .int .i64 y.c.k, .string y.c.s, .int .i64 y.c.n] from rfl)
      have hcw := Lib.hid (instr_calls y l.length ⟨by omega, by omega⟩ wr m₀ (Gr.at gr HM.out))
      clear hy0
      cases hb : insOk y l.length with
      | true =>
        have hb' := Lib.hid hb
        have hf2 : Hid (fineTo l l.length (k + 1)) := fineTo_succ hfine.out HY.out hb
        clear hb
        go_wp2_with (first | (go_at_call 30; rewrite [← hv.out]; refine hcw.out.mono ?_; rintro e w' ⟨rfl, hg⟩; rewrite [hb'.out]) | fail)
        go_roundg (l.length - (k + 1))
        case measure => omega
        case rel => exact ⟨k + 1, by omega, rfl, by go_num, hf2, gr.trans hg⟩
      | false =>
        have hb' := Lib.hid hb
        have hvv := Lib.hid (hRi.out hlong (wrong_all HY.out hb))
        clear hb
        go_wp2_with (first | (go_at_call 30; rewrite [← hv.out]; refine hcw.out.mono ?_; rintro e w' ⟨rfl, hg⟩; rewrite [hb'.out]) | fail)
        exact hvv.out _ (g2.trans hg)
    · obtain rfl : k = l.length := by omega
      have HALL := Lib.hid (fineTo_all hfine.out)
      have c1 := Gr.at gr C1.out
      have hy0 : l[l.length - 1]? = some l[l.length - 1] := List.getElem?_eq_getElem (by omega)
      obtain ⟨i0, _⟩ := ins_cells (HXI.out.mono g2) hy0
      generalize l[l.length - 1] = y at *
      have HY := Lib.hid hy0
      clear hy0 hfine
      have hw1 : IntKind.i64.wrap ((l.length : Int) - 1) = (l.length : Int) - 1 := IntWalk.i64_in _ (by omega)
      have hT : ((l.length : Int) - 1).toNat = l.length - 1 := by omega
      go_upto_region 12 with fail
      clear hT hw1 i0
      go_cut [5, 46, 60] from 47 to 60 (fun _ _ c wx => c = .bool (!lastOk y.op) ∧ wx = wr)
      case first =>
        go_wp2_with fail
        all_goals go_meet
        all_goals refine ⟨?_, rfl⟩
        all_goals simp only [Value.bool.injEq]
        all_goals rw [Bool.eq_iff_iff]
        all_goals simp [lastOk, *]
      case rest =>
        obtain ⟨rfl, rfl⟩ := hcut
        cases hlo : lastOk y.op with
        | false =>
          have hv := Lib.hid (hRt.out y hlong HY.out hlo)
          go_wp2_with fail
          exact hv.out _ g2
        | true =>
        have ho := Lib.hid hlo
        go_wp2_with fail
        clear hlo
        go_loopg [6] m.length (fun t i wr => ∃ k : Nat, k ≤ m.length ∧ t = m.length - k ∧ i = .int .i64 k ∧ Hid (entsTo m l.length k = true) ∧ Gr wB wr)
        case atStart => exact ⟨0, Nat.zero_le _, rfl, rfl, rfl, gr⟩
        case round =>
          clear c1 c0 gr
          obtain ⟨k, hk, rfl, rfl, hfine, gr⟩ := hrel
          have c1 := Gr.at gr C1.out
          have g3 : Gr w wr := gA.trans gr
          by_cases hlt : k < m.length
          · obtain ⟨b2, o2, rfl, _, _⟩ := HXE.out.ptr (by omega)
            have hy0 : m[k]? = some m[k] := List.getElem?_eq_getElem hlt
            obtain ⟨e0, e1, e2⟩ := ent_cells (HXE.out.mono g3) hy0
            generalize m[k] = z at *
            have HZ := Lib.hid hy0
            clear hy0
            go_upto_region 18 with fail
            obtain ⟨f0, f1, f2⟩ := cells3' wr (.string z.s) (.int .i64 z.n) (.int .i64 z.at_) 68
            have gE : Gr wr (wr.alloc (.cells #[.string z.s, .int .i64 z.n, .int .i64 z.at_] 68)) := by go_grown
            replace c1 := Gr.at gE c1
            have gB4 := gr.trans gE
            have g4 := g3.trans gE
            have HM4 := Lib.hid (Gr.at gB4 HM.out)
            clear e0 e1 e2 gE
            generalize wr.alloc (.cells #[.string z.s, .int .i64 z.n, .int .i64 z.at_] 68) = wE at *
            obtain ⟨hzs, hzn, hza⟩ := HXE.out.2.2.2 z (List.mem_of_getElem? HZ.out)
            have hvb := Lib.hid (fun h => hRe.out hlong (entsTo_bad (size := l.length) HZ.out h))
            have hvs := Lib.hid (fun j hj h => hRe.out hlong (entsTo_same (size := l.length) (j := j) HZ.out hj h))
            by_cases a1 : z.at_ < 0
            · have hv := Lib.hid (hvb.out (by simp [entBad, a1]))
              go_wp2_with fail
              exact hv.out _ g4
            by_cases a2 : (l.length : Int) ≤ z.at_
            · have hv := Lib.hid (hvb.out (by simp [entBad, a2]))
              go_wp2_with fail
              exact hv.out _ g4
            by_cases a3 : z.n < 0
            · have hv := Lib.hid (hvb.out (by simp [entBad, a3]))
              go_wp2_with fail
              exact hv.out _ g4
            by_cases a4 : 50 < z.n
            · have hv := Lib.hid (hvb.out (by simp [entBad, a4]))
              go_wp2_with fail
              exact hv.out _ g4
            by_cases a5 : 100 < (z.s.size : Int)
            · have hv := Lib.hid (hvb.out (by simp [entBad, a5]))
              go_wp2_with fail
              exact hv.out _ g4
            cases a6 : reserved z.s.toList z.n with
            | true =>
              have hv := Lib.hid (hvb.out (by simp [entBad, a6]))
              have ha6 := Lib.hid a6
              clear a6
              go_wp2_with (first | (go_at_call 18; refine (rreserved_calls z.s z.n _ m₀ (by exact HM4.out)).mono ?_; rintro e w' ⟨rfl, hb⟩; rewrite [ha6.out]) | fail)
              exact hv.out _ (g4.trans hb)
            | false =>
            have hgood : Hid (entBad z l.length = false) := by show _ = _; simp [entBad, a6]; omega
            have ha6 := Lib.hid a6
            clear a6
            go_wp2_with (first | (go_at_call 18; refine (rreserved_calls z.s z.n _ m₀ (by exact HM4.out)).mono ?_; rintro e w' ⟨rfl, hb⟩; rewrite [ha6.out]; have f0' := Gr.at hb f0; have f1' := Gr.at hb f1; have c1' := Gr.at hb c1; have gB5 := gB4.trans hb; clear f0 f1 f2 c1 hb) | fail)
            go_loopg [8] k (fun t i wl => ∃ j : Nat, j ≤ k ∧ t = k - j ∧ i = .int .i64 j ∧ Hid ((m.take j).any (entSame · z) = false) ∧ Gr w' wl)
            case atStart => exact ⟨0, Nat.zero_le _, rfl, rfl, rfl, Gr.rfl' _⟩
            case round =>
              obtain ⟨j, hj, rfl, rfl, hno, gl⟩ := hrel
              have gBl := gB5.trans gl
              have gwl := gA.trans gBl
              replace f0' := Gr.at gl f0'
              replace f1' := Gr.at gl f1'
              replace c1' := Gr.at gl c1'
              by_cases hjk : j < k
              · have hj64 : j < m.length := by omega
                have hy0 : m[j]? = some m[j] := List.getElem?_eq_getElem hj64
                obtain ⟨y0, y1, _⟩ := ent_cells (HXE.out.mono gwl) hy0
                generalize m[j] = u at *
                have hsu := Lib.hid ((sameTo_succ (z := z) hy0).trans (by rw [hno.out, Bool.false_or]))
                clear hy0
                by_cases hs : u.s.toList = z.s.toList
                · have hn1 : decide (u.s.toList = z.s.toList) = true := decide_eq_true hs
                  have hn2 : (u.s.toList == z.s.toList) = true := by simp [hs]
                  by_cases hn : u.n = z.n
                  · have hsame : Hid ((m.take (j + 1)).any (entSame · z) = true) := by show _ = true; rw [hsu.out, hn1, decide_eq_true hn]; rfl
                    have hv := Lib.hid (hvs.out (j + 1) (by omega) hsame.out)
                    have hn3 : (u.n == z.n) = true := beq_iff_eq.2 hn
                    clear hs
                    go_wp2_with fail
                    go_quiet (fail)
                    go_wp2_with fail
                    exact hv.out _ (gwl.drewN _)
                  · have hsame : Hid ((m.take (j + 1)).any (entSame · z) = false) := by show _ = false; rw [hsu.out, hn1, decide_eq_false hn]; rfl
                    have hn3 : (u.n == z.n) = false := beq_eq_false_iff_ne.2 hn
                    clear hs
                    go_wp2_with fail
                    go_quiet (fail)
                    go_wp2_with fail
                    go_roundg (k - (j + 1))
                    case measure => omega
                    case rel => exact ⟨j + 1, by omega, rfl, by go_num, hsame, gl.drewN _⟩
                · have hn1 : decide (u.s.toList = z.s.toList) = false := decide_eq_false hs
                  have hn2 : (u.s.toList == z.s.toList) = false := by simp [hs]
                  have hsame : Hid ((m.take (j + 1)).any (entSame · z) = false) := by show _ = false; rw [hsu.out, hn1]; rfl
                  go_wp2_with fail
                  go_quiet (fail)
                  go_wp2_with fail
                  go_roundg (k - (j + 1))
                  case measure => omega
                  case rel => exact ⟨j + 1, by omega, rfl, by go_num, hsame, gl.drewN _⟩
              · obtain rfl : j = k := by omega
                have hf2 : Hid (entsTo m l.length (j + 1) = true) := entsTo_fine hfine.out HZ.out hgood.out hno.out
                go_wp2_with fail
                go_roundg (m.length - (j + 1))
                case measure => omega
                case rel => exact ⟨j + 1, by omega, rfl, by go_num, hf2, gBl⟩
          · obtain rfl : k = m.length := by omega
            have hv := Lib.hid (hRf.out y hlong hq1.out HALL.out HY.out ho.out hfine.out)
            go_wp2_with fail
            exact hv.out _ g3
end Go.Proofs.YtgaijgadeodoeaaDoor
