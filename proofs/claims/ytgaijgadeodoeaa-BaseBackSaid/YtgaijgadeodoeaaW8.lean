/-
  (*base.Base).Get where the base has one clause.
-/
import Derived.Test.YtgaijgadeodoeaaW7
namespace Go.Proofs.Ytgaijgadeodoeaa
open Go.RowKit Go.Maps Go.Lib

set_option maxRecDepth 100000 in
theorem get1_calls (h b : Tm) (p : Nat) (w : World) (hp : w.cell? ⟨p, 0, none⟩ = some (.int .i64 1)) :
    Calls Try.prog 92 #[.agg #[.int .i64 1, .int .i64 h.k, .int .i64 h.n, .string h.s, .slice h.p h.l.length h.c, .int .i64 b.k, .int .i64 b.n, .string b.s, .slice b.p b.l.length b.c], .pointer (some ⟨p, 0, none⟩)] w (Ret (.bool true) w) := by
  have hR : Hid (∀ w', Gr w w' → Ret (.bool true) w (.returned (.bool true)) w') := fun w' hg => ⟨rfl, hg⟩
  generalize hQ : Ret (.bool true) w = Q at hR ⊢
  clear hQ
  go_enter Try.func92, Try.ntmps92
  try simp only [List.append_eq, List.cons_append, List.nil_append]
  go_upto_region 1 with fail
  have hN := BlkT.new w 114 #[.int .i64 1, .int .i64 h.k, .int .i64 h.n, .string h.s, .slice h.p h.l.length h.c, .int .i64 b.k, .int .i64 b.n, .string b.s, .slice b.p b.l.length b.c]
  have gA : Gr w (w.alloc (.cells #[.int .i64 1, .int .i64 h.k, .int .i64 h.n, .string h.s, .slice h.p h.l.length h.c, .int .i64 b.k, .int .i64 b.n, .string b.s, .slice b.p b.l.length b.c] 114)) := by go_grown
  generalize w.alloc (.cells #[.int .i64 1, .int .i64 h.k, .int .i64 h.n, .string h.s, .slice h.p h.l.length h.c, .int .i64 b.k, .int .i64 b.n, .string b.s, .slice b.p b.l.length b.c] 114) = wA at *
  have c0 := hN.cell 0 (v := .int .i64 1) rfl
  replace hp := Gr.at gA hp
  clear hN
  go_wp2_with fail
  exact hR.out _ gA

set_option maxHeartbeats 1000000 in
set_option maxRecDepth 100000 in
theorem indexHeld_calls (h b : Tm) (g c p : Nat) (w : World) (hc : ∀ j u, (heldCells 1 h b)[j]? = some u → w.cell? ⟨g, j, none⟩ = some u) (hp : w.cell? ⟨p, 0, none⟩ = some (.int .i64 1)) :
    Calls Try.prog 91 #[.slice (some ⟨g, 0, none⟩) 1 c, .func (Fn.func 92) #[] #[.pointer (some ⟨p, 0, none⟩)]] w (Ret (.int .i64 0) w) := by
  have hR : Hid (∀ w', Gr w w' → Ret (.int .i64 0) w (.returned (.int .i64 0)) w') := fun w' hg => ⟨rfl, hg⟩
  generalize hQ : Ret (.int .i64 0) w = Q at hR ⊢
  clear hQ
  have hen : ∀ args w, (callFunc 92 args).run Try.prog w = .ok (.enter 92 args) w := fun args w => by kernel_rfl
  have HC := Lib.hid hc
  have HP := Lib.hid hp
  clear hc hp
  go_enter Try.func91, Try.ntmps91
  try simp only [List.append_eq, List.cons_append, List.nil_append]
  go_wp2_with fail
  go_loopg [8] 0 (fun m i wr => i = .int .i64 0 ∧ w = wr)
  case atStart => exact ⟨rfl, rfl⟩
  case round =>
    obtain ⟨rfl, rfl⟩ := hrel
    have c0 := HC.out 0 _ rfl
    have c1 := HC.out 1 _ rfl
    have c2 := HC.out 2 _ rfl
    have c3 := HC.out 3 _ rfl
    have c4 := HC.out 4 _ rfl
    have c5 := HC.out 5 _ rfl
    have c6 := HC.out 6 _ rfl
    have c7 := HC.out 7 _ rfl
    have c8 := HC.out 8 _ rfl
    go_wp2_with (first | (go_at_call 92; refine (get1_calls h b p w HP.out).mono ?_; rintro e w' ⟨rfl, hg⟩) | fail)
    exact hR.out _ hg

/-- A clause is handed back, and no error. -/
def RetClE (t u : T) (w : World) (e : Ending) (w' : World) : Prop := ∃ h b : Tm, e = .returned (.tuple #[clVal h b, .int .i64 0]) ∧ h.In w' ∧ b.In w' ∧ h.erase = t ∧ b.erase = u ∧ Gr w w'

set_option maxHeartbeats 8000000 in
set_option maxRecDepth 100000 in
theorem get_calls (B M1 M2 : Nat) (s : ByteArray) (n : Int) (t u : T) (w : World) (hB : OneBase w B M1 M2 s n t u) (ft : t.formed = true) (fu : u.formed = true) (hs : s.size ≤ 1000) (hn : 0 ≤ n ∧ n ≤ 1000) :
    Calls Try.prog 40 #[.pointer (some ⟨B, 0, none⟩), .int .i64 1] w (RetClE t u w) := by
  have hR : Hid (∀ (h b : Tm) (w' : World), h.In w' → b.In w' → h.erase = t → b.erase = u → Gr w w' → RetClE t u w (.returned (.tuple #[clVal h b, .int .i64 0])) w') := fun h b w' h1 h2 h3 h4 hg => ⟨h, b, rfl, h1, h2, h3, h4, hg⟩
  generalize hQ : RetClE t u w = Q at hR ⊢
  clear hQ
  have Hkey := Lib.hid (keyOf_bpred (s := s) (n := n) (by simp only [maxLen]; omega) (wf_64 ⟨by omega, by omega⟩))
  have Hkey1 := Lib.hid (keyOf_int_mk Try.underlying3 (wf_64 (c := 1) ⟨by omega, by omega⟩))
  obtain ⟨⟨av, hbl⟩, ⟨hv, f, hm1, hf1, h, b, ho, ih, ib, eh, eb⟩, ⟨f2, hm2, hf2⟩⟩ := hB
  obtain ⟨g, cap, rfl, _, hcs⟩ := row_cells ho
  have HCs := Lib.hid hcs
  clear hcs
  have HBl := Lib.hid hbl
  have HM1 := Lib.hid hm1
  have HM2 := Lib.hid hm2
  have HF1 := Lib.hid hf1
  have HF2 := Lib.hid hf2
  have HO := Lib.hid ho
  have IH := Lib.hid ih
  have IB := Lib.hid ib
  have FH : Hid (h.erase.formed = true) := by show _ = _; rw [eh]; exact ft
  have FB : Hid (b.erase.formed = true) := by show _ = _; rw [eb]; exact fu
  have EH := Lib.hid eh
  have EB := Lib.hid eb
  clear hbl hm1 hm2 hf1 hf2 ho ih ib eh eb ft fu
  go_enter Try.func40, Try.ntmps40
  try simp only [List.append_eq, List.cons_append, List.nil_append]
  go_upto_region 1 with fail
  have hI := BlkT.new w 3 #[.int .i64 1]
  have g1 : Gr w (w.alloc (.cells #[.int .i64 1] 3)) := by go_grown
  have hN : Blk8 ((w.alloc (.cells #[.int .i64 1] 3)).alloc (.cells #[.int .i64 0, .int .i64 0, .string ⟨#[]⟩, .slice none 0 0, .int .i64 0, .int .i64 0, .string ⟨#[]⟩, .slice none 0 0] 57)) (w.alloc (.cells #[.int .i64 1] 3)).heap.size (.int .i64 0) (.int .i64 0) (.string ⟨#[]⟩) (.slice none 0 0) (.int .i64 0) (.int .i64 0) (.string ⟨#[]⟩) (.slice none 0 0) := heap_alloc_new _ _
  rw [World.size_alloc] at hN
  have g2 : Gr (w.alloc (.cells #[.int .i64 1] 3)) ((w.alloc (.cells #[.int .i64 1] 3)).alloc (.cells #[.int .i64 0, .int .i64 0, .string ⟨#[]⟩, .slice none 0 0, .int .i64 0, .int .i64 0, .string ⟨#[]⟩, .slice none 0 0] 57)) := by go_grown
  have hI2 := hI.gr g2
  have gA := g1.trans g2
  generalize (w.alloc (.cells #[.int .i64 1] 3)).alloc (.cells #[.int .i64 0, .int .i64 0, .string ⟨#[]⟩, .slice none 0 0, .int .i64 0, .int .i64 0, .string ⟨#[]⟩, .slice none 0 0] 57) = wA at *
  clear hI g1 g2
  have HI := Lib.hid hI2
  have HR := Lib.hid hN
  have hszA := HR.out.lt
  clear hI2 hN
  have b3 := (HBl.out.gr gA).cell 3 (v := .map (some M2)) rfl
  have i0 := HI.out.cell 0 (v := .int .i64 1) rfl
  have hlt0 : w.heap.size < wA.heap.size := by omega
  have hltB : B < wA.heap.size := by have := HBl.out.lt; have := gA.size; omega
  have hlk : ∀ W, Gr wA W → (Instr.lookup 105 (.map (some M2)) (.int .i64 1) true).run Try.prog W = .ok (.tuple #[.agg #[.string s, .int .i64 n], .bool true]) W := by
    intro W hW
    have h := (GMap.run (HM2.out.gr (gA.trans hW)) (int_keyed Try.underlying3) Try.underlying105 (zero_bpred W) (x := (1 : Int)) Hkey1.out).2
    rw [HF2.out] at h
    exact h
  have hlA := hlk wA.drew (by go_grown)
  have hlB := hlk (wA.alloc (.cells #[.string ⟨#[]⟩, .int .i64 0] 109)).drew (by go_grown)
  replace hlk := Lib.hid hlk
  go_region
  all_goals
    have hP := BlkT.new wA 109 #[.string s, .int .i64 n]
    have gB : Gr wA (wA.alloc (.cells #[.string s, .int .i64 n] 109)).drew := by go_grown
    have hP2 := hP.gr (by go_grown : Gr _ (wA.alloc (.cells #[.string s, .int .i64 n] 109)).drew)
    generalize (wA.alloc (.cells #[.string s, .int .i64 n] 109)).drew = wB at *
    clear hP hlA hlB hlk b3 i0
    have HP := Lib.hid hP2
    clear hP2
    generalize wA.heap.size = p at *
    have gAB := gA.trans gB
    replace HI := Lib.hid (HI.out.gr gB)
    replace HR := Lib.hid (HR.out.gr gB)
    have b2 := (HBl.out.gr gAB).cell 2 (v := .map (some M1)) rfl
    have p0 := HP.out.cell 0 (v := .string s) rfl
    have p1 := HP.out.cell 1 (v := .int .i64 n) rfl
    go_upto_region 4 with fail
    refine wp_region_rely [fx (.pointer (some ⟨B, 0, none⟩)), fx (.pointer (some ⟨B, 0, none⟩)), fx (.pointer (some ⟨B, 2, none⟩)), fx (.map (some M1)), fx (.agg #[.string s, .int .i64 n]), fx (.slice (some ⟨g, 0, none⟩) 1 cap), fx (.slice (some ⟨g, 0, none⟩) 1 cap)]
      (by kernel_rfl) (by kernel_rfl) (by repeat (first | exact Stable.nil | refine Stable.fix ?_)) ?_ ?_
    · refine ⟨?_, ?_, ?_, ?_, ?_, ?_, ?_, trivial⟩
      all_goals
        intro a wr hg hold
        have h0 : a.tmps[0]?.getD undef = .pointer (some ⟨B, 0, none⟩) := hold 0 rfl
        have h6 : a.tmps[6]?.getD undef = .pointer (some ⟨p, 0, none⟩) := hold 6 rfl
        clear hold
        have y2 := Gr.at hg b2
        have x0 := Gr.at hg p0
        have x1 := Gr.at hg p1
        have hlk := (GMap.run (HM1.out.gr (gAB.trans hg)) bpred_keyed Try.underlying104 (zero_held wr) (x := (s, n)) Hkey.out).1
        rw [HF1.out] at hlk
        simp only [kPred, Option.getD_some] at hlk
        clear b2 p0 p1
        simp [predsImp, Region.binds, dstAt, fx, wantedE, Act.eval]
        intros
        first
          | (rw [if_pos (by simp [*])]
             intro K hK)
          | (rename_i K hK)
        go_simp
      all_goals exact hK _ _ rfl (Gr.rfl' _)
    · intro wc hg
      rintro _ rfl _ rfl _ rfl _ rfl _ rfl _ rfl _ rfl
      have gC := gAB.trans hg
      replace HI := Lib.hid (HI.out.gr hg)
      replace HR := Lib.hid (HR.out.gr hg)
      have i0 := HI.out.cell 0 (v := .int .i64 1) rfl
      clear b2 p0 p1 hg gB gAB
      simp only [finAll, Act.put, List.setIfInBounds_toArray, List.set_cons_succ, List.set_cons_zero, List.drop_succ_cons, List.drop_zero, List.take_zero]
      go_upto_region 6 with (first
        | (go_at_call 91; refine (indexHeld_calls h b g cap _ wc (fun j x hx => Gr.at gC (HCs.out j x hx)) i0).mono ?_; rintro e wd ⟨rfl, hb⟩; have gD := gC.trans hb; replace HR := Lib.hid (HR.out.gr hb); clear hb i0)
        | fail)
      have z0 := Gr.at gD (HCs.out 0 _ rfl)
      have z1 := Gr.at gD (HCs.out 1 _ rfl)
      have z2 := Gr.at gD (HCs.out 2 _ rfl)
      have z3 := Gr.at gD (HCs.out 3 _ rfl)
      have z4 := Gr.at gD (HCs.out 4 _ rfl)
      have z5 := Gr.at gD (HCs.out 5 _ rfl)
      have z6 := Gr.at gD (HCs.out 6 _ rfl)
      have z7 := Gr.at gD (HCs.out 7 _ rfl)
      have z8 := Gr.at gD (HCs.out 8 _ rfl)
      have Hcv := Lib.hid (clVal_eq h b)
      go_wp2_with (first
        | (go_at_call 89; rewrite [← Hcv.out]; refine (copied_calls h b _ (Tm.In_below gD IH.out) (Tm.In_below gD IB.out) FH.out FB.out).mono ?_; rintro e we ⟨h2, b2, rfl, i1, i2, j1, j2, o1, o2, hb⟩; have I1 := Lib.hid i1; have I2 := Lib.hid i2; have J1 := Lib.hid j1; have J2 := Lib.hid j2; have O1 := Lib.hid o1; have O2 := Lib.hid o2; have gE := gD.trans hb; have hszd := gD.size; have hltr := HR.out.lt; replace HR := Lib.hid (HR.out.gr hb); rewrite [clVal_eq]; clear i1 i2 j1 j2 o1 o2 hb z0 z1 z2 z3 z4 z5 z6 z7 z8; obtain ⟨y0, y1, y2, y3, y4, y5, y6, y7⟩ := HR.out.cells; obtain ⟨f0, f1, f2, f3, f4, f5, f6, f7⟩ := HR.out.open_)
        | fail)
      have hfin : Hid (∀ W, Kp (fun x => x = w.heap.size + 1) we W → Q (.returned (.tuple #[clVal h2 b2, .int .i64 0])) W) := fun W hK =>
        hR.out h2 b2 W (in_after' I1.out O1.out fun x h1 hx o => World.cell?_of_block (hK.block x hx (by omega))) (in_after' I2.out O2.out fun x h1 hx o => World.cell?_of_block (hK.block x hx (by omega))) (J1.out.trans EH.out) (J2.out.trans EB.out) (Below.trans gE (hK.below (B := w.heap.size) (fun x hx => by omega) (by have := gE.size; omega)))
      refine bodyPost_ret (v := .tuple #[clVal h2 b2, .int .i64 0]) (by simp (maxDischargeDepth := 9) [results, Try.results40, go_sem, clVal, y0, y1, y2, y3, y4, y5, y6, y7]) rfl ?_
      exact hfin.out _ ((Kp.set4 (C := fun x => x = w.heap.size + 1) rfl).trans (Kp.set4 (C := fun x => x = w.heap.size + 1) rfl))
end Go.Proofs.Ytgaijgadeodoeaa
