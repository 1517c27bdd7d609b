/-
  hornref.Variant: part by part.
-/
import Derived.Test.YtcblmkhhhibddaaTS26
import Derived.Test.YtcblmkhhhibddaaTS24
import Derived.Test.YtcblmkhhhibddaaTS25
import Derived.BigQuiet
namespace Go.Proofs.Ytcblmkhhhibddaa
open Go.RowKit Go.Maps Go.Lib

/-- The parts at one place fit, and the variables fit those ahead of them. -/
structure FitAt (X Y : List Tm) (i : Nat) (h : i < X.length) (h' : i < Y.length) : Prop where
  k : X[i].k = Y[i].k
  s : X[i].s.toList = Y[i].s.toList
  l : X[i].l.length = Y[i].l.length
  n : X[i].k ≠ 1 → X[i].n = Y[i].n
/-- Two variables side by side. -/
def FitTwo (X Y : List Tm) (i j : Nat) (h : i < X.length) (h' : i < Y.length) (g : j < X.length) (g' : j < Y.length) : Prop := X[i].k = 1 → X[j].k = 1 → (X[i].n = X[j].n ↔ Y[i].n = Y[j].n)
def FitAll (X Y : List Tm) : Prop := X.length = Y.length ∧ ∀ (i : Nat) (h : i < X.length) (h' : i < Y.length), FitAt X Y i h h' ∧ ∀ (j : Nat) (g : j < X.length) (g' : j < Y.length), j < i → FitTwo X Y i j h h' g g'
/-- Variant's answer. -/
def RetRV (X Y : List Tm) (w : World) (e : Ending) (w' : World) : Prop := ∃ r : Bool, e = .returned (.bool r) ∧ (r = true ↔ FitAll X Y) ∧ Gr w w'
def flatV (t : Tm) : VP := fun v w => ∃ p c, v = .slice p t.flat.length c ∧ Tm.Sl w p c t.flat
theorem flatV_stable {t : Tm} : ∀ v w w', flatV t v w → Gr w w' → flatV t v w' := fun _ _ _ ⟨p, c, h1, h2⟩ hg => ⟨p, c, h1, h2.mono hg⟩

set_option maxHeartbeats 8000000 in
set_option maxRecDepth 100000 in
theorem rvariant_calls (a b : Tm) (w : World) (ia : a.In w) (ib : b.In w) (sa : T.sz a.erase ≤ 1048576) (sb : T.sz b.erase ≤ 1048576) : Calls Try.prog 105 #[a.val, b.val] w (RetRV a.flat b.flat w) := by
  have Ha := Lib.hid (fun (w' : World) (g : Gr w w') => show Calls Try.prog 98 #[.agg #[.int .i64 a.k, .int .i64 a.n, .string a.s, .slice a.p a.l.length a.c]] w' _ from flat_calls (t := a) (Tm.In_below g ia) sa)
  have Hb := Lib.hid (fun (w' : World) (g : Gr w w') => show Calls Try.prog 98 #[.agg #[.int .i64 b.k, .int .i64 b.n, .string b.s, .slice b.p b.l.length b.c]] w' _ from flat_calls (t := b) (Tm.In_below g ib) sb)
  have hla : a.flat.length ≤ 1048576 := by rw [tmflat_len]; exact sa
  have hlb : b.flat.length ≤ 1048576 := by rw [tmflat_len]; exact sb
  have hR : Hid (∀ (r : Bool) w', (r = true ↔ FitAll a.flat b.flat) → Gr w w' → RetRV a.flat b.flat w (.returned (.bool r)) w') := fun r w' h1 h2 => ⟨r, rfl, h1, h2⟩
  generalize RetRV a.flat b.flat w = Q at hR ⊢
  have HR := hR
  clear ia ib sa sb hR
  rw [show a.val = .agg #[.int .i64 a.k, .int .i64 a.n, .string a.s, .slice a.p a.l.length a.c] from rfl, show b.val = .agg #[.int .i64 b.k, .int .i64 b.n, .string b.s, .slice b.p b.l.length b.c] from rfl]
  go_enter Try.func105, Try.ntmps105
  try simp only [List.append_eq, List.cons_append, List.nil_append]
  go_upto_region 1 with fail
  obtain ⟨h3, h4, gA⟩ := two_blocks w (.int .i64 a.k) (.int .i64 a.n) (.string a.s) (.slice a.p a.l.length a.c) (.int .i64 b.k) (.int .i64 b.n) (.string b.s) (.slice b.p b.l.length b.c)
  generalize ((w.alloc (.cells #[.int .i64 a.k, .int .i64 a.n, .string a.s, .slice a.p a.l.length a.c] 25)).alloc (.cells #[.int .i64 b.k, .int .i64 b.n, .string b.s, .slice b.p b.l.length b.c] 25)) = wA at *
  obtain ⟨⟨x0, x1, x2, x3⟩, _, _⟩ := h3.out.parts
  obtain ⟨⟨y0, y1, y2, y3⟩, _, _⟩ := h4.out.parts
  refine wp_region_rely [fx (.agg #[.int .i64 a.k, .int .i64 a.n, .string a.s, .slice a.p a.l.length a.c]), flatV a, fx (.agg #[.int .i64 b.k, .int .i64 b.n, .string b.s, .slice b.p b.l.length b.c]), flatV b, flatV a, flatV b]
    (by kernel_rfl) (by kernel_rfl) (by repeat (first | exact Stable.nil | refine Stable.fix ?_ | refine Stable.cons flatV_stable ?_)) ?_ ?_
  · refine ⟨?_, ?a1, ?_, ?a3, ?a4, ?a5, trivial⟩
    case a1 =>
      intro fr wz hg hold
      have h2' : fr.tmps[2]?.getD undef = .pointer (some ⟨w.heap.size, 0, none⟩) := hold 2 rfl
      have h3' : fr.tmps[3]?.getD undef = .pointer (some ⟨w.heap.size + 1, 0, none⟩) := hold 3 rfl
      have zx0 := Gr.at hg x0
      have zx1 := Gr.at hg x1
      have zx2 := Gr.at hg x2
      have zx3 := Gr.at hg x3
      have zy0 := Gr.at hg y0
      have zy1 := Gr.at hg y1
      have zy2 := Gr.at hg y2
      have zy3 := Gr.at hg y3
      have Hg := Lib.hid hg
      clear hold x0 x1 x2 x3 y0 y1 y2 y3
      have Hcc := Lib.hid (Ha.out wz (gA.trans Hg.out))
      simp [predsImp, Region.binds, dstAt, fx]
      intros
      rename_i K hK
      go_simp
      refine Hcc.out.mono ?_
      rintro e w9 ⟨p9, c9, rfl, i9, g9⟩
      exact hK _ _ ⟨p9, c9, rfl, i9⟩ g9
    case a3 =>
      intro fr wz hg hold
      have h2' : fr.tmps[2]?.getD undef = .pointer (some ⟨w.heap.size, 0, none⟩) := hold 2 rfl
      have h3' : fr.tmps[3]?.getD undef = .pointer (some ⟨w.heap.size + 1, 0, none⟩) := hold 3 rfl
      have zx0 := Gr.at hg x0
      have zx1 := Gr.at hg x1
      have zx2 := Gr.at hg x2
      have zx3 := Gr.at hg x3
      have zy0 := Gr.at hg y0
      have zy1 := Gr.at hg y1
      have zy2 := Gr.at hg y2
      have zy3 := Gr.at hg y3
      have Hg := Lib.hid hg
      clear hold x0 x1 x2 x3 y0 y1 y2 y3
      have Hcc := Lib.hid (Hb.out wz (gA.trans Hg.out))
      simp [predsImp, Region.binds, dstAt, fx]
      intros
      rename_i K hK
      go_simp
      refine Hcc.out.mono ?_
      rintro e w9 ⟨p9, c9, rfl, i9, g9⟩
      exact hK _ _ ⟨p9, c9, rfl, i9⟩ g9
    case a4 =>
      intro fr wz hg hold
      have h2' : fr.tmps[2]?.getD undef = .pointer (some ⟨w.heap.size, 0, none⟩) := hold 2 rfl
      have h3' : fr.tmps[3]?.getD undef = .pointer (some ⟨w.heap.size + 1, 0, none⟩) := hold 3 rfl
      have zx0 := Gr.at hg x0
      have zx1 := Gr.at hg x1
      have zx2 := Gr.at hg x2
      have zx3 := Gr.at hg x3
      have zy0 := Gr.at hg y0
      have zy1 := Gr.at hg y1
      have zy2 := Gr.at hg y2
      have zy3 := Gr.at hg y3
      have Hg := Lib.hid hg
      clear hold x0 x1 x2 x3 y0 y1 y2 y3
      simp [predsImp, Region.binds, dstAt, fx]
      intros
      rename_i K hK
      have hv : flatV a (fr.tmps[10]?.getD undef) wz := by assumption
      go_simp
      exact hK _ _ hv (Gr.rfl' _)
    case a5 =>
      intro fr wz hg hold
      have h2' : fr.tmps[2]?.getD undef = .pointer (some ⟨w.heap.size, 0, none⟩) := hold 2 rfl
      have h3' : fr.tmps[3]?.getD undef = .pointer (some ⟨w.heap.size + 1, 0, none⟩) := hold 3 rfl
      have zx0 := Gr.at hg x0
      have zx1 := Gr.at hg x1
      have zx2 := Gr.at hg x2
      have zx3 := Gr.at hg x3
      have zy0 := Gr.at hg y0
      have zy1 := Gr.at hg y1
      have zy2 := Gr.at hg y2
      have zy3 := Gr.at hg y3
      have Hg := Lib.hid hg
      clear hold x0 x1 x2 x3 y0 y1 y2 y3
      simp [predsImp, Region.binds, dstAt, fx]
      intros
      rename_i K hK
      have hv : flatV b (fr.tmps[12]?.getD undef) wz := by assumption
      go_simp
      exact hK _ _ hv (Gr.rfl' _)
    all_goals
      intro fr wz hg hold
      have h2' : fr.tmps[2]?.getD undef = .pointer (some ⟨w.heap.size, 0, none⟩) := hold 2 rfl
      have h3' : fr.tmps[3]?.getD undef = .pointer (some ⟨w.heap.size + 1, 0, none⟩) := hold 3 rfl
      have zx0 := Gr.at hg x0
      have zx1 := Gr.at hg x1
      have zx2 := Gr.at hg x2
      have zx3 := Gr.at hg x3
      have zy0 := Gr.at hg y0
      have zy1 := Gr.at hg y1
      have zy2 := Gr.at hg y2
      have zy3 := Gr.at hg y3
      have Hg := Lib.hid hg
      clear hold x0 x1 x2 x3 y0 y1 y2 y3
      simp [predsImp, fx]
      intros
      first
        | (rw [if_pos (by simp [*])]
           intro K hK)
        | (rename_i K hK)
      go_simp
    all_goals exact hK _ _ rfl (Gr.rfl' _)
  · intro w1 hg
    rintro _ rfl _ ⟨_, _, rfl, _⟩ _ rfl _ ⟨_, _, rfl, _⟩ _ ⟨px, cx, rfl, hX⟩ _ ⟨py, cy, rfl, hY⟩
    simp only [finAll, Act.put, List.setIfInBounds_toArray, List.set_cons_succ, List.set_cons_zero]
    have HX := Lib.hid hX
    have HY := Lib.hid hY
    have g1 : Gr w w1 := gA.trans hg
    clear hX hY x0 x1 x2 x3 y0 y1 y2 y3 Ha Hb hg
    generalize a.flat = X at *
    generalize b.flat = Y at *
    have hcx := HX.out.1
    have hcx2 := HX.out.2.1
    have hcy := HY.out.1
    have hcy2 := HY.out.2.1
    by_cases hll : X.length = Y.length
    · have hle : ((X.length : Int) == Y.length) = true := by simp [hll]
      have hle' : ((X.length : Int) != Y.length) = false := by simp [hll]
      have HL := Lib.hid hll
      clear hll
      go_wp2_with fail
      clear hle hle'
      go_loopg [7] X.length (fun m i wr => ∃ k : Nat, k ≤ X.length ∧ m = X.length - k ∧ i = .int .i64 k ∧ Hid (∀ (i : Nat) (h : i < X.length) (h' : i < Y.length), i < k → FitAt X Y i h h' ∧ ∀ (j : Nat) (g : j < X.length) (g' : j < Y.length), j < i → FitTwo X Y i j h h' g g') ∧ Gr w1 wr)
      case atStart => exact ⟨0, Nat.zero_le _, rfl, rfl, (fun i _ _ h => absurd h (Nat.not_lt_zero i)), Gr.rfl' _⟩
      case round =>
        obtain ⟨k, hk, rfl, rfl, hfit, gr⟩ := hrel
        have gwr : Gr w wr := g1.trans gr
        by_cases hlt : k < X.length
        · have hlt' : k < Y.length := by have := HL.out; omega
          have hltd : decide ((k : Int) < (X.length : Int)) = true := by simp; omega
          obtain ⟨bx, ox, rfl⟩ := HX.out.ptr (by omega)
          obtain ⟨by', oy, rfl⟩ := HY.out.ptr (by omega)
          obtain ⟨⟨c0, c1, c2, c3⟩, _, _⟩ := (HX.out.mono gr).elem k hlt
          obtain ⟨⟨d0, d1, d2, d3⟩, _, _⟩ := (HY.out.mono gr).elem k hlt'
          have Hbad := Lib.hid (fun (w' : World) (g : Gr wr w') (h : ¬ FitAt X Y k hlt hlt') => HR.out false w' ⟨(fun h => nomatch h), fun hf => absurd (hf.2 k hlt hlt').1 h⟩ (gwr.trans g))
          have Hnext := Lib.hid (fun (hf : FitAt X Y k hlt hlt') (ha : ∀ (j : Nat) (g : j < X.length) (g' : j < Y.length), j < k → FitTwo X Y k j hlt hlt' g g') (i : Nat) (h : i < X.length) (h' : i < Y.length) (hik : i < k + 1) => show FitAt X Y i h h' ∧ ∀ (j : Nat) (g : j < X.length) (g' : j < Y.length), j < i → FitTwo X Y i j h h' g g' from by
            by_cases hi : i < k
            · exact hfit.out i h h' hi
            · obtain rfl : i = k := by omega
              exact ⟨hf, ha⟩)
          have HBad2 := Lib.hid (fun (w' : World) (g : Gr wr w') (j : Nat) (g1 : j < X.length) (g2 : j < Y.length) (hj : j < k) (h : ¬ FitTwo X Y k j hlt hlt' g1 g2) => HR.out false w' ⟨(fun h => nomatch h), fun hf => absurd ((hf.2 k hlt hlt').2 j g1 g2 hj) h⟩ (gwr.trans g))
          by_cases e1 : X[k].k = Y[k].k
          · by_cases e2 : X[k].s.toList = Y[k].s.toList
            · by_cases e3 : X[k].l.length = Y[k].l.length
              · by_cases e4 : X[k].k ≠ 1 ∧ X[k].n ≠ Y[k].n
                · have Hb := Lib.hid (fun w' g => Hbad.out w' g fun h => e4.2 (h.n e4.1))
                  have q1 : (X[k].k == Y[k].k) = true := by simp [e1]
                  have q1' : (X[k].k != Y[k].k) = false := by simp [e1]
                  have q2 : (X[k].s.toList == Y[k].s.toList) = true := by simp [e2]
                  have q2' : (X[k].s.toList != Y[k].s.toList) = false := by simp [e2]
                  have q3 : ((X[k].l.length : Int) == (Y[k].l.length : Int)) = true := by simp [e3]
                  have q3' : ((X[k].l.length : Int) != (Y[k].l.length : Int)) = false := by simp [e3]
                  have r1 : (X[k].k != 1) = true := by simp [e4.1]
                  have r1' : (X[k].k == 1) = false := by simp [e4.1]
                  have r2 : (X[k].n != Y[k].n) = true := by simp [e4.2]
                  have r2' : (X[k].n == Y[k].n) = false := by simp [e4.2]
                  clear Hbad Hnext HBad2 hfit e1 e2 e3 e4
                  generalize X[k] = x at *
                  generalize Y[k] = y at *
                  go_upto_region 7 with fail
                  go_quiet (fail)
                  have g7 : Gr wr (wr.drewN nq) := (Gr.rfl' wr).drewN nq
                  replace c0 := Gr.at g7 c0
                  replace c1 := Gr.at g7 c1
                  replace d1 := Gr.at g7 d1
                  generalize wr.drewN nq = w7 at *
                  clear c2 c3 d0 d2 d3
                  go_upto_region 9 with fail
                  go_quiet (fail)
                  have g9 : Gr w7 (w7.drewN nq) := (Gr.rfl' w7).drewN nq
                  go_wp2_with fail
                  exact Hb.out _ (g7.trans g9)
                · have hfa : FitAt X Y k hlt hlt' := ⟨e1, e2, e3, fun h => Classical.byContradiction fun h' => e4 ⟨h, h'⟩⟩
                  have Hn2 := Lib.hid (Hnext.out hfa)
                  have q1 : (X[k].k == Y[k].k) = true := by simp [e1]
                  have q1' : (X[k].k != Y[k].k) = false := by simp [e1]
                  have q2 : (X[k].s.toList == Y[k].s.toList) = true := by simp [e2]
                  have q2' : (X[k].s.toList != Y[k].s.toList) = false := by simp [e2]
                  have q3 : ((X[k].l.length : Int) == (Y[k].l.length : Int)) = true := by simp [e3]
                  have q3' : ((X[k].l.length : Int) != (Y[k].l.length : Int)) = false := by simp [e3]
                  have hr : (X[k].k = 1 ∧ (X[k].k != 1) = false ∧ (X[k].k == 1) = true) ∨ (¬ X[k].k = 1 ∧ (X[k].k != 1) = true ∧ (X[k].k == 1) = false ∧ (X[k].n != Y[k].n) = false ∧ (X[k].n == Y[k].n) = true) := by
                    by_cases h1 : X[k].k = 1
                    · exact .inl ⟨h1, by simp [h1], by simp [h1]⟩
                    · have h2 := hfa.n h1
                      exact .inr ⟨h1, by simp [h1], by simp [h1], by simp [h2], by simp [h2]⟩
                  have Hf2 := Lib.hid (fun (j : Nat) (g : j < X.length) (g' : j < Y.length) => Iff.rfl (a := FitTwo X Y k j hlt hlt' g g'))
                  unfold FitTwo at Hf2
                  clear Hbad Hnext hfit e1 e2 e3 e4 hfa
                  go_upto_region 7 with fail
                  go_quiet (fail)
                  have g7 : Gr wr (wr.drewN nq) := (Gr.rfl' wr).drewN nq
                  replace c0 := Gr.at g7 c0
                  replace c1 := Gr.at g7 c1
                  replace d1 := Gr.at g7 d1
                  generalize wr.drewN nq = w7 at *
                  clear c2 c3 d0 d2 d3
                  rcases hr with ⟨hk1, r1, r1'⟩ | ⟨hk1, r1, r1', r2, r2'⟩
                  · skip
                    go_upto_region 9 with fail
                    go_quiet (fail)
                    have g9 : Gr w7 (w7.drewN nq) := (Gr.rfl' w7).drewN nq
                    replace c0 := Gr.at g9 c0
                    replace c1 := Gr.at g9 c1
                    replace d1 := Gr.at g9 d1
                    generalize w7.drewN nq = w9 at *
                    clear q1 q1' q2 q2' q3 q3' hltd
                    go_wp2_with fail
                    go_loopg [8] k (fun m i wi => ∃ j : Nat, j ≤ k ∧ m = k - j ∧ i = .int .i64 j ∧ Hid (∀ (j' : Nat) (g : j' < X.length) (g' : j' < Y.length), j' < j → FitTwo X Y k j' hlt hlt' g g') ∧ Gr w9 wi)
                    case atStart => exact ⟨0, Nat.zero_le _, rfl, rfl, (fun j' _ _ h => absurd h (Nat.not_lt_zero j')), Gr.rfl' _⟩
                    case round =>
                      obtain ⟨j, hj, rfl, rfl, hfj, gi⟩ := hrel
                      by_cases hjk : j < k
                      · have hjX : j < X.length := by omega
                        have hjY : j < Y.length := by omega
                        obtain ⟨⟨e0, e1, _, _⟩, _, _⟩ := (HX.out.mono (gr.trans (g7.trans (g9.trans gi)))).elem j hjX
                        obtain ⟨⟨_, f1, _, _⟩, _, _⟩ := (HY.out.mono (gr.trans (g7.trans (g9.trans gi)))).elem j hjY
                        replace c0 := Gr.at gi c0
                        replace c1 := Gr.at gi c1
                        replace d1 := Gr.at gi d1
                        have hjkd : decide ((j : Int) < (k : Int)) = true := by simp; omega
                        by_cases hj1 : X[j].k = 1
                        · by_cases he : X[k].n = X[j].n
                          · by_cases hf : Y[k].n = Y[j].n
                            · have hft : FitTwo X Y k j hlt hlt' hjX hjY := fun _ _ => ⟨fun _ => hf, fun _ => he⟩
                              have s1 : (X[k].k == 1) = true := by simp [hk1]
                              have s2 : (X[j].k == 1) = true := by simp [hj1]
                              have s3 : (X[k].n == X[j].n) = true := by simp [he]
                              have s4 : (Y[k].n == Y[j].n) = true := by simp [hf]
                              have Hfn := Lib.hid (show ∀ (j' : Nat) (g : j' < X.length) (g' : j' < Y.length), j' < j + 1 → FitTwo X Y k j' hlt hlt' g g' from fun j' g g' hjj => by
                                by_cases h : j' < j
                                · exact hfj.out j' g g' h
                                · obtain rfl : j' = j := by omega
                                  exact hft)
                              clear hft hfj Hn2 HBad2 Hf2
                              go_upto_region 14 with fail
                              go_quiet (fail)
                              have g14 : Gr wr (wr.drewN nq) := (Gr.rfl' wr).drewN nq
                              generalize wr.drewN nq = w14 at *
                              clear c0 c1 d1 e0 e1 f1
                              go_wp2_with fail
                              go_roundg (k - (j + 1))
                              case measure => omega
                              case rel => exact ⟨j + 1, by omega, rfl, by go_num, Hfn, gi.trans g14⟩
                            · have hft : ¬ FitTwo X Y k j hlt hlt' hjX hjY := fun h => hf ((h hk1 hj1).1 he)
                              have s1 : (X[k].k == 1) = true := by simp [hk1]
                              have s2 : (X[j].k == 1) = true := by simp [hj1]
                              have s3 : (X[k].n == X[j].n) = true := by simp [he]
                              have s4 : (Y[k].n == Y[j].n) = false := by simp [hf]
                              have Hb := Lib.hid (fun (w' : World) (g : Gr w1 w') => HR.out false w' ⟨(fun h => nomatch h), fun hf => absurd ((hf.2 k hlt hlt').2 j hjX hjY hjk) hft⟩ (g1.trans g))
                              clear hft hfj Hn2 HBad2 Hf2
                              go_upto_region 14 with fail
                              go_quiet (fail)
                              have g14 : Gr wr (wr.drewN nq) := (Gr.rfl' wr).drewN nq
                              generalize wr.drewN nq = w14 at *
                              clear c0 c1 d1 e0 e1 f1
                              go_wp2_with fail
                              exact Hb.out _ ((gr.trans (g7.trans (g9.trans gi))).trans g14)
                          · by_cases hf : Y[k].n = Y[j].n
                            · have hft : ¬ FitTwo X Y k j hlt hlt' hjX hjY := fun h => he ((h hk1 hj1).2 hf)
                              have s1 : (X[k].k == 1) = true := by simp [hk1]
                              have s2 : (X[j].k == 1) = true := by simp [hj1]
                              have s3 : (X[k].n == X[j].n) = false := by simp [he]
                              have s4 : (Y[k].n == Y[j].n) = true := by simp [hf]
                              have Hb := Lib.hid (fun (w' : World) (g : Gr w1 w') => HR.out false w' ⟨(fun h => nomatch h), fun hf => absurd ((hf.2 k hlt hlt').2 j hjX hjY hjk) hft⟩ (g1.trans g))
                              clear hft hfj Hn2 HBad2 Hf2
                              go_upto_region 14 with fail
                              go_quiet (fail)
                              have g14 : Gr wr (wr.drewN nq) := (Gr.rfl' wr).drewN nq
                              generalize wr.drewN nq = w14 at *
                              clear c0 c1 d1 e0 e1 f1
                              go_wp2_with fail
                              exact Hb.out _ ((gr.trans (g7.trans (g9.trans gi))).trans g14)
                            · have hft : FitTwo X Y k j hlt hlt' hjX hjY := fun _ _ => ⟨fun h => absurd h he, fun h => absurd h hf⟩
                              have s1 : (X[k].k == 1) = true := by simp [hk1]
                              have s2 : (X[j].k == 1) = true := by simp [hj1]
                              have s3 : (X[k].n == X[j].n) = false := by simp [he]
                              have s4 : (Y[k].n == Y[j].n) = false := by simp [hf]
                              have Hfn := Lib.hid (show ∀ (j' : Nat) (g : j' < X.length) (g' : j' < Y.length), j' < j + 1 → FitTwo X Y k j' hlt hlt' g g' from fun j' g g' hjj => by
                                by_cases h : j' < j
                                · exact hfj.out j' g g' h
                                · obtain rfl : j' = j := by omega
                                  exact hft)
                              clear hft hfj Hn2 HBad2 Hf2
                              go_upto_region 14 with fail
                              go_quiet (fail)
                              have g14 : Gr wr (wr.drewN nq) := (Gr.rfl' wr).drewN nq
                              generalize wr.drewN nq = w14 at *
                              clear c0 c1 d1 e0 e1 f1
                              go_wp2_with fail
                              go_roundg (k - (j + 1))
                              case measure => omega
                              case rel => exact ⟨j + 1, by omega, rfl, by go_num, Hfn, gi.trans g14⟩
                        · have hft : FitTwo X Y k j hlt hlt' hjX hjY := fun _ h => absurd h hj1
                          have s1 : (X[k].k == 1) = true := by simp [hk1]
                          have s2 : (X[j].k == 1) = false := by simp [hj1]
                          have Hfn := Lib.hid (show ∀ (j' : Nat) (g : j' < X.length) (g' : j' < Y.length), j' < j + 1 → FitTwo X Y k j' hlt hlt' g g' from fun j' g g' hjj => by
                            by_cases h : j' < j
                            · exact hfj.out j' g g' h
                            · obtain rfl : j' = j := by omega
                              exact hft)
                          clear hft hfj Hn2 HBad2 Hf2
                          go_upto_region 14 with fail
                          go_quiet (fail)
                          have g14 : Gr wr (wr.drewN nq) := (Gr.rfl' wr).drewN nq
                          generalize wr.drewN nq = w14 at *
                          clear c0 c1 d1 e0 e1 f1
                          go_wp2_with fail
                          go_roundg (k - (j + 1))
                          case measure => omega
                          case rel => exact ⟨j + 1, by omega, rfl, by go_num, Hfn, gi.trans g14⟩
                      · obtain rfl : j = k := by omega
                        have Hall := Lib.hid (Hn2.out fun j' g g' h => hfj.out j' g g' h)
                        clear hfj Hn2 HBad2 Hf2 c0 c1 d1
                        go_wp2_with fail
                        go_roundg (X.length - (j + 1))
                        case measure => omega
                        case rel => exact ⟨j + 1, by omega, rfl, by go_num, Hall.out, gr.trans (g7.trans (g9.trans gi))⟩
                  · skip
                    go_upto_region 9 with fail
                    go_quiet (fail)
                    have g9 : Gr w7 (w7.drewN nq) := (Gr.rfl' w7).drewN nq
                    replace c0 := Gr.at g9 c0
                    replace c1 := Gr.at g9 c1
                    replace d1 := Gr.at g9 d1
                    generalize w7.drewN nq = w9 at *
                    clear q1 q1' q2 q2' q3 q3' hltd
                    go_wp2_with fail
                    go_loopg [8] k (fun m i wi => ∃ j : Nat, j ≤ k ∧ m = k - j ∧ i = .int .i64 j ∧ Hid (∀ (j' : Nat) (g : j' < X.length) (g' : j' < Y.length), j' < j → FitTwo X Y k j' hlt hlt' g g') ∧ Gr w9 wi)
                    case atStart => exact ⟨0, Nat.zero_le _, rfl, rfl, (fun j' _ _ h => absurd h (Nat.not_lt_zero j')), Gr.rfl' _⟩
                    case round =>
                      obtain ⟨j, hj, rfl, rfl, hfj, gi⟩ := hrel
                      by_cases hjk : j < k
                      · have hjX : j < X.length := by omega
                        have hjY : j < Y.length := by omega
                        obtain ⟨⟨e0, e1, _, _⟩, _, _⟩ := (HX.out.mono (gr.trans (g7.trans (g9.trans gi)))).elem j hjX
                        obtain ⟨⟨_, f1, _, _⟩, _, _⟩ := (HY.out.mono (gr.trans (g7.trans (g9.trans gi)))).elem j hjY
                        replace c0 := Gr.at gi c0
                        replace c1 := Gr.at gi c1
                        replace d1 := Gr.at gi d1
                        have hjkd : decide ((j : Int) < (k : Int)) = true := by simp; omega
                        have hft : FitTwo X Y k j hlt hlt' hjX hjY := fun h _ => absurd h hk1
                        have s1 : (X[k].k == 1) = false := by simp [hk1]
                        have Hfn := Lib.hid (show ∀ (j' : Nat) (g : j' < X.length) (g' : j' < Y.length), j' < j + 1 → FitTwo X Y k j' hlt hlt' g g' from fun j' g g' hjj => by
                          by_cases h : j' < j
                          · exact hfj.out j' g g' h
                          · obtain rfl : j' = j := by omega
                            exact hft)
                        clear hft hfj Hn2 HBad2 Hf2
                        go_upto_region 14 with fail
                        go_quiet (fail)
                        have g14 : Gr wr (wr.drewN nq) := (Gr.rfl' wr).drewN nq
                        generalize wr.drewN nq = w14 at *
                        clear c0 c1 d1 e0 e1 f1
                        go_wp2_with fail
                        go_roundg (k - (j + 1))
                        case measure => omega
                        case rel => exact ⟨j + 1, by omega, rfl, by go_num, Hfn, gi.trans g14⟩
                      · obtain rfl : j = k := by omega
                        have Hall := Lib.hid (Hn2.out fun j' g g' h => hfj.out j' g g' h)
                        clear hfj Hn2 HBad2 Hf2 c0 c1 d1
                        go_wp2_with fail
                        go_roundg (X.length - (j + 1))
                        case measure => omega
                        case rel => exact ⟨j + 1, by omega, rfl, by go_num, Hall.out, gr.trans (g7.trans (g9.trans gi))⟩
              · have Hb := Lib.hid (fun w' g => Hbad.out w' g fun h => e3 h.l)
                have q1 : (X[k].k == Y[k].k) = true := by simp [e1]
                have q1' : (X[k].k != Y[k].k) = false := by simp [e1]
                have q2 : (X[k].s.toList == Y[k].s.toList) = true := by simp [e2]
                have q2' : (X[k].s.toList != Y[k].s.toList) = false := by simp [e2]
                have q3 : ((X[k].l.length : Int) == (Y[k].l.length : Int)) = false := by simp; omega
                have q3' : ((X[k].l.length : Int) != (Y[k].l.length : Int)) = true := by simp; omega
                clear Hbad Hnext HBad2 hfit e1 e2 e3
                generalize X[k] = x at *
                generalize Y[k] = y at *
                go_upto_region 7 with fail
                go_quiet (fail)
                go_wp2_with fail
                exact Hb.out _ ((Gr.rfl' wr).drewN nq)
            · have Hb := Lib.hid (fun w' g => Hbad.out w' g fun h => e2 h.s)
              have q1 : (X[k].k == Y[k].k) = true := by simp [e1]
              have q1' : (X[k].k != Y[k].k) = false := by simp [e1]
              have q2 : (X[k].s.toList == Y[k].s.toList) = false := by simp [e2]
              have q2' : (X[k].s.toList != Y[k].s.toList) = true := by simp [e2]
              clear Hbad Hnext HBad2 hfit e1 e2
              generalize X[k] = x at *
              generalize Y[k] = y at *
              go_upto_region 7 with fail
              go_quiet (fail)
              go_wp2_with fail
              exact Hb.out _ ((Gr.rfl' wr).drewN nq)
          · have Hb := Lib.hid (fun w' g => Hbad.out w' g fun h => e1 h.k)
            have q1 : (X[k].k == Y[k].k) = false := by simp [e1]
            have q1' : (X[k].k != Y[k].k) = true := by simp [e1]
            clear Hbad Hnext HBad2 hfit e1
            generalize X[k] = x at *
            generalize Y[k] = y at *
            go_upto_region 7 with fail
            go_quiet (fail)
            go_wp2_with fail
            exact Hb.out _ ((Gr.rfl' wr).drewN nq)
        · obtain rfl : k = X.length := by omega
          have Hb := Lib.hid (HR.out true wr ⟨fun _ => ⟨HL.out, fun i h h' => hfit.out i h h' h⟩, fun _ => rfl⟩ gwr)
          clear hfit
          go_wp2_with fail
          exact Hb.out
    · have hle : ((X.length : Int) == Y.length) = false := by simp; omega
      have Hb := Lib.hid (HR.out false w1 ⟨(fun h => nomatch h), fun h => absurd h.1 hll⟩ g1)
      clear hll
      go_wp2_with fail
      exact Hb.out
end Go.Proofs.Ytcblmkhhhibddaa
