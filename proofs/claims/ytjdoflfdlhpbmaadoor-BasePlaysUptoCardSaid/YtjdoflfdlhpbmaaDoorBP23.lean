/-
  hornref.Formed
  hornref.Plain
-/
import Derived.Test.YtjdoflfdlhpbmaaDoorBP01
import Derived.Test.YtjdoflfdlhpbmaaDoorBP22
import Derived.Test.YtjdoflfdlhpbmaaDoorBP11
import Derived.Test.YtjdoflfdlhpbmaaDoorBP04
namespace Go.Proofs.YtjdoflfdlhpbmaaDoor
open Go.RowKit

theorem formedL_prefix {l : List Tm} (k : Nat) (h : T.formedL (Tm.eraseL (l.take k)) = false) : T.formedL (Tm.eraseL l) = false := by
  induction l generalizing k with
  | nil => simp at h; exact h
  | cons x xs ih =>
    cases k with
    | zero => simp [Tm.eraseL, T.formedL] at h
    | succ k =>
      simp only [List.take_succ_cons, Tm.eraseL, T.formedL, Bool.and_eq_false_iff] at h ⊢
      exact h.imp id (ih k)

set_option maxHeartbeats 1000000 in
set_option maxRecDepth 100000 in
theorem rformed_leaf (k n : Int) (s : ByteArray) (p : Option Addr) (c : Nat) (l : List Tm) (w : World) (h : (Tm.mk k n s p c l).In w) (hk4 : k ≠ 4) :
    Calls Tryd.prog 13 #[(Tm.mk k n s p c l).val] w (Ret (.bool (T.formed (Tm.mk k n s p c l).erase)) w) := by
  rw [Tm.In] at h
  obtain ⟨⟨hk5, hk6⟩, ⟨hn1, hn2⟩, hs, hl, hc, _, _⟩ := h
  simp only [Tm.val, Tm.k, Tm.n, Tm.s, Tm.p, Tm.c, Tm.l, Tm.erase, T.formed, Tm.eraseL_length, toList_length]
  generalize hr : (if k = 1 then _ else _ : Bool) = r
  have Hr := Lib.hid hr
  clear hr
  by_cases hk1 : k = 1
  · subst hk1
    go_enter Tryd.func13, Tryd.ntmps13
    go_wp2_with fail
    all_goals
      go_ret
      refine ret_bool ?_ (by go_grown)
      refine Eq.trans ?_ Hr.out
      clear Hr
      first | (simp [*]; done) | (simp_all; done) | (simp_all; omega)
  by_cases hk2 : k = 2
  · subst hk2
    go_enter Tryd.func13, Tryd.ntmps13
    go_wp2_with fail
    all_goals
      go_ret
      refine ret_bool ?_ (by go_grown)
      refine Eq.trans ?_ Hr.out
      clear Hr
      first | (simp [*, len_beq_zero]; done) | (simp_all [len_beq_zero]; done) | (simp_all [len_beq_zero]; omega)
  by_cases hk3 : k = 3
  · subst hk3
    go_enter Tryd.func13, Tryd.ntmps13
    go_wp2_with fail
    all_goals
      go_ret
      refine ret_bool ?_ (by go_grown)
      refine Eq.trans ?_ Hr.out
      clear Hr
      first | (simp [*, len_beq_zero]; done) | (simp_all [len_beq_zero]; done) | (simp_all [len_beq_zero]; omega)
  · have Hfin : Hid (r = false) := by
      refine Hr.out.symm.trans ?_
      simp [hk1, hk2, hk3, hk4]
    clear Hr
    have hk1' : (k == 1) = false := by simp [hk1]
    have hk2' : (k == 2) = false := by simp [hk2]
    have hk3' : (k == 3) = false := by simp [hk3]
    have hk4' : (k == 4) = false := by simp [hk4]
    clear hk1 hk2 hk3 hk4
    go_enter Tryd.func13, Tryd.ntmps13
    go_wp2_with fail
    all_goals
      go_rounds 1
      go_ret
      exact ret_bool Hfin.out.symm (by go_grown)

set_option maxHeartbeats 1000000 in
set_option maxRecDepth 100000 in
theorem rformed_bad (n : Int) (s : ByteArray) (p : Option Addr) (c : Nat) (l : List Tm) (w : World) (h : (Tm.mk 4 n s p c l).In w) (hg : ¬ (n = 0 ∧ s.size ≤ 100 ∧ 1 ≤ l.length ∧ l.length ≤ 50)) :
    Calls Tryd.prog 13 #[(Tm.mk 4 n s p c l).val] w (Ret (.bool false) w) := by
  rw [Tm.In] at h
  obtain ⟨_, ⟨hn1, hn2⟩, hs, hl, hc, _, _⟩ := h
  simp only [Tm.val, Tm.k, Tm.n, Tm.s, Tm.p, Tm.c, Tm.l]
  by_cases h1 : n = 0
  · subst h1
    by_cases h2 : s.size ≤ 100
    · have h2' : (s.size : Int) ≤ 100 := by omega
      by_cases h3 : 1 ≤ l.length
      · have h3' : (1 : Int) ≤ l.length := by omega
        have h4 : ¬ (l.length : Int) ≤ 50 := by omega
        clear hg
        go_enter Tryd.func13, Tryd.ntmps13
        go_wp2_with fail
        all_goals
          go_rounds 1
          go_ret
          exact ret_bool rfl (by go_grown)
      · have h3' : ¬ (1 : Int) ≤ l.length := by omega
        clear hg
        go_enter Tryd.func13, Tryd.ntmps13
        go_wp2_with fail
        all_goals
          go_rounds 1
          go_ret
          exact ret_bool rfl (by go_grown)
    · have h2' : ¬ (s.size : Int) ≤ 100 := by omega
      clear hg
      go_enter Tryd.func13, Tryd.ntmps13
      go_wp2_with fail
      all_goals
        go_rounds 1
        go_ret
        exact ret_bool rfl (by go_grown)
  · have h1' : (n == 0) = false := by simp [h1]
    clear hg
    go_enter Tryd.func13, Tryd.ntmps13
    go_wp2_with fail
    all_goals
      go_rounds 1
      go_ret
      exact ret_bool rfl (by go_grown)

set_option maxHeartbeats 1000000 in
set_option maxRecDepth 100000 in
theorem rformed_any (N : Nat) : ∀ (t : Tm) (w : World), SizeOf.sizeOf t ≤ N → t.In w →
    Calls Tryd.prog 13 #[t.val] w (Ret (.bool (T.formed t.erase)) w) := by
  induction N with
  | zero => intro t w h _; cases t; simp at h
  | succ N ih =>
    intro t w hN h
    obtain ⟨k, n, s, p, c, l⟩ := t
    by_cases hk4 : k = 4
    · subst hk4
      have hr : T.formed (Tm.mk 4 n s p c l).erase = (decide (n = 0) && decide (s.size ≤ 100) && decide (1 ≤ l.length) && decide (l.length ≤ 50) && T.formedL (Tm.eraseL l)) := by
        simp only [Tm.erase, T.formed, Tm.eraseL_length, toList_length]
        rfl
      by_cases hg : n = 0 ∧ s.size ≤ 100 ∧ 1 ≤ l.length ∧ l.length ≤ 50
      · obtain ⟨rfl, h2, h3, h4⟩ := hg
        rw [hr]
        have hr2 : (decide ((0 : Int) = 0) && decide (s.size ≤ 100) && decide (1 ≤ l.length) && decide (l.length ≤ 50) && T.formedL (Tm.eraseL l)) = T.formedL (Tm.eraseL l) := by
          simp [h2, h3, h4]
        rw [hr2]
        clear hr hr2
        have H := Lib.hid h.sl
        have hsz := fun x (hx : x ∈ l) => Tm.sizeOf_mem hx 4 0 s p c
        rw [Tm.In] at h
        obtain ⟨_, _, hs, hl, hc, _, _⟩ := h
        have Hsz := Lib.hid hsz
        have Hih := Lib.hid ih
        clear hsz ih
        simp only [Tm.val, Tm.k, Tm.n, Tm.s, Tm.p, Tm.c, Tm.l]
        generalize hr : T.formedL (Tm.eraseL l) = r
        have Hr := Lib.hid hr
        clear hr
        obtain ⟨b, o, rfl⟩ := H.out.ptr (by omega)
        have h2' : (s.size : Int) ≤ 100 := by omega
        have h3' : (1 : Int) ≤ l.length := by omega
        have h4' : (l.length : Int) ≤ 50 := by omega
        go_enter Tryd.func13, Tryd.ntmps13
        go_wp2_with fail
        all_goals
          go_loopw [5, 6] (fun v5 v6 wr => ∃ (k : Nat) (ok : Bool), k ≤ l.length ∧ v5 = .bool ok ∧ v6 = .int .i64 k ∧ Hid (T.formedL (Tm.eraseL (l.take k)) = ok) ∧ Gr w wr ∧
              w.heap.size + 1 ≤ wr.heap.size ∧ wr.cell? ⟨w.heap.size, 3, none⟩ = some (.slice (some ⟨b, o, none⟩) l.length c))
            (fun _ i _ => l.length - (intOf i).toNat)
          case atStart => exact ⟨0, true, Nat.zero_le _, rfl, rfl, rfl, by go_grown, by simp, by go_cell⟩
          case round =>
            obtain ⟨k, ok, hk, rfl, rfl, hpre, hb, hbs, b1⟩ := hrel
            cases ok
            · go_wp2_with fail
              go_ret
              refine ret_bool ?_ hb
              rw [← Hr.out, formedL_prefix k hpre.out]
            · by_cases hlt : k < l.length
              · have hS := H.out.mono hb
                obtain ⟨⟨c0, c1, c2, c3⟩, hx, _⟩ := hS.elem k hlt
                have Hx := Lib.hid hx
                have hmem : l[k] ∈ l := List.getElem_mem hlt
                have Hz := Hsz.out _ hmem
                clear hS hx
                generalize hxe : l[k] = x at *
                go_wp2_with fail
                refine (Hih.out x _ (by omega) (Tm.In_below (by go_grown) Hx.out)).mono ?_
                rintro e w1 ⟨rfl, hb1⟩
                have b1' := Gr.at hb1 b1
                have hs1 := hb1.size
                generalize hxf : x.erase.formed = bx
                have Hxf := Lib.hid hxf
                clear hxf b1
                have Htk : Hid (T.formedL (Tm.eraseL (l.take (k + 1))) = bx) := by
                  have h9 := formedL_take l k hlt
                  rw [hpre.out, hxe, Hxf.out] at h9
                  exact h9
                go_wp2_with fail
                go_roundw
                case rel => exact ⟨k + 1, bx, by omega, rfl, by go_num, Htk.out, below_step hb1 (by go_grown), by omega, b1'⟩
                case measure => simp [intOf]; omega
              · go_wp2_with fail
                go_ret
                refine ret_bool ?_ hb
                rw [← Hr.out, ← hpre.out, List.take_of_length_le (by omega)]
      · have : T.formed (Tm.mk 4 n s p c l).erase = false := by
          rw [hr, Bool.eq_false_iff]
          intro h9
          simp only [Bool.and_eq_true, decide_eq_true_eq] at h9
          exact hg ⟨h9.1.1.1.1, h9.1.1.1.2, h9.1.1.2, h9.1.2⟩
        rw [this]
        exact rformed_bad n s p c l w h hg
    · exact rformed_leaf k n s p c l w h hk4

/-- hornref.Formed, of whatever term. -/
theorem rformed_calls {t : Tm} {w : World} (h : t.In w) : Calls Tryd.prog 13 #[t.val] w (Ret (.bool (T.formed t.erase)) w) :=
  rformed_any _ t w (Nat.le_refl _) h

end Go.Proofs.YtjdoflfdlhpbmaaDoor

namespace Go.Proofs.YtjdoflfdlhpbmaaDoor
open Go.RowKit

set_option maxHeartbeats 8000000 in
set_option maxRecDepth 100000 in
theorem rPlain_calls (h b : Tm) (w : World) (m₀ : Int) (hm₀ : w.cell? ⟨0, 0, none⟩ = some (.int .i64 m₀)) (hh : h.In w) (hb : b.In w) : Calls Tryd.prog 67 #[clVal h b] w (RetTE (plainAns h.erase b.erase) w) := by
  have Hh := Lib.hid hh
  have Hb := Lib.hid hb
  have HM := Lib.hid hm₀
  have hR0 : Hid (∀ E : Int, plainErr reserved h.erase b.erase = E → E ≠ 0 → ∀ w', Gr w w' → RetTE (plainAns h.erase b.erase) w (.returned (.tuple #[zeroTm.val, .int .i64 E])) w') := fun E hE h0 w' hg => by rw [plainAns_bad hE h0]; exact ⟨zeroTm, rfl, zeroTm_in _, zeroTm_erase, hg⟩
  have hR1 : Hid (plainErr reserved h.erase b.erase = 0 → ∀ (bm : Tm), bm.erase = clauseT h.erase b.erase → ∀ w', bm.In w' → Gr w w' → RetTE (plainAns h.erase b.erase) w (.returned (.tuple #[bm.val, .int .i64 0])) w') := fun hE bm he w' hi hg => by rw [plainAns_ok hE]; exact ⟨bm, rfl, hi, he, hg⟩
  have hPE := Lib.hid (show plainErr reserved h.erase b.erase = if h.erase.formed && b.erase.formed then (match T.make reserved (clauseT h.erase b.erase) with
    | none => 7
    | some (h', b') => if T.same h' h.erase && T.same b' b.erase then 0 else 7) else 2 from rfl)
  have hC := Lib.hid (show clauseT h.erase b.erase = if b.erase.isOf sTrue 0 then h.erase else compT sNeck [h.erase, b.erase] from rfl)
  have HN := Lib.hid (show b.erase.isOf (ByteArray.mk #[116, 114, 117, 101]).toList 0 = b.erase.isOf sTrue 0 by rw [blTrue])
  generalize hQ : RetTE (plainAns h.erase b.erase) w = Q at *
  clear hQ hh hb hm₀
  generalize plainErr reserved h.erase b.erase = E at *
  have Hhv := Lib.hid (show h.val = .agg #[.int .i64 h.k, .int .i64 h.n, .string h.s, .slice h.p h.l.length h.c] from rfl)
  have Hbv := Lib.hid (show b.val = .agg #[.int .i64 b.k, .int .i64 b.n, .string b.s, .slice b.p b.l.length b.c] from rfl)
  rw [clVal_eq]
  go_enter Tryd.func67, Tryd.ntmps67
  try simp only [List.append_eq, List.cons_append, List.nil_append]
  go_upto_region 1 with fail
  obtain ⟨HB, HR, gA⟩ := blocks84 w (.int .i64 h.k) (.int .i64 h.n) (.string h.s) (.slice h.p h.l.length h.c) (.int .i64 b.k) (.int .i64 b.n) (.string b.s) (.slice b.p b.l.length b.c) (.int .i64 0) (.int .i64 0) (.string ⟨#[]⟩) (.slice none 0 0)
  generalize (w.alloc (.cells #[.int .i64 h.k, .int .i64 h.n, .string h.s, .slice h.p h.l.length h.c, .int .i64 b.k, .int .i64 b.n, .string b.s, .slice b.p b.l.length b.c] 36)).alloc (.cells #[.int .i64 0, .int .i64 0, .string ⟨#[]⟩, .slice none 0 0] 34) = wA at *
  have hszA : w.heap.size + 1 < wA.heap.size := HR.out.parts.2.2
  obtain ⟨c0, c1, c2, c3, c4, c5, c6, c7⟩ := HB.out.cells
  cases hf1 : h.erase.formed with
  | false =>
    have hv := Lib.hid (hR0.out 2 (by rw [hPE.out, hf1]; rfl) (by decide))
    have Hf1 := Lib.hid hf1
    clear hf1
    go_wp2_with (first
      | (go_at_call 13; rewrite [← Hhv.out]; refine (rformed_calls (t := h) (Tm.In_below gA Hh.out)).mono ?_; rintro e w1 ⟨rfl, hb⟩; rewrite [Hf1.out]; have g1 := gA.trans hb; have HB1 := Lib.hid (HB.out.gr hb); have HR1 := Lib.hid (HR.out.gr hb); clear hb c0 c1 c2 c3 c4 c5 c6 c7; obtain ⟨c0, c1, c2, c3, c4, c5, c6, c7⟩ := HB1.out.cells; obtain ⟨⟨y0, y1, y2, y3⟩, ⟨f0, f1, f2, f3⟩, hlt⟩ := HR1.out.parts)
      | fail)
    exact bodyPost_ret (by simp (maxDischargeDepth := 9) [results, Tryd.results67, go_sem, zeroTm, Tm.val, Tm.k, Tm.n, Tm.s, Tm.p, Tm.c, Tm.l, y0, y1, y2, y3]) rfl (hv.out _ (by go_grown))
  | true =>
  cases hf2 : b.erase.formed with
  | false =>
    have hv := Lib.hid (hR0.out 2 (by rw [hPE.out, hf1, hf2]; rfl) (by decide))
    have Hf1 := Lib.hid hf1
    have Hf2 := Lib.hid hf2
    clear hf1 hf2
    go_wp2_with (first
      | (go_at_call 13; rewrite [← Hhv.out]; refine (rformed_calls (t := h) (Tm.In_below gA Hh.out)).mono ?_; rintro e w1 ⟨rfl, hb⟩; rewrite [Hf1.out]; have g1 := gA.trans hb; have HB1 := Lib.hid (HB.out.gr hb); have HR1 := Lib.hid (HR.out.gr hb); clear hb c0 c1 c2 c3 c4 c5 c6 c7; obtain ⟨c0, c1, c2, c3, c4, c5, c6, c7⟩ := HB1.out.cells)
      | (go_at_call 13; rewrite [← Hbv.out]; refine (rformed_calls (t := b) (Tm.In_below g1 Hb.out)).mono ?_; rintro e w2 ⟨rfl, hb⟩; rewrite [Hf2.out]; have g2 := g1.trans hb; have HB2 := Lib.hid (HB1.out.gr hb); have HR2 := Lib.hid (HR1.out.gr hb); clear hb c0 c1 c2 c3 c4 c5 c6 c7; obtain ⟨c0, c1, c2, c3, c4, c5, c6, c7⟩ := HB2.out.cells; obtain ⟨⟨y0, y1, y2, y3⟩, ⟨f0, f1, f2, f3⟩, hlt⟩ := HR2.out.parts)
      | fail)
    exact bodyPost_ret (by simp (maxDischargeDepth := 9) [results, Tryd.results67, go_sem, zeroTm, Tm.val, Tm.k, Tm.n, Tm.s, Tm.p, Tm.c, Tm.l, y0, y1, y2, y3]) rfl (hv.out _ (by go_grown))
  | true =>
  have Hf1 := Lib.hid hf1
  have Hf2 := Lib.hid hf2
  have Hcf := Lib.hid (clause_formed hf1 hf2)
  have hPE2 : Hid (E = match T.make reserved (clauseT h.erase b.erase) with
    | none => 7
    | some (h', b') => if T.same h' h.erase && T.same b' b.erase then 0 else 7) := by show _ = _; rw [hPE.out, hf1, hf2]; rfl
  clear hf1 hf2
  go_upto_region 4 with (first
    | (go_at_call 13; rewrite [← Hhv.out]; refine (rformed_calls (t := h) (Tm.In_below gA Hh.out)).mono ?_; rintro e w1 ⟨rfl, hb⟩; rewrite [Hf1.out]; have g1 := gA.trans hb; have HB1 := Lib.hid (HB.out.gr hb); have HR1 := Lib.hid (HR.out.gr hb); clear hb c0 c1 c2 c3 c4 c5 c6 c7; obtain ⟨c0, c1, c2, c3, c4, c5, c6, c7⟩ := HB1.out.cells)
    | (go_at_call 13; rewrite [← Hbv.out]; refine (rformed_calls (t := b) (Tm.In_below g1 Hb.out)).mono ?_; rintro e w2 ⟨rfl, hb⟩; rewrite [Hf2.out]; have g2 := g1.trans hb; have HB2 := Lib.hid (HB1.out.gr hb); have HR2 := Lib.hid (HR1.out.gr hb); clear hb c0 c1 c2 c3 c4 c5 c6 c7; obtain ⟨c0, c1, c2, c3, c4, c5, c6, c7⟩ := HB2.out.cells)
    | fail)
  have hK := Blk4.new w2 (.int .i64 h.k) (.int .i64 h.n) (.string h.s) (.slice h.p h.l.length h.c)
  have g3' : Gr w2 (w2.alloc (.cells #[.int .i64 h.k, .int .i64 h.n, .string h.s, .slice h.p h.l.length h.c] 34)) := by go_grown
  generalize w2.alloc (.cells #[.int .i64 h.k, .int .i64 h.n, .string h.s, .slice h.p h.l.length h.c] 34) = w3 at *
  have h4 : w.heap.size + 2 ≤ w2.heap.size := by have := HR2.out.parts.2.2; omega
  generalize w2.heap.size = b4 at *
  have g3 := g2.trans g3'
  have HB3 := Lib.hid (HB2.out.gr g3')
  have HR3 := Lib.hid (HR2.out.gr g3')
  have HK3 := Lib.hid hK
  clear hK g3' HB2 HR2 HB1 HR1 HB HR g2 g1 gA c0 c1 c2 c3 c4 c5 c6 c7
  obtain ⟨c0, c1, c2, c3, c4, c5, c6, c7⟩ := HB3.out.cells
  cases hj : b.erase.isOf sTrue 0 with
  | true =>
    replace HN := Lib.hid (HN.out.trans hj)
    have Hpe : Hid (h.erase = clauseT h.erase b.erase) := by show _ = _; rw [hC.out, hj]; rfl
    clear hj
    go_upto_region 6 with (first
      | (go_at_call 47; rewrite [← Hbv.out]; refine (ris_calls _ _ _ _).mono ?_; rintro e w4 ⟨rfl, hb⟩; rewrite [HN.out]; have g4 := g3.trans hb; have HB4 := Lib.hid (HB3.out.gr hb); have HR4 := Lib.hid (HR3.out.gr hb); have HK4 := Lib.hid (HK3.out.gr hb); clear hb HB3 HR3 HK3 g3 c0 c1 c2 c3 c4 c5 c6 c7; obtain ⟨c0, c1, c2, c3, c4, c5, c6, c7⟩ := HB4.out.cells)
      | fail)
    have Hpi := Lib.hid (Tm.In_below g4 Hh.out)
    have Hpk : Hid (∀ W, Kp (fun x => x = w.heap.size + 1) w4 W → h.In W) := fun W hK => Tm.In_below (Below.trans g4 (hK.below (B := w.heap.size) (fun x hx => by omega) g4.size)) Hh.out
    have HB6 := HB4
    have HR6 := HR4
    have HK6 := HK4
    have g6 := g4
    clear HB4 HR4 HK4 g4
    have Hpf : Hid (h.erase.formed = true) := by show _ = _; rw [Hpe.out]; exact Hcf.out
    have Hpv := Lib.hid (show h.val = .agg #[.int .i64 h.k, .int .i64 h.n, .string h.s, .slice h.p h.l.length h.c] from rfl)
    obtain ⟨⟨p0, p1, p2, p3⟩, _, _⟩ := HK6.out.parts
    have hR6 := HR6.out.parts.2.2
    go_upto_region 7 with (first
      | (go_at_call 119; rewrite [← Hpv.out]; refine (rMake_calls h _ m₀ (Gr.at g6 HM.out) Hpi.out Hpf.out).mono ?_; rintro e w7 ⟨hm, bm, rfl, hmi, hbi, hme, hg⟩; rw [Hpe.out] at hme; rewrite [Hpe.out]; have Hmi := Lib.hid hmi; have Hbi := Lib.hid hbi; have Hme := Lib.hid hme; have g7 := g6.trans hg; have g67 := hg; have HB7 := Lib.hid (HB6.out.gr hg); have HR7 := Lib.hid (HR6.out.gr hg); have HK7 := Lib.hid (HK6.out.gr hg); rewrite [clVal_eq]; clear hmi hbi hme hg p0 p1 p2 p3)
      | fail)
    have hD : Blk8 (w7.alloc (.cells #[.int .i64 hm.k, .int .i64 hm.n, .string hm.s, .slice hm.p hm.l.length hm.c, .int .i64 bm.k, .int .i64 bm.n, .string bm.s, .slice bm.p bm.l.length bm.c] 36)) w7.heap.size (.int .i64 hm.k) (.int .i64 hm.n) (.string hm.s) (.slice hm.p hm.l.length hm.c) (.int .i64 bm.k) (.int .i64 bm.n) (.string bm.s) (.slice bm.p bm.l.length bm.c) := heap_alloc_new _ _
    have g8' : Gr w7 (w7.alloc (.cells #[.int .i64 hm.k, .int .i64 hm.n, .string hm.s, .slice hm.p hm.l.length hm.c, .int .i64 bm.k, .int .i64 bm.n, .string bm.s, .slice bm.p bm.l.length bm.c] 36)) := by go_grown
    generalize w7.alloc (.cells #[.int .i64 hm.k, .int .i64 hm.n, .string hm.s, .slice hm.p hm.l.length hm.c, .int .i64 bm.k, .int .i64 bm.n, .string bm.s, .slice bm.p bm.l.length bm.c] 36) = w8 at *
    have g8 : Gr w w8 := g7.trans g8'
    have g68 : Gr w4 w8 := g67.trans g8'
    have HB8 := Lib.hid (HB7.out.gr g8')
    have HR8 := Lib.hid (HR7.out.gr g8')
    have HK8 := Lib.hid (HK7.out.gr g8')
    have HD8 := Lib.hid hD
    have Hmi8 := Lib.hid (Tm.In_below g8' Hmi.out)
    have Hbi8 := Lib.hid (Tm.In_below g8' Hbi.out)
    have Hmv := Lib.hid (show hm.val = .agg #[.int .i64 hm.k, .int .i64 hm.n, .string hm.s, .slice hm.p hm.l.length hm.c] from rfl)
    have Hbmv := Lib.hid (show bm.val = .agg #[.int .i64 bm.k, .int .i64 bm.n, .string bm.s, .slice bm.p bm.l.length bm.c] from rfl)
    clear hD g8' HB7 HR7 HK7 HB6 HR6 HK6 Hmi Hbi g67 g7
    obtain ⟨c0, c1, c2, c3, c4, c5, c6, c7⟩ := HB8.out.cells
    obtain ⟨d0, d1, d2, d3, d4, d5, d6, d7⟩ := HD8.out.cells
    cases hmk : T.make reserved (clauseT h.erase b.erase) with
    | none =>
      have hv := Lib.hid (hR0.out 7 (by rw [hPE2.out, hmk]) (by decide))
      rewrite [Option.isSome_none]
      clear hmk
      obtain ⟨⟨y0, y1, y2, y3⟩, ⟨f0, f1, f2, f3⟩, hlt⟩ := HR8.out.parts
      go_wp2_with fail
      exact bodyPost_ret (by simp (maxDischargeDepth := 9) [results, Tryd.results67, go_sem, zeroTm, Tm.val, Tm.k, Tm.n, Tm.s, Tm.p, Tm.c, Tm.l, y0, y1, y2, y3]) rfl (hv.out _ (by go_grown))
    | some hb' =>
    obtain ⟨h', b'⟩ := hb'
    have hme := Hme.out
    rw [hmk] at hme
    simp only [Option.getD_some, Prod.mk.injEq] at hme
    have hE : Hid (E = if T.same hm.erase h.erase && T.same bm.erase b.erase then 0 else 7) := by show _ = _; rw [hPE2.out, hmk, hme.1, hme.2]
    rewrite [Option.isSome_some]
    clear hmk hme
    cases hs1 : T.same hm.erase h.erase with
    | false =>
      have hv := Lib.hid (hR0.out 7 (by rw [hE.out, hs1]; rfl) (by decide))
      have Hs1 := Lib.hid hs1
      clear hs1
      go_wp2_with (first
        | (go_at_call 16; rewrite [← Hhv.out, ← Hmv.out]; refine (same_calls (t := hm) (u := h) Hmi8.out (Tm.In_below g8 Hh.out)).mono ?_; rintro e w9 ⟨rfl, hb⟩; rewrite [Hs1.out]; have g9 := g8.trans hb; have g69 := g68.trans hb; have HB9 := Lib.hid (HB8.out.gr hb); have HR9 := Lib.hid (HR8.out.gr hb); have HK9 := Lib.hid (HK8.out.gr hb); have HD9 := Lib.hid (HD8.out.gr hb); have Hbi9 := Lib.hid (Tm.In_below hb Hbi8.out); clear hb c0 c1 c2 c3 c4 c5 c6 c7 d0 d1 d2 d3 d4 d5 d6 d7; obtain ⟨c0, c1, c2, c3, c4, c5, c6, c7⟩ := HB9.out.cells; obtain ⟨d0, d1, d2, d3, d4, d5, d6, d7⟩ := HD9.out.cells; obtain ⟨⟨y0, y1, y2, y3⟩, ⟨f0, f1, f2, f3⟩, hlt⟩ := HR9.out.parts)
        | fail)
      exact bodyPost_ret (by simp (maxDischargeDepth := 9) [results, Tryd.results67, go_sem, zeroTm, Tm.val, Tm.k, Tm.n, Tm.s, Tm.p, Tm.c, Tm.l, y0, y1, y2, y3]) rfl (hv.out _ (by go_grown))
    | true =>
    cases hs2 : T.same bm.erase b.erase with
    | false =>
      have hv := Lib.hid (hR0.out 7 (by rw [hE.out, hs1, hs2]; rfl) (by decide))
      have Hs1 := Lib.hid hs1
      have Hs2 := Lib.hid hs2
      clear hs1 hs2
      go_wp2_with (first
        | (go_at_call 16; rewrite [← Hhv.out, ← Hmv.out]; refine (same_calls (t := hm) (u := h) Hmi8.out (Tm.In_below g8 Hh.out)).mono ?_; rintro e w9 ⟨rfl, hb⟩; rewrite [Hs1.out]; have g9 := g8.trans hb; have g69 := g68.trans hb; have HB9 := Lib.hid (HB8.out.gr hb); have HR9 := Lib.hid (HR8.out.gr hb); have HK9 := Lib.hid (HK8.out.gr hb); have HD9 := Lib.hid (HD8.out.gr hb); have Hbi9 := Lib.hid (Tm.In_below hb Hbi8.out); clear hb c0 c1 c2 c3 c4 c5 c6 c7 d0 d1 d2 d3 d4 d5 d6 d7; obtain ⟨c0, c1, c2, c3, c4, c5, c6, c7⟩ := HB9.out.cells; obtain ⟨d0, d1, d2, d3, d4, d5, d6, d7⟩ := HD9.out.cells)
        | (go_at_call 16; rewrite [← Hbv.out, ← Hbmv.out]; refine (same_calls (t := bm) (u := b) Hbi9.out (Tm.In_below g9 Hb.out)).mono ?_; rintro e w10 ⟨rfl, hb⟩; rewrite [Hs2.out]; have g10 := g9.trans hb; have g610 := g69.trans hb; have HR10 := Lib.hid (HR9.out.gr hb); have HK10 := Lib.hid (HK9.out.gr hb); clear hb c0 c1 c2 c3 c4 c5 c6 c7 d0 d1 d2 d3 d4 d5 d6 d7; obtain ⟨⟨p0, p1, p2, p3⟩, _, _⟩ := HK10.out.parts; obtain ⟨⟨y0, y1, y2, y3⟩, ⟨f0, f1, f2, f3⟩, hlt⟩ := HR10.out.parts)
        | fail)
      exact bodyPost_ret (by simp (maxDischargeDepth := 9) [results, Tryd.results67, go_sem, zeroTm, Tm.val, Tm.k, Tm.n, Tm.s, Tm.p, Tm.c, Tm.l, y0, y1, y2, y3]) rfl (hv.out _ (by go_grown))
    | true =>
      have hv := Lib.hid (hR1.out (by rw [hE.out, hs1, hs2]; rfl))
      have Hs1 := Lib.hid hs1
      have Hs2 := Lib.hid hs2
      clear hs1 hs2
      go_wp2_with (first
        | (go_at_call 16; rewrite [← Hhv.out, ← Hmv.out]; refine (same_calls (t := hm) (u := h) Hmi8.out (Tm.In_below g8 Hh.out)).mono ?_; rintro e w9 ⟨rfl, hb⟩; rewrite [Hs1.out]; have g9 := g8.trans hb; have g69 := g68.trans hb; have HB9 := Lib.hid (HB8.out.gr hb); have HR9 := Lib.hid (HR8.out.gr hb); have HK9 := Lib.hid (HK8.out.gr hb); have HD9 := Lib.hid (HD8.out.gr hb); have Hbi9 := Lib.hid (Tm.In_below hb Hbi8.out); clear hb c0 c1 c2 c3 c4 c5 c6 c7 d0 d1 d2 d3 d4 d5 d6 d7; obtain ⟨c0, c1, c2, c3, c4, c5, c6, c7⟩ := HB9.out.cells; obtain ⟨d0, d1, d2, d3, d4, d5, d6, d7⟩ := HD9.out.cells)
        | (go_at_call 16; rewrite [← Hbv.out, ← Hbmv.out]; refine (same_calls (t := bm) (u := b) Hbi9.out (Tm.In_below g9 Hb.out)).mono ?_; rintro e w10 ⟨rfl, hb⟩; rewrite [Hs2.out]; have g10 := g9.trans hb; have g610 := g69.trans hb; have HR10 := Lib.hid (HR9.out.gr hb); have HK10 := Lib.hid (HK9.out.gr hb); clear hb c0 c1 c2 c3 c4 c5 c6 c7 d0 d1 d2 d3 d4 d5 d6 d7; obtain ⟨⟨p0, p1, p2, p3⟩, _, _⟩ := HK10.out.parts; obtain ⟨⟨y0, y1, y2, y3⟩, ⟨f0, f1, f2, f3⟩, hlt⟩ := HR10.out.parts)
        | fail)
      refine bodyPost_ret (v := .tuple #[h.val, .int .i64 0]) (by simp (maxDischargeDepth := 9) [results, Tryd.results67, go_sem, Tm.val, y0, y1, y2, y3]) rfl ?_
      exact hv.out h Hpe.out _ (Hpk.out _ ((Kp.of_gr g610).trans (Kp.set4 rfl))) (by go_grown)
  | false =>
    replace HN := Lib.hid (HN.out.trans hj)
    have hcl : Hid (compT sNeck [h.erase, b.erase] = clauseT h.erase b.erase) := by show _ = _; rw [hC.out, hj]; rfl
    clear hj
    go_upto_region 6 with (first
      | (go_at_call 47; rewrite [← Hbv.out]; refine (ris_calls _ _ _ _).mono ?_; rintro e w4 ⟨rfl, hb⟩; rewrite [HN.out]; have g4 := g3.trans hb; have HB4 := Lib.hid (HB3.out.gr hb); have HR4 := Lib.hid (HR3.out.gr hb); have HK4 := Lib.hid (HK3.out.gr hb); clear hb HB3 HR3 HK3 g3 c0 c1 c2 c3 c4 c5 c6 c7; obtain ⟨c0, c1, c2, c3, c4, c5, c6, c7⟩ := HB4.out.cells)
      | (go_at_call 53; refine (rC_calls _ _ _ _ _).mono ?_; rintro e w5 ⟨rfl, hb⟩; have hsl := two_new (t := h) (u := b) (Tm.In_below g4 Hh.out) (Tm.In_below g4 Hb.out) hb; have gb : Gr w4 w5 := below_step hb (by go_grown); have hs4 := g4.size; have hR4 := HR4.out.parts.2.2; have hK4 := HK4.out.parts.2.2; have g5 := g4.trans gb; have HB5 := Lib.hid (HB4.out.gr gb); have HR5 := Lib.hid (HR4.out.gr gb); have HK5 := Lib.hid (HK4.out.gr gb); have Hsl := Lib.hid hsl; clear hsl hb HB4 HR4 HK4 g4 c0 c1 c2 c3 c4 c5 c6 c7; obtain ⟨⟨p0, p1, p2, p3⟩, ⟨e0, e1, e2, e3⟩, _⟩ := HK5.out.parts)
      | fail)
    have hK : Kp (fun x => x = b4) w5 ((((w5.setCell ⟨b4, 0, none⟩ (.int .i64 4)).setCell ⟨b4, 1, none⟩ (.int .i64 0)).setCell ⟨b4, 2, none⟩ (.string ⟨#[58, 45]⟩)).setCell ⟨b4, 3, none⟩ (.slice (some ⟨w4.heap.size, 0, none⟩) 2 2)) := Kp.set4 rfl
    have hB4 := HK5.out.set4 (.int .i64 4) (.int .i64 0) (.string ⟨#[58, 45]⟩) (.slice (some ⟨w4.heap.size, 0, none⟩) 2 2)
    generalize ((((w5.setCell ⟨b4, 0, none⟩ (.int .i64 4)).setCell ⟨b4, 1, none⟩ (.int .i64 0)).setCell ⟨b4, 2, none⟩ (.string ⟨#[58, 45]⟩)).setCell ⟨b4, 3, none⟩ (.slice (some ⟨w4.heap.size, 0, none⟩) 2 2)) = w6 at *
    have Hon : Hid (Tm.On (fun x => x ≠ b4 ∧ x ≠ w.heap.size + 1) (compTm ⟨#[58, 45]⟩ (some ⟨w4.heap.size, 0, none⟩) 2 [h, b])) := by
      show Tm.On _ _
      rw [compTm, Tm.On, Tm.OnL, Tm.OnL, Tm.OnL]
      exact ⟨.inr ⟨_, _, rfl, by omega⟩, Hh.out.on.mono fun x hx => by omega, Hb.out.on.mono fun x hx => by omega, trivial⟩
    have Hci := Lib.hid (compTm_in (by decide) Hsl.out : Tm.In w5 (compTm ⟨#[58, 45]⟩ (some ⟨w4.heap.size, 0, none⟩) 2 [h, b]))
    have Hpk : Hid (∀ W, Kp (fun x => x = b4 ∨ x = w.heap.size + 1) w5 W → Tm.In W (compTm ⟨#[58, 45]⟩ (some ⟨w4.heap.size, 0, none⟩) 2 [h, b])) := fun W hW => in_after' Hci.out Hon.out fun x h1 h2 o => World.cell?_of_block (hW.block x h2 (by omega))
    have Hpe : Hid (Tm.erase (compTm ⟨#[58, 45]⟩ (some ⟨w4.heap.size, 0, none⟩) 2 [h, b]) = clauseT h.erase b.erase) := by show _ = _; rw [compTm, Tm.erase, Tm.eraseL, Tm.eraseL, Tm.eraseL, blNeck]; exact hcl.out
    have HK6 : Hid (Blk4 w6 b4 (.int .i64 (compTm ⟨#[58, 45]⟩ (some ⟨w4.heap.size, 0, none⟩) 2 [h, b]).k) (.int .i64 (compTm ⟨#[58, 45]⟩ (some ⟨w4.heap.size, 0, none⟩) 2 [h, b]).n) (.string (compTm ⟨#[58, 45]⟩ (some ⟨w4.heap.size, 0, none⟩) 2 [h, b]).s) (.slice (compTm ⟨#[58, 45]⟩ (some ⟨w4.heap.size, 0, none⟩) 2 [h, b]).p (compTm ⟨#[58, 45]⟩ (some ⟨w4.heap.size, 0, none⟩) 2 [h, b]).l.length (compTm ⟨#[58, 45]⟩ (some ⟨w4.heap.size, 0, none⟩) 2 [h, b]).c)) := hB4
    obtain ⟨pm, hpm⟩ : ∃ pm, pm = (compTm ⟨#[58, 45]⟩ (some ⟨w4.heap.size, 0, none⟩) 2 [h, b]) := ⟨_, rfl⟩
    rw [← hpm] at Hpk Hpe HK6
    clear hpm Hon Hci
    have hs5 := gb.size
    replace Hpk : Hid (∀ W, Kp (fun x => x = w.heap.size + 1) w6 W → pm.In W) := fun W hW => Hpk.out W ((hK.mono fun x hx => .inl hx).trans (hW.mono fun x hx => .inr hx))
    have Hpi := Lib.hid (Hpk.out w6 (Kp.refl _ _))
    have HB6 := Lib.hid (HB5.out.kp hK (by omega))
    have HR6 := Lib.hid (HR5.out.kp hK (by omega))
    have g6 : Gr w w6 := Below.trans g5 (hK.below (B := w.heap.size) (fun x hx => by omega) (by omega))
    clear hK hB4 HB5 HR5 HK5 g5 gb p0 p1 p2 p3 e0 e1 e2 e3
    have Hpf : Hid (pm.erase.formed = true) := by show _ = _; rw [Hpe.out]; exact Hcf.out
    have Hpv := Lib.hid (show pm.val = .agg #[.int .i64 pm.k, .int .i64 pm.n, .string pm.s, .slice pm.p pm.l.length pm.c] from rfl)
    obtain ⟨⟨p0, p1, p2, p3⟩, _, _⟩ := HK6.out.parts
    have hR6 := HR6.out.parts.2.2
    go_upto_region 7 with (first
      | (go_at_call 119; rewrite [← Hpv.out]; refine (rMake_calls pm _ m₀ (Gr.at g6 HM.out) Hpi.out Hpf.out).mono ?_; rintro e w7 ⟨hm, bm, rfl, hmi, hbi, hme, hg⟩; rw [Hpe.out] at hme; rewrite [Hpe.out]; have Hmi := Lib.hid hmi; have Hbi := Lib.hid hbi; have Hme := Lib.hid hme; have g7 := g6.trans hg; have g67 := hg; have HB7 := Lib.hid (HB6.out.gr hg); have HR7 := Lib.hid (HR6.out.gr hg); have HK7 := Lib.hid (HK6.out.gr hg); rewrite [clVal_eq]; clear hmi hbi hme hg p0 p1 p2 p3)
      | fail)
    have hD : Blk8 (w7.alloc (.cells #[.int .i64 hm.k, .int .i64 hm.n, .string hm.s, .slice hm.p hm.l.length hm.c, .int .i64 bm.k, .int .i64 bm.n, .string bm.s, .slice bm.p bm.l.length bm.c] 36)) w7.heap.size (.int .i64 hm.k) (.int .i64 hm.n) (.string hm.s) (.slice hm.p hm.l.length hm.c) (.int .i64 bm.k) (.int .i64 bm.n) (.string bm.s) (.slice bm.p bm.l.length bm.c) := heap_alloc_new _ _
    have g8' : Gr w7 (w7.alloc (.cells #[.int .i64 hm.k, .int .i64 hm.n, .string hm.s, .slice hm.p hm.l.length hm.c, .int .i64 bm.k, .int .i64 bm.n, .string bm.s, .slice bm.p bm.l.length bm.c] 36)) := by go_grown
    generalize w7.alloc (.cells #[.int .i64 hm.k, .int .i64 hm.n, .string hm.s, .slice hm.p hm.l.length hm.c, .int .i64 bm.k, .int .i64 bm.n, .string bm.s, .slice bm.p bm.l.length bm.c] 36) = w8 at *
    have g8 : Gr w w8 := g7.trans g8'
    have g68 : Gr w6 w8 := g67.trans g8'
    have HB8 := Lib.hid (HB7.out.gr g8')
    have HR8 := Lib.hid (HR7.out.gr g8')
    have HK8 := Lib.hid (HK7.out.gr g8')
    have HD8 := Lib.hid hD
    have Hmi8 := Lib.hid (Tm.In_below g8' Hmi.out)
    have Hbi8 := Lib.hid (Tm.In_below g8' Hbi.out)
    have Hmv := Lib.hid (show hm.val = .agg #[.int .i64 hm.k, .int .i64 hm.n, .string hm.s, .slice hm.p hm.l.length hm.c] from rfl)
    have Hbmv := Lib.hid (show bm.val = .agg #[.int .i64 bm.k, .int .i64 bm.n, .string bm.s, .slice bm.p bm.l.length bm.c] from rfl)
    clear hD g8' HB7 HR7 HK7 HB6 HR6 HK6 Hmi Hbi g67 g7
    obtain ⟨c0, c1, c2, c3, c4, c5, c6, c7⟩ := HB8.out.cells
    obtain ⟨d0, d1, d2, d3, d4, d5, d6, d7⟩ := HD8.out.cells
    cases hmk : T.make reserved (clauseT h.erase b.erase) with
    | none =>
      have hv := Lib.hid (hR0.out 7 (by rw [hPE2.out, hmk]) (by decide))
      rewrite [Option.isSome_none]
      clear hmk
      obtain ⟨⟨y0, y1, y2, y3⟩, ⟨f0, f1, f2, f3⟩, hlt⟩ := HR8.out.parts
      go_wp2_with fail
      exact bodyPost_ret (by simp (maxDischargeDepth := 9) [results, Tryd.results67, go_sem, zeroTm, Tm.val, Tm.k, Tm.n, Tm.s, Tm.p, Tm.c, Tm.l, y0, y1, y2, y3]) rfl (hv.out _ (by go_grown))
    | some hb' =>
    obtain ⟨h', b'⟩ := hb'
    have hme := Hme.out
    rw [hmk] at hme
    simp only [Option.getD_some, Prod.mk.injEq] at hme
    have hE : Hid (E = if T.same hm.erase h.erase && T.same bm.erase b.erase then 0 else 7) := by show _ = _; rw [hPE2.out, hmk, hme.1, hme.2]
    rewrite [Option.isSome_some]
    clear hmk hme
    cases hs1 : T.same hm.erase h.erase with
    | false =>
      have hv := Lib.hid (hR0.out 7 (by rw [hE.out, hs1]; rfl) (by decide))
      have Hs1 := Lib.hid hs1
      clear hs1
      go_wp2_with (first
        | (go_at_call 16; rewrite [← Hhv.out, ← Hmv.out]; refine (same_calls (t := hm) (u := h) Hmi8.out (Tm.In_below g8 Hh.out)).mono ?_; rintro e w9 ⟨rfl, hb⟩; rewrite [Hs1.out]; have g9 := g8.trans hb; have g69 := g68.trans hb; have HB9 := Lib.hid (HB8.out.gr hb); have HR9 := Lib.hid (HR8.out.gr hb); have HK9 := Lib.hid (HK8.out.gr hb); have HD9 := Lib.hid (HD8.out.gr hb); have Hbi9 := Lib.hid (Tm.In_below hb Hbi8.out); clear hb c0 c1 c2 c3 c4 c5 c6 c7 d0 d1 d2 d3 d4 d5 d6 d7; obtain ⟨c0, c1, c2, c3, c4, c5, c6, c7⟩ := HB9.out.cells; obtain ⟨d0, d1, d2, d3, d4, d5, d6, d7⟩ := HD9.out.cells; obtain ⟨⟨y0, y1, y2, y3⟩, ⟨f0, f1, f2, f3⟩, hlt⟩ := HR9.out.parts)
        | fail)
      exact bodyPost_ret (by simp (maxDischargeDepth := 9) [results, Tryd.results67, go_sem, zeroTm, Tm.val, Tm.k, Tm.n, Tm.s, Tm.p, Tm.c, Tm.l, y0, y1, y2, y3]) rfl (hv.out _ (by go_grown))
    | true =>
    cases hs2 : T.same bm.erase b.erase with
    | false =>
      have hv := Lib.hid (hR0.out 7 (by rw [hE.out, hs1, hs2]; rfl) (by decide))
      have Hs1 := Lib.hid hs1
      have Hs2 := Lib.hid hs2
      clear hs1 hs2
      go_wp2_with (first
        | (go_at_call 16; rewrite [← Hhv.out, ← Hmv.out]; refine (same_calls (t := hm) (u := h) Hmi8.out (Tm.In_below g8 Hh.out)).mono ?_; rintro e w9 ⟨rfl, hb⟩; rewrite [Hs1.out]; have g9 := g8.trans hb; have g69 := g68.trans hb; have HB9 := Lib.hid (HB8.out.gr hb); have HR9 := Lib.hid (HR8.out.gr hb); have HK9 := Lib.hid (HK8.out.gr hb); have HD9 := Lib.hid (HD8.out.gr hb); have Hbi9 := Lib.hid (Tm.In_below hb Hbi8.out); clear hb c0 c1 c2 c3 c4 c5 c6 c7 d0 d1 d2 d3 d4 d5 d6 d7; obtain ⟨c0, c1, c2, c3, c4, c5, c6, c7⟩ := HB9.out.cells; obtain ⟨d0, d1, d2, d3, d4, d5, d6, d7⟩ := HD9.out.cells)
        | (go_at_call 16; rewrite [← Hbv.out, ← Hbmv.out]; refine (same_calls (t := bm) (u := b) Hbi9.out (Tm.In_below g9 Hb.out)).mono ?_; rintro e w10 ⟨rfl, hb⟩; rewrite [Hs2.out]; have g10 := g9.trans hb; have g610 := g69.trans hb; have HR10 := Lib.hid (HR9.out.gr hb); have HK10 := Lib.hid (HK9.out.gr hb); clear hb c0 c1 c2 c3 c4 c5 c6 c7 d0 d1 d2 d3 d4 d5 d6 d7; obtain ⟨⟨p0, p1, p2, p3⟩, _, _⟩ := HK10.out.parts; obtain ⟨⟨y0, y1, y2, y3⟩, ⟨f0, f1, f2, f3⟩, hlt⟩ := HR10.out.parts)
        | fail)
      exact bodyPost_ret (by simp (maxDischargeDepth := 9) [results, Tryd.results67, go_sem, zeroTm, Tm.val, Tm.k, Tm.n, Tm.s, Tm.p, Tm.c, Tm.l, y0, y1, y2, y3]) rfl (hv.out _ (by go_grown))
    | true =>
      have hv := Lib.hid (hR1.out (by rw [hE.out, hs1, hs2]; rfl))
      have Hs1 := Lib.hid hs1
      have Hs2 := Lib.hid hs2
      clear hs1 hs2
      go_wp2_with (first
        | (go_at_call 16; rewrite [← Hhv.out, ← Hmv.out]; refine (same_calls (t := hm) (u := h) Hmi8.out (Tm.In_below g8 Hh.out)).mono ?_; rintro e w9 ⟨rfl, hb⟩; rewrite [Hs1.out]; have g9 := g8.trans hb; have g69 := g68.trans hb; have HB9 := Lib.hid (HB8.out.gr hb); have HR9 := Lib.hid (HR8.out.gr hb); have HK9 := Lib.hid (HK8.out.gr hb); have HD9 := Lib.hid (HD8.out.gr hb); have Hbi9 := Lib.hid (Tm.In_below hb Hbi8.out); clear hb c0 c1 c2 c3 c4 c5 c6 c7 d0 d1 d2 d3 d4 d5 d6 d7; obtain ⟨c0, c1, c2, c3, c4, c5, c6, c7⟩ := HB9.out.cells; obtain ⟨d0, d1, d2, d3, d4, d5, d6, d7⟩ := HD9.out.cells)
        | (go_at_call 16; rewrite [← Hbv.out, ← Hbmv.out]; refine (same_calls (t := bm) (u := b) Hbi9.out (Tm.In_below g9 Hb.out)).mono ?_; rintro e w10 ⟨rfl, hb⟩; rewrite [Hs2.out]; have g10 := g9.trans hb; have g610 := g69.trans hb; have HR10 := Lib.hid (HR9.out.gr hb); have HK10 := Lib.hid (HK9.out.gr hb); clear hb c0 c1 c2 c3 c4 c5 c6 c7 d0 d1 d2 d3 d4 d5 d6 d7; obtain ⟨⟨p0, p1, p2, p3⟩, _, _⟩ := HK10.out.parts; obtain ⟨⟨y0, y1, y2, y3⟩, ⟨f0, f1, f2, f3⟩, hlt⟩ := HR10.out.parts)
        | fail)
      refine bodyPost_ret (v := .tuple #[pm.val, .int .i64 0]) (by simp (maxDischargeDepth := 9) [results, Tryd.results67, go_sem, Tm.val, y0, y1, y2, y3]) rfl ?_
      exact hv.out pm Hpe.out _ (Hpk.out _ ((Kp.of_gr g610).trans (Kp.set4 rfl))) (by go_grown)

end Go.Proofs.YtjdoflfdlhpbmaaDoor
