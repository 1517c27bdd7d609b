/-
  term.to, term.Applied, term.Apply: what they hand back lies whole.
  Maps of terms of one's own; term.Binds: what it hands back is the caller's.
-/
import Derived.Test.YthncdmijledpnaaTM11
import Derived.Test.YthncdmijledpnaaTM12
namespace Go.Proofs.Ythncdmijledpnaa
open Go.RowKit Go.Lib

theorem whole_kp0 {t : Tm} {C : Nat → Prop} {S : Nat → Prop} {w w' : World} (hw : t.Whole w) (hin : t.In w) (hon : t.On S) (hS : ∀ b, S b → ¬ C b) (hk : Kp C w w') : t.Whole w' :=
  Tm.Whole.same (S := fun b => S b ∧ b < w.heap.size) (fun b hb => hk.block b hb.2 (hS b hb.1)) (Tm.On.and hon hin.on) hw
theorem varTm_whole (n : Int) (w : World) : (varTm n).Whole w := by rw [varTm, Tm.Whole, Tm.WholeL]; exact ⟨.inl ⟨rfl, rfl, rfl⟩, trivial⟩
theorem vW_calls (n : Int) (w : World) (h : In64 n) : Calls Try.prog 87 #[.int .i64 n] w (RetTmW (w.heap.size ≤ ·) (varT n) w) := by
  have H := Lib.hid h
  clear h
  go_enter Try.func87, Try.ntmps87
  go_wp2_with fail
  exact bodyPost_ret (v := (varTm n).val) (by simp [results, Try.results87, go_sem, varTm, Tm.val, Tm.k, Tm.n, Tm.s, Tm.p, Tm.c, Tm.l]) rfl ⟨varTm n, varTm_in H.out _, varTm_erase n, rfl, by go_grown, varTm_on n, varTm_whole n _⟩

set_option maxHeartbeats 4000000 in
set_option maxRecDepth 100000 in
theorem toW_calls (p : Option Addr) (c : Nat) (l : List Bd) (n : Int) (w : World) (hx : (Bds.mk p c l).In w) (ha : ascB (-1) l = true) (hf : (l.all fun y => y.t.erase.formed) = true) (hn : In64 n) :
    Calls Try.prog 175 #[.int .i64 n, .slice p l.length c] w (RetTmW (w.heap.size ≤ ·) (lookupT l n) w) := by
  have HX := Lib.hid hx
  have HA := Lib.hid (asc_spec l (-1) ha)
  have Hf := Lib.hid hf
  have Hn := Lib.hid hn
  obtain ⟨hlc, ⟨hl64, hc⟩, _, _⟩ := hx
  simp only at hlc hl64 hc
  generalize hQ : RetTmW (w.heap.size ≤ ·) (lookupT l n) w = Q
  have HQ := Lib.hid hQ
  clear hQ ha hf hn
  go_enter Try.func175, Try.ntmps175
  try simp only [List.append_eq, List.cons_append, List.nil_append]
  go_upto_region 1 with fail
  have hR0 := Blk4.new w (.int .i64 0) (.int .i64 0) (.string ⟨#[]⟩) (.slice none 0 0)
  have gA : Gr w (w.alloc (.cells #[.int .i64 0, .int .i64 0, .string ⟨#[]⟩, .slice none 0 0] 25)) := by go_grown
  have hsA : w.heap.size < (w.alloc (.cells #[.int .i64 0, .int .i64 0, .string ⟨#[]⟩, .slice none 0 0] 25)).heap.size := by simp
  generalize w.alloc (.cells #[.int .i64 0, .int .i64 0, .string ⟨#[]⟩, .slice none 0 0] 25) = wA at *
  have hfin : Hid (∀ (bm : Tm) (w1 : World), bm.In w1 → bm.erase = lookupT l n → bm.On (wA.heap.size ≤ ·) → bm.Whole w1 → Gr wA w1 → ∀ q0 q1 q2 q3, Q (.returned bm.val) ((((w1.setCell ⟨w.heap.size, 0, none⟩ q0).setCell ⟨w.heap.size, 1, none⟩ q1).setCell ⟨w.heap.size, 2, none⟩ q2).setCell ⟨w.heap.size, 3, none⟩ q3)) := by
    intro bm w1 h1 h2 h3 h4 hg q0 q1 q2 q3
    rw [← HQ.out]
    have k4 : Kp (· = w.heap.size) w1 ((((w1.setCell ⟨w.heap.size, 0, none⟩ q0).setCell ⟨w.heap.size, 1, none⟩ q1).setCell ⟨w.heap.size, 2, none⟩ q2).setCell ⟨w.heap.size, 3, none⟩ q3) := Kp.set4 (C := fun b => b = w.heap.size) rfl
    have g1 : Gr w w1 := gA.trans hg
    exact ⟨bm, in_after' h1 h3 fun b hb hl _ => World.cell?_of_block (k4.block b hl (by have : wA.heap.size ≤ b := hb; omega)), h2, rfl, Below.trans g1 (k4.below (fun b hb => by omega) g1.size), h3.mono fun b hb => (by have : wA.heap.size ≤ b := hb; omega), whole_kp0 h4 h1 h3 (fun b hb h => by have h0 : wA.heap.size ≤ b := hb; have h5 : b = w.heap.size := h; omega) k4⟩
  go_upto_region 2 with (first
    | (go_at_call 208; refine (bs_calls p c l n wA (HX.out.mono gA) (fun a b ha hb hab => by rcases Nat.lt_or_eq_of_le hab with h | h; have := HA.out.2 a b ha hb h; omega; subst h; omega)).mono ?_; rintro e w1 ⟨i, hi, hlo, hup, rfl, hb⟩; have HLo := Lib.hid hlo; have HUp := Lib.hid hup; clear hlo hup)
    | fail)
  cases hfd : fnd l i n with
  | false =>
    have Hl : Hid (lookupT l n = varT n) := lookup_no l n fun t ht he => by
      rcases Nat.lt_trichotomy t i with h | h | h
      · have := HLo.out t ht h; omega
      · subst h; rw [fnd, List.getElem?_eq_getElem ht] at hfd; exact absurd he (of_decide_eq_false hfd)
      · have h1 := HUp.out i (by omega) (Nat.le_refl _)
        have h2 := HA.out.2 i t (by omega) ht h
        omega
    clear hfd
    obtain ⟨⟨r0, r1, r2, r3⟩, ⟨f0, f1, f2, f3⟩, hlt⟩ := (hR0.gr hb).parts
    have Hb := Lib.hid hb
    clear hb
    go_wp2_with (first
      | (go_at_call 87; refine (vW_calls n _ Hn.out).mono ?_; rintro e w2 ⟨⟨kb, nb, sb, pb, cb, lb⟩, hin, he, rfl, hb2, hon, hwh⟩; have HB2 := Lib.hid (And.intro hin (And.intro he (And.intro hon (And.intro hwh (Hb.out.trans hb2))))); clear r0 r1 r2 r3 f0 f1 f2 f3 hlt; obtain ⟨⟨r0, r1, r2, r3⟩, ⟨f0, f1, f2, f3⟩, hlt⟩ := (hR0.gr (Hb.out.trans hb2)).parts; rewrite [tm_val]; clear hin he hon hwh hb2)
      | fail)
    refine bodyPost_ret (v := (Tm.mk kb nb sb pb cb lb).val) (by simp (maxDischargeDepth := 9) [results, Try.results175, go_sem, tm_val, r0, r1, r2, r3]) rfl ?_
    obtain ⟨hin, he, hon, hwh, hg⟩ := HB2.out
    exact hfin.out _ _ hin (he.trans Hl.out.symm) (hon.mono fun b hb => (by have : w1.heap.size ≤ b := hb; have := Hb.out.size; omega)) hwh hg _ _ _ _
  | true =>
    have hil : i < l.length := by
      rcases Nat.lt_or_ge i l.length with h | h
      · exact h
      · rw [fnd, List.getElem?_eq_none h] at hfd; cases hfd
    have hv : l[i].v = n := by rw [fnd, List.getElem?_eq_getElem hil] at hfd; exact of_decide_eq_true hfd
    have Hl : Hid (lookupT l n = l[i].t.erase) := lookup_at l n i hil (fun t ht h => by have := HLo.out t ht h; omega) hv
    have Hff : Hid (l[i].t.erase.formed = true) := List.all_eq_true.1 Hf.out l[i] (List.getElem_mem hil)
    clear hfd hv HLo HUp
    obtain ⟨b, o, rfl⟩ := HX.out.ptr (by omega)
    obtain ⟨⟨c0, c1, c2, c3, c4⟩, hti, _, _⟩ := (HX.out.mono (gA.trans hb)).elem i hil
    have Hti := Lib.hid hti
    clear hti
    generalize l[i] = y at *
    have Hyv := Lib.hid (show y.t.val = .agg #[.int .i64 y.t.k, .int .i64 y.t.n, .string y.t.s, .slice y.t.p y.t.l.length y.t.c] from rfl)
    obtain ⟨⟨r0, r1, r2, r3⟩, ⟨f0, f1, f2, f3⟩, hlt⟩ := (hR0.gr hb).parts
    have Hb := Lib.hid hb
    clear hb
    go_wp2_with (first
      | (go_at_call 82; rewrite [← Hyv.out]; refine (copyT_calls Hti.out Hff.out).mono ?_; rintro e w2 ⟨⟨kb, nb, sb, pb, cb, lb⟩, hin, he, rfl, hb2, hon, hwh, _⟩; have HB2 := Lib.hid (And.intro hin (And.intro he (And.intro hon (And.intro hwh (Hb.out.trans hb2))))); clear r0 r1 r2 r3 f0 f1 f2 f3 hlt; obtain ⟨⟨r0, r1, r2, r3⟩, ⟨f0, f1, f2, f3⟩, hlt⟩ := (hR0.gr (Hb.out.trans hb2)).parts; rewrite [tm_val]; clear hin he hon hwh hb2 c0 c1 c2 c3 c4)
      | fail)
    refine bodyPost_ret (v := (Tm.mk kb nb sb pb cb lb).val) (by simp (maxDischargeDepth := 9) [results, Try.results175, go_sem, tm_val, r0, r1, r2, r3]) rfl ?_
    obtain ⟨hin, he, hon, hwh, hg⟩ := HB2.out
    exact hfin.out _ _ hin (he.trans Hl.out.symm) (hon.mono fun b hb => (by have : w1.heap.size ≤ b := hb; have := Hb.out.size; omega)) hwh hg _ _ _ _
set_option maxHeartbeats 4000000 in
set_option maxRecDepth 100000 in
theorem applied1W_calls (p : Option Addr) (c : Nat) (l : List Bd) (Bs : Nat) (n : Int) (w : World) (hx : (Bds.mk p c l).In w) (ha : ascB (-1) l = true) (hf : (l.all fun y => y.t.erase.formed) = true) (hn : In64 n) (hB : BlkT w Bs 44 #[.slice p l.length c]) :
    Calls Try.prog 174 #[.int .i64 n, .pointer (some ⟨Bs, 0, none⟩)] w (RetTmW (w.heap.size ≤ ·) (lookupT l n) w) := by
  have HX := Lib.hid hx
  have HA := Lib.hid (And.intro ha (And.intro hf hn))
  have HB := Lib.hid hB
  generalize hQ : RetTmW (w.heap.size ≤ ·) (lookupT l n) w = Q
  have HQ := Lib.hid hQ
  clear hQ ha hf hn hx hB
  go_enter Try.func174, Try.ntmps174
  try simp only [List.append_eq, List.cons_append, List.nil_append]
  go_upto_region 1 with fail
  have hR0 := Blk4.new w (.int .i64 0) (.int .i64 0) (.string ⟨#[]⟩) (.slice none 0 0)
  have gA : Gr w (w.alloc (.cells #[.int .i64 0, .int .i64 0, .string ⟨#[]⟩, .slice none 0 0] 25)) := by go_grown
  have hsA : w.heap.size < (w.alloc (.cells #[.int .i64 0, .int .i64 0, .string ⟨#[]⟩, .slice none 0 0] 25)).heap.size := by simp
  generalize w.alloc (.cells #[.int .i64 0, .int .i64 0, .string ⟨#[]⟩, .slice none 0 0] 25) = wA at *
  have b0 := (HB.out.gr gA).cell 0 (v := .slice p l.length c) rfl
  go_wp2_with (first
    | (go_at_call 175; refine (toW_calls p c l n wA (HX.out.mono gA) HA.out.1 HA.out.2.1 HA.out.2.2).mono ?_; rintro e w2 ⟨⟨kb, nb, sb, pb, cb, lb⟩, hin, he, rfl, hb2, hon, hwh⟩; have HB2 := Lib.hid (And.intro hin (And.intro he (And.intro hon (And.intro hwh hb2)))); clear b0; obtain ⟨⟨r0, r1, r2, r3⟩, ⟨f0, f1, f2, f3⟩, hlt⟩ := (hR0.gr hb2).parts; rewrite [tm_val]; clear hin he hon hwh hb2)
    | fail)
  refine bodyPost_ret (v := (Tm.mk kb nb sb pb cb lb).val) (by simp (maxDischargeDepth := 9) [results, Try.results174, go_sem, tm_val, r0, r1, r2, r3]) rfl ?_
  obtain ⟨hin, he, hon, hwh, hg⟩ := HB2.out
  rw [← HQ.out]
  have k4 : ∀ q0 q1 q2 q3 : Value, Kp (· = w.heap.size) w2 ((((w2.setCell ⟨w.heap.size, 0, none⟩ q0).setCell ⟨w.heap.size, 1, none⟩ q1).setCell ⟨w.heap.size, 2, none⟩ q2).setCell ⟨w.heap.size, 3, none⟩ q3) := fun _ _ _ _ => Kp.set4 (C := fun b => b = w.heap.size) rfl
  have g1 : Gr w w2 := gA.trans hg
  exact ⟨_, in_after' hin hon fun b hb hl _ => World.cell?_of_block ((k4 _ _ _ _).block b hl (by have : wA.heap.size ≤ b := hb; omega)), he, rfl, Below.trans g1 ((k4 _ _ _ _).below (fun b hb => by omega) g1.size), hon.mono fun b hb => (by have : wA.heap.size ≤ b := hb; omega), whole_kp0 hwh hin hon (fun b hb h => by have h0 : wA.heap.size ≤ b := hb; have h5 : b = w.heap.size := h; omega) (k4 _ _ _ _)⟩

set_option maxHeartbeats 4000000 in
set_option maxRecDepth 100000 in
theorem appliedW_calls (t : Tm) (p : Option Addr) (c : Nat) (l : List Bd) (w : World) (ht : t.In w) (hft : t.erase.formed = true) (hx : (Bds.mk p c l).In w) (ha : ascB (-1) l = true) (hf : (l.all fun y => y.t.erase.formed) = true) :
    Calls Try.prog 113 #[t.val, .slice p l.length c] w (RetTmW (w.heap.size ≤ ·) (T.map (lookupT l) t.erase) w) := by
  have hmf : ∀ (fn : Fn) (first cap : Array Value) (w : World), (Instr.makeFunc fn first cap).run Try.prog w = .ok (.func fn first cap) w := fun _ _ _ _ => rfl
  have Ht := Lib.hid (And.intro ht hft)
  have HX := Lib.hid hx
  have HA := Lib.hid (And.intro ha hf)
  generalize hQ : RetTmW (w.heap.size ≤ ·) (T.map (lookupT l) t.erase) w = Q
  have HQ := Lib.hid hQ
  clear hQ ha hf hx ht hft
  have Htv := Lib.hid (show t.val = .agg #[.int .i64 t.k, .int .i64 t.n, .string t.s, .slice t.p t.l.length t.c] from rfl)
  rw [Htv.out]
  go_enter Try.func113, Try.ntmps113
  try simp only [List.append_eq, List.cons_append, List.nil_append]
  go_upto_region 1 with fail
  have hT0 := Blk4.new w (.int .i64 t.k) (.int .i64 t.n) (.string t.s) (.slice t.p t.l.length t.c)
  have g1 : Gr w (w.alloc (.cells #[.int .i64 t.k, .int .i64 t.n, .string t.s, .slice t.p t.l.length t.c] 25)) := by go_grown
  have hs1 : (w.alloc (.cells #[.int .i64 t.k, .int .i64 t.n, .string t.s, .slice t.p t.l.length t.c] 25)).heap.size = w.heap.size + 1 := World.size_alloc _ _
  generalize w.alloc (.cells #[.int .i64 t.k, .int .i64 t.n, .string t.s, .slice t.p t.l.length t.c] 25) = w1 at *
  have hS0 := BlkT.new w1 44 #[.slice p l.length c]
  have g2 : Gr w1 (w1.alloc (.cells #[.slice p l.length c] 44)) := by go_grown
  have hs2 : (w1.alloc (.cells #[.slice p l.length c] 44)).heap.size = w1.heap.size + 1 := World.size_alloc _ _
  generalize w1.alloc (.cells #[.slice p l.length c] 44) = w2 at *
  have hR0 := Blk4.new w2 (.int .i64 0) (.int .i64 0) (.string ⟨#[]⟩) (.slice none 0 0)
  have g3 : Gr w2 (w2.alloc (.cells #[.int .i64 0, .int .i64 0, .string ⟨#[]⟩, .slice none 0 0] 25)) := by go_grown
  have hs3 : (w2.alloc (.cells #[.int .i64 0, .int .i64 0, .string ⟨#[]⟩, .slice none 0 0] 25)).heap.size = w2.heap.size + 1 := World.size_alloc _ _
  generalize w2.alloc (.cells #[.int .i64 0, .int .i64 0, .string ⟨#[]⟩, .slice none 0 0] 25) = w3 at *
  rw [hs1] at hS0 hs2
  rw [hs2] at hR0 hs3
  have HT := Lib.hid ((hT0.gr g2).gr g3)
  have HS := Lib.hid (hS0.gr g3)
  have g13 : Gr w w3 := (g1.trans g2).trans g3
  have Hs3 := Lib.hid hs3
  clear hT0 hS0 hs1 hs2 hs3 g1 g2 g3
  have hmap : MapFnW (.func (.func 174) #[] #[.pointer (some ⟨w.heap.size + 1, 0, none⟩)]) (lookupT l) w3 :=
    ⟨_, _, rfl, fun n W => by kernel_rfl, fun n W hW hn => applied1W_calls p c l (w.heap.size + 1) n W (HX.out.mono (g13.trans hW)) HA.out.1 HA.out.2 hn (HS.out.gr hW)⟩
  have HMap := Lib.hid hmap
  clear hmap
  obtain ⟨⟨q0, q1, q2, q3⟩, _, _⟩ := HT.out.parts
  go_wp2_with (first
    | (go_at_call 126; rewrite [← Htv.out]; refine (mapW_calls (Tm.In_below g13 Ht.out.1) Ht.out.2 HMap.out).mono ?_; rintro e w4 ⟨⟨kb, nb, sb, pb, cb, lb⟩, hin, he, rfl, hb2, hon, hwh⟩; have HB2 := Lib.hid (And.intro hin (And.intro he (And.intro hon (And.intro hwh hb2)))); clear q0 q1 q2 q3; obtain ⟨⟨r0, r1, r2, r3⟩, ⟨f0, f1, f2, f3⟩, hlt⟩ := (hR0.gr hb2).parts; rewrite [tm_val]; clear hin he hon hwh hb2)
    | fail)
  refine bodyPost_ret (v := (Tm.mk kb nb sb pb cb lb).val) (by simp (maxDischargeDepth := 9) [results, Try.results113, go_sem, tm_val, r0, r1, r2, r3]) rfl ?_
  obtain ⟨hin, he, hon, hwh, hg⟩ := HB2.out
  rw [← HQ.out]
  have k4 : ∀ q0 q1 q2 q3 : Value, Kp (· = w.heap.size + 1 + 1) w4 ((((w4.setCell ⟨w.heap.size + 1 + 1, 0, none⟩ q0).setCell ⟨w.heap.size + 1 + 1, 1, none⟩ q1).setCell ⟨w.heap.size + 1 + 1, 2, none⟩ q2).setCell ⟨w.heap.size + 1 + 1, 3, none⟩ q3) := fun _ _ _ _ => Kp.set4 (C := fun b => b = w.heap.size + 1 + 1) rfl
  have g4 : Gr w w4 := g13.trans hg
  have hs3 := Hs3.out
  have hon2 : ∀ b, (w3.heap.size ≤ b) → w3.heap.size ≤ b := fun b h => h
  exact ⟨_, in_after' hin hon fun b hb hl _ => World.cell?_of_block ((k4 _ _ _ _).block b hl (by have := hon2 b hb; omega)), he, rfl, Below.trans g4 ((k4 _ _ _ _).below (fun b hb => by omega) g4.size), hon.mono fun b hb => (by have := hon2 b hb; omega), whole_kp0 hwh hin hon (fun b hb h => by have h0 := hon2 b hb; have h5 : b = w.heap.size + 1 + 1 := h; omega) (k4 _ _ _ _)⟩

def RetApW (t : T) (l : List Bd) (w : World) (e : Ending) (w' : World) : Prop :=
  ∃ b : Tm, e = .returned (.tuple #[b.val, .int .i64 (applyErr t l)]) ∧ b.In w' ∧ b.erase = (if applyErr t l = 0 then T.map (lookupT l) t else zeroT) ∧ Gr w w' ∧ b.On (w.heap.size ≤ ·) ∧ b.Whole w'
set_option maxHeartbeats 4000000 in
set_option maxRecDepth 100000 in
theorem applyW_calls (t : Tm) (p : Option Addr) (c : Nat) (l : List Bd) (w : World) (ht : t.In w) (hx : (Bds.mk p c l).In w) :
    Calls Try.prog 40 #[t.val, .slice p l.length c] w (RetApW t.erase l w) := by
  have Ht := Lib.hid ht
  have HX := Lib.hid hx
  generalize hQ : RetApW t.erase l w = Q
  have HQ := Lib.hid hQ
  clear hQ hx ht
  have Htv := Lib.hid (show t.val = .agg #[.int .i64 t.k, .int .i64 t.n, .string t.s, .slice t.p t.l.length t.c] from rfl)
  rw [Htv.out]
  go_enter Try.func40, Try.ntmps40
  try simp only [List.append_eq, List.cons_append, List.nil_append]
  go_upto_region 1 with fail
  obtain ⟨HB, HR, gA⟩ := two_blocks w (.int .i64 t.k) (.int .i64 t.n) (.string t.s) (.slice t.p t.l.length t.c) (.int .i64 0) (.int .i64 0) (.string ⟨#[]⟩) (.slice none 0 0)
  generalize (w.alloc (.cells #[.int .i64 t.k, .int .i64 t.n, .string t.s, .slice t.p t.l.length t.c] 25)).alloc (.cells #[.int .i64 0, .int .i64 0, .string ⟨#[]⟩, .slice none 0 0] 25) = wA at *
  have hRl := HR.out.parts.2.2
  have hk : ∀ W q0 q1 q2 q3, Kp (· = w.heap.size + 1) W ((((W.setCell ⟨w.heap.size + 1, 0, none⟩ q0).setCell ⟨w.heap.size + 1, 1, none⟩ q1).setCell ⟨w.heap.size + 1, 2, none⟩ q2).setCell ⟨w.heap.size + 1, 3, none⟩ q3) := fun W _ _ _ _ => Kp.set4 (C := fun b => b = w.heap.size + 1) rfl
  have hR0 : Hid (∀ E : Int, applyErr t.erase l = E → E ≠ 0 → ∀ w', Gr w w' → Q (.returned (.tuple #[zeroTm.val, .int .i64 E])) w') := fun E hE hE0 w' hg => by
    rw [← HQ.out]; exact ⟨zeroTm, by rw [hE], zeroTm_in _, by rw [hE, if_neg hE0, zeroTm_erase], hg, by rw [zeroTm, Tm.On, Tm.OnL]; exact ⟨.inl rfl, trivial⟩, zero_whole _⟩
  obtain ⟨⟨t0, t1, t2, t3⟩, _, _⟩ := HB.out.parts
  have Hk := Lib.hid hk
  clear hk
  cases hf : t.erase.formed with
  | false =>
    have hE := Lib.hid (show applyErr t.erase l = 2 by rw [applyErr, hf]; rfl)
    have Hf := Lib.hid hf
    clear hf
    go_wp2_with (first
      | (go_at_call 96; rewrite [← Htv.out]; refine (formed_calls (t := t) (Tm.In_below gA Ht.out)).mono ?_; rw [Hf.out]; rintro e w1 ⟨rfl, hb⟩; have g1 : Gr wA w1 := hb; obtain ⟨⟨r0, r1, r2, r3⟩, ⟨f0, f1, f2, f3⟩, hlt⟩ := (HR.out.gr g1).parts; clear hb t0 t1 t2 t3)
      | fail)
    refine bodyPost_ret (v := .tuple #[zeroTm.val, .int .i64 2]) (by simp (maxDischargeDepth := 9) [results, Try.results40, go_sem, zeroTm, tm_val, r0, r1, r2, r3]) rfl ?_
    exact hR0.out 2 hE.out (by decide) _ (Below.trans (gA.trans g1) ((Hk.out _ _ _ _ _).below (fun b hb => by omega) (gA.trans g1).size))
  | true =>
    have Hf := Lib.hid hf
    have HA := Lib.hid (show applyErr t.erase l = bindsErr l by rw [applyErr, hf]; rfl)
    clear hf
    go_upto_region 4 with (first
      | (go_at_call 96; rewrite [← Htv.out]; refine (formed_calls (t := t) (Tm.In_below gA Ht.out)).mono ?_; rw [Hf.out]; rintro e w1 ⟨rfl, hb⟩; have g1 : Gr wA w1 := hb; clear hb t0 t1 t2 t3)
      | (go_at_call 112; refine (checkBinds_calls p c l _ (HX.out.mono (gA.trans g1))).mono ?_; rintro e w2 ⟨rfl, hb⟩; have g2 : Gr wA w2 := g1.trans hb; clear hb)
      | fail)
    obtain ⟨⟨r0, r1, r2, r3⟩, ⟨f0, f1, f2, f3⟩, hlt⟩ := (HR.out.gr g2).parts
    rcases bindsErr_cases l with ⟨h0, ha, hff⟩ | h1
    · have HA2 := Lib.hid (And.intro ha hff)
      have HA0 := Lib.hid (HA.out.trans h0)
      clear ha hff
      rewrite [h0]
      clear h0
      obtain ⟨⟨t0, t1, t2, t3⟩, _, _⟩ := (HB.out.gr g2).parts
      clear r0 r1 r2 r3 f0 f1 f2 f3 hlt
      go_wp2_with (first
        | (go_at_call 113; rewrite [← Htv.out]; refine (appliedW_calls t p c l _ (Tm.In_below (gA.trans g2) Ht.out) Hf.out (HX.out.mono (gA.trans g2)) HA2.out.1 HA2.out.2).mono ?_; rintro e w3 ⟨⟨kb, nb, sb, pb, cb, lb⟩, hin, he, rfl, hb, hon, hwh⟩; have HB2 := Lib.hid (And.intro hin (And.intro he (And.intro hon (And.intro hwh (g2.trans hb))))); obtain ⟨⟨r0, r1, r2, r3⟩, ⟨f0, f1, f2, f3⟩, hlt⟩ := (HR.out.gr (g2.trans hb)).parts; rewrite [tm_val]; clear hin he hon hwh hb t0 t1 t2 t3)
        | fail)
      refine bodyPost_ret (v := .tuple #[(Tm.mk kb nb sb pb cb lb).val, .int .i64 0]) (by simp (maxDischargeDepth := 9) [results, Try.results40, go_sem, tm_val, r0, r1, r2, r3]) rfl ?_
      obtain ⟨hin, he, hon, hwh, hg⟩ := HB2.out
      rw [← HQ.out]
      have g3 : Gr w w3 := gA.trans hg
      have hs2 := g2.size
      exact ⟨_, by rw [HA0.out], in_after' hin hon fun b hb hl _ => World.cell?_of_block ((Hk.out _ _ _ _ _).block b hl (by have : w2.heap.size ≤ b := hb; omega)), by rw [HA0.out, if_pos rfl]; exact he, Below.trans g3 ((Hk.out _ _ _ _ _).below (fun b hb => by omega) g3.size), hon.mono fun b hb => (by have : w2.heap.size ≤ b := hb; omega), whole_kp0 hwh hin hon (fun b hb h => by have h0 : w2.heap.size ≤ b := hb; have h5 : b = w.heap.size + 1 := h; omega) (Hk.out _ _ _ _ _)⟩
    · have HE := Lib.hid (show bindsErr l ≠ 0 by omega)
      have hne : (bindsErr l != 0) = true := by simpa [bne_iff_ne] using HE.out
      clear h1
      go_wp2_with fail
      refine bodyPost_ret (v := .tuple #[zeroTm.val, .int .i64 (bindsErr l)]) (by simp (maxDischargeDepth := 9) [results, Try.results40, go_sem, zeroTm, tm_val, r0, r1, r2, r3]) rfl ?_
      exact hR0.out _ HA.out HE.out _ (Below.trans (gA.trans g2) ((Hk.out _ _ _ _ _).below (fun b hb => by omega) (gA.trans g2).size))
end Go.Proofs.Ythncdmijledpnaa

namespace Go.Proofs.Ythncdmijledpnaa
open Go.RowKit Go.Maps Go.Lib
open Go.ChangeMaps (setBlock)

/-- A map from variables to terms that lie on S, one's own. -/
def TMapM (S : Nat → Prop) (w : World) (b : Nat) (f : Int → Option T) : Prop :=
  (∃ g, GMap 2 kI64 w b g ∧ ∀ n, match f n with
    | none => g n = none
    | some t => ∃ tm : Tm, g n = some tm.val ∧ tm.In w ∧ tm.erase = t ∧ t.formed = true ∧ tm.On S ∧ tm.Mine w) ∧ Stm kI64 w b ∧ ∀ n, f n ≠ none → 0 ≤ n ∧ n ≤ 1099511627776

theorem TMapM.kp {S C : Nat → Prop} {w w' : World} {b : Nat} {f : Int → Option T} (h : TMapM S w b f) (hk : Kp C w w') (hb : ¬ C b) (hS : ∀ x, S x → ¬ C x) : TMapM S w' b f := by
  obtain ⟨⟨g, h1, h2⟩, h3, h4⟩ := h
  refine ⟨⟨g, h1.kp hk hb, fun n => ?_⟩, h3.kp hk hb, h4⟩
  have := h2 n
  cases hf : f n with
  | none => rw [hf] at this; exact this
  | some t =>
    rw [hf] at this
    obtain ⟨tm, i1, i2, i3, i4, i5, i6⟩ := this
    exact ⟨tm, i1, in_after' i2 i5 fun x hx hl _ => World.cell?_of_block (hk.block x hl (hS x hx)), i3, i4, i5, mine_kp i6 i2 i5 hS hk⟩

/-- What lies in a map: each entry's key and value. -/
theorem TMapM.entries {S : Nat → Prop} {w : World} {b : Nat} {f : Int → Option T} (h : TMapM S w b f) : ∃ (E : Array MapEntry) (c : Nat), w.heap[b]? = some (.map E c) ∧ (∀ e ∈ E.toList, e.born < c) ∧ (E.toList.map (·.born)).Nodup ∧ (E.toList.map (·.key)).Nodup ∧
    (∀ e ∈ E.toList, ∃ (n : Int) (tm : Tm), e.key = kI64 n ∧ e.val = tm.val ∧ f n = some tm.erase ∧ tm.In w ∧ tm.erase.formed = true ∧ tm.On S ∧ tm.Mine w ∧ 0 ≤ n ∧ n ≤ 1099511627776) ∧
    ∀ n t, f n = some t → ∃ e ∈ E.toList, e.key = kI64 n := by
  obtain ⟨⟨g, ⟨E, c, hb, hk, hn, hf⟩, h2⟩, ⟨E', c', hb', hst, hbn⟩, h4⟩ := h
  rw [hb] at hb'
  cases hb'
  refine ⟨E, _, hb, fun e he => (hst e he).2, hbn, hn, fun e he => ?_, fun n t ht => ?_⟩
  · obtain ⟨n, hkey⟩ := (hst e he).1
    have hg : g n = some e.val := (hf n e.val).2 ⟨e, he, hkey, rfl⟩
    have h5 := h2 n
    cases hfn : f n with
    | none => rw [hfn] at h5; simp only at h5; rw [hg] at h5; cases h5
    | some t =>
      rw [hfn] at h5
      obtain ⟨tm, i1, i2, i3, i4, i5, i6⟩ := h5
      rw [hg] at i1
      have h6 := h4 n (by rw [hfn]; simp)
      exact ⟨n, tm, hkey, Option.some.inj i1, by rw [hfn, i3], i2, by rw [i3]; exact i4, i5, i6, h6.1, h6.2⟩
  · have h5 := h2 n
    rw [ht] at h5
    obtain ⟨tm, i1, _⟩ := h5
    obtain ⟨e, he, hek, _⟩ := (hf n tm.val).1 i1
    exact ⟨e, he, hek⟩

def RetBindsM (S : Nat → Prop) (f : Int → Option T) (w : World) (e : Ending) (w' : World) : Prop :=
  ∃ p c l, e = .returned (.slice p l.length c) ∧ (Bds.mk p c l).In w' ∧ IsBinds f l ∧ (∀ y ∈ l, y.t.On S ∧ y.t.Mine w') ∧ Gr w w' ∧ ∃ B, w.heap.size ≤ B ∧ BuiltBds w' B (.slice p l.length c) l

theorem bindsM_ret {S : Nat → Prop} {f : Int → Option T} {E : Array MapEntry} {seen : Array Nat} {w w' : World} {B : Nat} {v : Value} {lo lo' : List Bd} (hcol : Col f E seen lo) (hall : ∀ e ∈ E.toList, seen.contains e.born = true) (hin : ∀ n t, f n = some t → ∃ e ∈ E.toList, e.key = kI64 n) (hr : ∀ n, f n ≠ none → 0 ≤ n ∧ n ≤ 1099511627776)
    (hlo : ∀ y ∈ lo, y.t.In w ∧ y.t.On S ∧ y.t.Mine w ∧ y.t.erase.formed = true ∧ 0 ≤ y.v ∧ y.v ≤ 1099511627776) (hp : lo'.Perm lo) (hs : lo'.Pairwise (fun x y => x.v ≤ y.v)) (hb : BuiltBds w' B v lo') (hg : Gr w w') (hBw : w.heap.size ≤ B) : RetBindsM S f w (.returned v) w' := by
  have hlen := hcol.len hr
  have hlen' : lo'.length = lo.length := hp.length_eq
  obtain ⟨p, c, rfl, hB⟩ := hb.bds (by omega) fun y hy => by
    have := hlo y (hp.mem_iff.1 hy)
    exact ⟨Tm.In_below hg this.1, by constructor <;> omega⟩
  refine ⟨p, c, lo', rfl, hB, ⟨asc_of lo' (-1) (fun y hy => ?_) hs ((hp.map Bd.v).nodup_iff.2 hcol.1), fun n t => ?_, fun y hy => ?_⟩, fun y hy => ⟨(hlo y (hp.mem_iff.1 hy)).2.1, (hlo y (hp.mem_iff.1 hy)).2.2.1.gr (hlo y (hp.mem_iff.1 hy)).1 hg⟩, hg, B, hBw, hb⟩
  · have := hlo y (hp.mem_iff.1 hy)
    omega
  · rw [← hcol.all hall hin n t]
    constructor <;> rintro ⟨y, hy, h⟩
    · exact ⟨y, hp.mem_iff.1 hy, h⟩
    · exact ⟨y, hp.mem_iff.2 hy, h⟩
  · exact (hlo y (hp.mem_iff.1 hy)).2.2.2

set_option maxHeartbeats 4000000 in
set_option maxRecDepth 100000 in
theorem bindsM_calls {S : Nat → Prop} (b : Nat) (f : Int → Option T) (w : World) (hm : TMapM S w b f) : Calls Try.prog 128 #[.map (some b)] w (RetBindsM S f w) := by
  generalize hQ : RetBindsM S f w = Q
  have HQ := Lib.hid hQ
  clear hQ
  obtain ⟨E, c, hb, hold, hbn, hkn, hent, hin⟩ := hm.entries
  have hr4 : ∀ n, f n ≠ none → 0 ≤ n ∧ n ≤ 1099511627776 := hm.2.2
  have hbl : b < w.heap.size := (Array.getElem?_eq_some_iff.1 hb).1
  have Hb := Lib.hid hb
  have Hold := Lib.hid hold
  have Hbn := Lib.hid hbn
  have Hkn := Lib.hid hkn
  have Hent := Lib.hid hent
  have Hin := Lib.hid hin
  have Hr4 := Lib.hid hr4
  clear hold hbn hkn hent hin hr4 hm
  have hrg0 := run_range_map (P := Try.prog) w 104 2 25 b E c Try.underlying104 hb
  go_enter Try.func128, Try.ntmps128
  try simp only [List.append_eq, List.cons_append, List.nil_append]
  go_wp2_with fail
  go_loopg [3] ((leftOf E #[]).size) (fun m v wr => ∃ (seen : Array Nat) (lo : List Bd), m = (leftOf E seen).size ∧ wr.heap[w.heap.size]? = some (.mapIter (some b) c seen c) ∧ BuiltBds wr (w.heap.size + 1) v lo ∧ Gr w wr ∧ w.heap.size < wr.heap.size ∧ Hid (Col f E seen lo) ∧ Hid (∀ y ∈ lo, y.t.In w ∧ y.t.On S ∧ y.t.Mine w ∧ y.t.erase.formed = true ∧ 0 ≤ y.v ∧ y.v ≤ 1099511627776))
  case atStart => exact ⟨#[], [], rfl, heap_alloc_new w _, World.ownsRow_nil _ _ _ 5, (by go_grown), (by simp), Col.start, fun y hy => nomatch hy⟩
  case round =>
    obtain ⟨seen, lo, rfl, hr, hrow, gr, hsz, hcol, hlo⟩ := hrel
    have hbr : wr.heap[b]? = some (.map E c) := (gr.block b hbl).trans Hb.out
    have Hrow := Lib.hid hrow
    clear hrow
    rcases run_next_at (P := Try.prog) wr 0 w.heap.size b c c seen E c hr hbr Hold.out (Nat.le_refl _) with ⟨h0, hnext⟩ | ⟨e, he, w1, hw1, hnext⟩
    · have Hall := Lib.hid (all_seen E seen h0)
      go_upto_region 7 with fail
      have Hlen := Lib.hid (Col.len hcol.out Hr4.out)
      go_wp2_with (first
        | (go_at_call 91; refine (sortBds_calls (w.heap.size + 1) _ lo wr Hrow.out Hlen.out hsz).mono ?_; rintro e w1 ⟨rfl, lo', hp, hs, hb1, hbw⟩; have Hend := Lib.hid (bindsM_ret hcol.out Hall.out Hin.out Hr4.out hlo.out hp hs hb1 (Below.trans gr (Below.mono hbw (Nat.le_succ _))) (Nat.le_succ _)); clear hp hs hb1 hbw)
        | fail)
      try go_ret
      rw [← HQ.out]
      exact Hend.out
    · obtain ⟨hem, hes⟩ := mem_left he
      have hlt := left_shrinks E seen e he
      obtain ⟨hkp, hr2⟩ := kp_step (o' := .mapIter (some b) c (seen.push e.born) c) hr hw1
      generalize setBlock w1 w.heap.size (.mapIter (some b) c (seen.push e.born) c) = w2 at hnext hkp hr2
      have g2 : Gr w w2 := Kp.gr_at gr hkp (Nat.le_refl _)
      have hbr2 : w2.heap[b]? = some (.map E c) := (g2.block b hbl).trans Hb.out
      have hentry := run_entry_at (P := Try.prog) w2 w.heap.size b c seen E c e hr2 hbr2 hem Hbn.out
      have hsz2 : w.heap.size < w2.heap.size := Nat.lt_of_lt_of_le hsz hkp.size
      have Hrow2 := Lib.hid (BuiltBds.kp Hrow.out hkp (fun x hx h => by omega))
      obtain ⟨n, tm, hkey, hval, hfn, htin, hform, hton, htmi, hn0, hn1⟩ := Hent.out e hem
      have Htv := Lib.hid (show tm.val = .agg #[.int .i64 tm.k, .int .i64 tm.n, .string tm.s, .slice tm.p tm.l.length tm.c] from rfl)
      rw [hkey, hval, Htv.out] at hnext hentry
      simp only [kI64] at hnext hentry
      have Hem := Lib.hid hem
      have Hes := Lib.hid hes
      have Hkey := Lib.hid hkey
      have Hfn := Lib.hid hfn
      clear hem hes hkey hfn hval he hw1 hkp hr hbr
      go_upto_region 5 with fail
      have hB := BlkT.new w2 25 #[.int .i64 tm.k, .int .i64 tm.n, .string tm.s, .slice tm.p tm.l.length tm.c]
      have gB : Gr w2 (w2.alloc (.cells #[.int .i64 tm.k, .int .i64 tm.n, .string tm.s, .slice tm.p tm.l.length tm.c] 25)) := by go_grown
      generalize w2.alloc (.cells #[.int .i64 tm.k, .int .i64 tm.n, .string tm.s, .slice tm.p tm.l.length tm.c] 25) = wB at *
      have hrB : wB.heap[w.heap.size]? = some (.mapIter (some b) c (seen.push e.born) c) := (gB.block _ hsz2).trans hr2
      have grB : Gr w wB := g2.trans gB
      have hszB : w.heap.size < wB.heap.size := Nat.lt_of_lt_of_le hsz2 gB.size
      generalize w2.heap.size = H at *
      have HB := Lib.hid hB
      have HrB := Lib.hid hrB
      have HrowB := Lib.hid (Hrow2.out.gr gB)
      have Hvar := Lib.hid (var_iff hform n)
      clear hB hrB hr2 gB g2 hbr2 hentry hnext
      have t0 := HB.out.cell 0 (v := .int .i64 tm.k) rfl
      have t1 := HB.out.cell 1 (v := .int .i64 tm.n) rfl
      by_cases hv : tm.k = 1 ∧ tm.n = n
      · have Hcol := Lib.hid (Col.skip hcol.out Hbn.out Hem.out Hkey.out (by rw [Hfn.out, Hvar.out.2 hv]))
        obtain ⟨hv1, hv2⟩ := hv
        have hk1 : (tm.k != 1) = false := by simp [hv1]
        have hk2 : (tm.n != n) = false := by simp [hv2]
        clear hv1 hv2
        go_wp2_with fail
        go_roundg ((leftOf E (seen.push e.born)).size)
        case measure => exact hlt
        case rel => exact ⟨_, lo, rfl, HrB.out, HrowB.out, grB, hszB, Hcol.out, hlo.out⟩
      · have Hcol := Lib.hid (Col.snoc hcol.out Hbn.out Hkn.out Hem.out Hes.out Hkey.out Hfn.out (fun h => hv (Hvar.out.1 h)))
        have Hlen := Lib.hid (Col.len Hcol.out Hr4.out)
        have t2 := HB.out.cell 2 (v := .string tm.s) rfl
        have t3 := HB.out.cell 3 (v := .slice tm.p tm.l.length tm.c) rfl
        have Hlo := Lib.hid (show ∀ y ∈ lo ++ [Bd.mk n tm], y.t.In w ∧ y.t.On S ∧ y.t.Mine w ∧ y.t.erase.formed = true ∧ 0 ≤ y.v ∧ y.v ≤ 1099511627776 from fun y hy => by
          rcases List.mem_append.1 hy with hy | hy
          · exact hlo.out y hy
          · rw [List.mem_singleton] at hy
            subst hy
            exact ⟨htin, hton, htmi, hform, hn0, hn1⟩)
        have Hlen2 : (lo.length + 1) * 64 ≤ 140737488351232 := by
          have := Hlen.out
          rw [List.length_append, List.length_singleton] at this
          omega
        have Hgo := Lib.hid (show ∀ w4 v', BuiltBds w4 (w.heap.size + 1) v' (lo ++ [⟨n, tm⟩]) → Below (w.heap.size + 1) wB w4 → ∃ (seen' : Array Nat) (lo' : List Bd), (leftOf E (seen.push e.born)).size = (leftOf E seen').size ∧ w4.heap[w.heap.size]? = some (.mapIter (some b) c seen' c) ∧ BuiltBds w4 (w.heap.size + 1) v' lo' ∧ Gr w w4 ∧ w.heap.size < w4.heap.size ∧ Hid (Col f E seen' lo') ∧ Hid (∀ y ∈ lo', y.t.In w ∧ y.t.On S ∧ y.t.Mine w ∧ y.t.erase.formed = true ∧ 0 ≤ y.v ∧ y.v ≤ 1099511627776) from fun w4 v' h1 h2 =>
          ⟨_, _, rfl, (h2.block _ (Nat.lt_succ_self _)).trans HrB.out, h1, Below.trans grB (Below.mono h2 (Nat.le_succ _)), Nat.lt_of_lt_of_le hszB h2.size, Hcol, Hlo⟩)
        have Hor : Hid (tm.k ≠ 1 ∨ tm.n ≠ n) := by
          show _ ∨ _
          by_cases h1 : tm.k = 1
          · exact .inr fun h2 => hv ⟨h1, h2⟩
          · exact .inl h1
        clear hv
        rcases Hor.out with h1 | h1
        · have hk1 : (tm.k != 1) = true := by simp [h1]
          clear h1
          go_wp2_with (first
            | (refine wpList_append_bd rfl _ _ rfl rfl (w.heap.size + 1) _ lo ⟨n, tm⟩ wB.heap.size 1 (by rfl) (by rfl) (HrowB.out.gr (by go_grown)) (by simp; omega) Hlen2 (BlkT.new wB _ _) ?_
               intro v' w4 h2 h3 h4)
            | fail)
          go_roundg ((leftOf E (seen.push e.born)).size)
          case measure => exact hlt
          case rel => exact Hgo.out w4 v' h2 (Below.trans (Below.mono (show Gr wB _ by go_grown) hszB) (grownBy_below h3 (by simp; omega) fun b hb => HrowB.out.ge hb))
        · cases hk1 : (tm.k != 1) with
          | true =>
            clear h1
            go_wp2_with (first
              | (refine wpList_append_bd rfl _ _ rfl rfl (w.heap.size + 1) _ lo ⟨n, tm⟩ wB.heap.size 1 (by rfl) (by rfl) (HrowB.out.gr (by go_grown)) (by simp; omega) Hlen2 (BlkT.new wB _ _) ?_
                 intro v' w4 h2 h3 h4)
              | fail)
            go_roundg ((leftOf E (seen.push e.born)).size)
            case measure => exact hlt
            case rel => exact Hgo.out w4 v' h2 (Below.trans (Below.mono (show Gr wB _ by go_grown) hszB) (grownBy_below h3 (by simp; omega) fun b hb => HrowB.out.ge hb))
          | false =>
            have hk2 : (tm.n != n) = true := by simp [h1]
            clear h1
            go_wp2_with (first
              | (refine wpList_append_bd rfl _ _ rfl rfl (w.heap.size + 1) _ lo ⟨n, tm⟩ wB.heap.size 1 (by rfl) (by rfl) (HrowB.out.gr (by go_grown)) (by simp; omega) Hlen2 (BlkT.new wB _ _) ?_
                 intro v' w4 h2 h3 h4)
              | fail)
            go_roundg ((leftOf E (seen.push e.born)).size)
            case measure => exact hlt
            case rel => exact Hgo.out w4 v' h2 (Below.trans (Below.mono (show Gr wB _ by go_grown) hszB) (grownBy_below h3 (by simp; omega) fun b hb => HrowB.out.ge hb))

theorem TMapM.made (S : Nat → Prop) (w : World) : TMapM S (w.alloc (.map #[] 0)) w.heap.size (fun _ => none) :=
  ⟨⟨fun _ => none, ⟨#[], 0, heap_alloc_new _ _, (fun _ he => nomatch he), List.nodup_nil, fun _ _ => ⟨fun h => (nomatch h), fun ⟨_, he, _⟩ => nomatch he⟩⟩, fun _ => rfl⟩, Stm.made kI64 w, fun _ h => absurd rfl h⟩

theorem TMapM.store {S : Nat → Prop} {w : World} {b : Nat} {f : Int → Option T} (h : TMapM S w b f) (hb : ∀ x, S x → x ≠ b) {n : Int} (hn : 0 ≤ n ∧ n ≤ 1099511627776) {tm : Tm} (hin : tm.In w) (hf : tm.erase.formed = true) (hon : tm.On S) (hmi : tm.Mine w) :
    ∃ w', (Instr.mapUpdate 104 (.map (some b)) (.int .i64 n) tm.val).run Try.prog w = .ok () w' ∧ TMapM S w' b (fun x => if x = n then some tm.erase else f x) ∧ w.grownBy w' (some b) := by
  obtain ⟨⟨g, h1, h2⟩, h3, h4⟩ := h
  obtain ⟨w', hr, hg, hgb, hs⟩ := h1.updateS h3 (int_keyed Try.underlying2) Try.underlying104 (x := n) (keyOf_int_mk Try.underlying2 (wf_64 (by constructor <;> omega))) (fun y hy => kI64_inj hy) tm.val (g := fun x => if x = n then some tm.val else g x) (if_pos rfl) (fun y hy => if_neg hy)
  have hk : Kp (· = b) w w' := Kp.of_grownBy hgb rfl
  refine ⟨w', hr, ⟨⟨_, hg, fun x => ?_⟩, hs, fun x hx => ?_⟩, hgb⟩
  · by_cases hx : x = n
    · simp only [if_pos hx]
      exact ⟨tm, rfl, in_after' hin hon fun y hy hl _ => World.cell?_of_block (hk.block y hl (hb y hy)), rfl, hf, hon, mine_kp hmi hin hon (fun y hy => hb y hy) hk⟩
    · simp only [if_neg hx]
      have := h2 x
      cases hfx : f x with
      | none => rw [hfx] at this; exact this
      | some t =>
        rw [hfx] at this
        obtain ⟨u, i1, i2, i3, i4, i5, i6⟩ := this
        exact ⟨u, i1, in_after' i2 i5 fun y hy hl _ => World.cell?_of_block (hk.block y hl (hb y hy)), i3, i4, i5, mine_kp i6 i2 i5 (fun y hy => hb y hy) hk⟩
  · by_cases hxn : x = n
    · subst hxn; exact hn
    · exact h4 x (by simpa [hxn] using hx)
end Go.Proofs.Ythncdmijledpnaa
