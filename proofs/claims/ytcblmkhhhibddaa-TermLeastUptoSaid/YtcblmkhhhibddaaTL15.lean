/-
  slices.BinarySearchFunc at substitutions, by the variable.
  term.to, term.Applied
  term.Applied, term.Apply
  term.Apply
  Maps that are ranged over: when each entry was laid, how many there are; what is met in a range.
  term.Binds: the range over the map.
-/
import Derived.Test.YtcblmkhhhibddaaTL14
import Derived.Test.YtcblmkhhhibddaaTL06
import Derived.Test.YtcblmkhhhibddaaTL07
import Derived.Maps.RangeRun
import Derived.Test.YtcblmkhhhibddaaTL05
namespace Go.Proofs.Ytcblmkhhhibddaa
open Go.RowKit Go.Lib

set_option maxHeartbeats 1000000 in
set_option maxRecDepth 100000 in
theorem to1_calls (y : Bd) (n : Int) (w : World) : Calls Try.prog 197 #[.agg (bdCells y), .int .i64 n] w (Ret (.int .i64 (cmpI y.v n)) w) := by
  have hR : Hid (∀ m, cmpI y.v n = m → ∀ w', Gr w w' → Ret (.int .i64 (cmpI y.v n)) w (.returned (.int .i64 m)) w') := fun m h w' hg => ⟨by rw [h], hg⟩
  generalize hQ : Ret (.int .i64 (cmpI y.v n)) w = Q at hR ⊢
  clear hQ
  simp only [bdCells]
  go_enter Try.func197, Try.ntmps197
  try simp only [List.append_eq, List.cons_append, List.nil_append]
  go_upto_region 1 with fail
  have hB := BlkT.new w 117 #[.int .i64 y.v, .int .i64 y.t.k, .int .i64 y.t.n, .string y.t.s, .slice y.t.p y.t.l.length y.t.c]
  have gB : Gr w (w.alloc (.cells #[.int .i64 y.v, .int .i64 y.t.k, .int .i64 y.t.n, .string y.t.s, .slice y.t.p y.t.l.length y.t.c] 117)) := by go_grown
  generalize w.alloc (.cells #[.int .i64 y.v, .int .i64 y.t.k, .int .i64 y.t.n, .string y.t.s, .slice y.t.p y.t.l.length y.t.c] 117) = wB at *
  have d0 := hB.cell 0 (v := .int .i64 y.v) rfl
  go_wp2_with (first
    | (go_at_call 92; refine (compare_int64 _ _ _).mono ?_; rintro e w1 ⟨rfl, rfl⟩)
    | fail)
  exact hR.out _ rfl _ gB

/-- Is it bound there? -/
def fnd (l : List Bd) (i : Nat) (n : Int) : Bool := match l[i]? with
  | some y => decide (y.v = n)
  | none => false

/-- Where a variable is, or would be. -/
def RetBS (l : List Bd) (n : Int) (w : World) (e : Ending) (w' : World) : Prop :=
  ∃ i : Nat, i ≤ l.length ∧ (∀ (t : Nat) (h : t < l.length), t < i → l[t].v < n) ∧ (∀ (t : Nat) (h : t < l.length), i ≤ t → n ≤ l[t].v) ∧ e = .returned (.tuple #[.int .i64 i, .bool (fnd l i n)]) ∧ Gr w w'

theorem cmpI_negD (a b : Int) : (cmpI a b < 0) ↔ a < b := by
  by_cases h : a < b
  · rw [cmpI_lt h]; simp [h]
  · by_cases h2 : b < a
    · rw [cmpI_gt h2]; simp [h]
    · rw [cmpI_eq (by omega) (by omega)]; simp [h]
theorem cmpI_zeroD (a b : Int) : (cmpI a b = 0) ↔ a = b := by
  by_cases h : a < b
  · rw [cmpI_lt h]; constructor <;> intro h <;> omega
  · by_cases h2 : b < a
    · rw [cmpI_gt h2]; constructor <;> intro h <;> omega
    · rw [cmpI_eq (by omega) (by omega)]; constructor <;> intro _ <;> omega

set_option maxHeartbeats 4000000 in
set_option maxRecDepth 100000 in
theorem bs_calls (p : Option Addr) (c : Nat) (l : List Bd) (n : Int) (w : World) (hx : (Bds.mk p c l).In w) (hs : ∀ (a b : Nat) (ha : a < l.length) (hb : b < l.length), a ≤ b → l[a].v ≤ l[b].v) :
    Calls Try.prog 196 #[.slice p l.length c, .int .i64 n, .func (.func 197) #[] #[]] w (RetBS l n w) := by
  have HX := Lib.hid hx
  have HS := Lib.hid hs
  obtain ⟨hlc, ⟨hl64, hc⟩, _, _⟩ := hx
  simp only at hlc hl64 hc
  have hR : Hid (∀ (i : Nat) (b : Bool), fnd l i n = b → i ≤ l.length → ((∀ (t : Nat) (h : t < l.length), t < i → l[t].v < n) ∧ (∀ (t : Nat) (h : t < l.length), i ≤ t → n ≤ l[t].v)) → ∀ w', Gr w w' → RetBS l n w (.returned (.tuple #[.int .i64 i, .bool b])) w') := fun i b hb hi h w' hg => ⟨i, hi, h.1, h.2, by rw [hb], hg⟩
  generalize hQ : RetBS l n w = Q at hR ⊢
  have eg : ∀ args w, (callFunc 197 args).run Try.prog w = .ok (.enter 197 args) w := fun args w => by kernel_rfl
  clear hQ hs
  go_enter Try.func196, Try.ntmps196
  try simp only [List.append_eq, List.cons_append, List.nil_append]
  go_wp2_with fail
  go_loopg [9, 10] l.length (fun kx s9 s10 wr => ∃ lo hi : Nat, s9 = .int .i64 lo ∧ s10 = .int .i64 hi ∧ lo ≤ hi ∧ hi ≤ l.length ∧ hi - lo ≤ kx ∧ Hid ((∀ (t : Nat) (h : t < l.length), t < lo → l[t].v < n) ∧ (∀ (t : Nat) (h : t < l.length), hi ≤ t → n ≤ l[t].v)) ∧ Gr w wr)
  case atStart => exact ⟨0, l.length, rfl, rfl, Nat.zero_le _, Nat.le_refl _, by omega, ⟨fun t _ ht => absurd ht (Nat.not_lt_zero _), fun t h1 h2 => by omega⟩, Gr.rfl' _⟩
  case round =>
    obtain ⟨lo, hi, rfl, rfl, hlh, hin, hg, I, gr⟩ := hrel
    by_cases hlt : lo < hi
    · obtain ⟨b, o, rfl⟩ := HX.out.ptr (by omega)
      obtain ⟨⟨c0, c1, c2, c3, c4⟩, _, _, _⟩ := (HX.out.mono gr).elem ((lo + hi) / 2) (by omega)
      have hm : (lo + hi) / 2 < l.length := by omega
      have hy : l[(lo + hi) / 2]? = some l[(lo + hi) / 2] := List.getElem?_eq_getElem hm
      have hlow : Hid (l[(lo + hi) / 2].v < n → ∀ (t : Nat) (h : t < l.length), t < (lo + hi) / 2 + 1 → l[t].v < n) := fun h1 t h ht => by have := HS.out t _ h hm (by omega); omega
      have hupp : Hid (n ≤ l[(lo + hi) / 2].v → ∀ (t : Nat) (h : t < l.length), (lo + hi) / 2 ≤ t → n ≤ l[t].v) := fun h1 t h ht => by have := HS.out _ t hm h ht; omega
      clear hy
      generalize l[(lo + hi) / 2] = y at *
      have hcall := Lib.hid (to1_calls y n wr)
      have Hbc := Lib.hid (show Value.agg (bdCells y) = .agg #[.int .i64 y.v, .int .i64 y.t.k, .int .i64 y.t.n, .string y.t.s, .slice y.t.p y.t.l.length y.t.c] from rfl)
      by_cases hlt2 : y.v < n
      · have hyx : cmpI y.v n < 0 := (cmpI_negD _ _).2 hlt2
        have Hl := Lib.hid (hlow.out hlt2)
        clear hlow hupp hlt2
        go_wp2_with (first
          | (go_at_call 197; rewrite [← Hbc.out]; refine hcall.out.mono ?_; rintro e w' ⟨rfl, hb⟩; have gr2 := gr.trans hb; clear hb c0 c1 c2 c3 c4)
          | fail)
        go_roundg (hi - ((lo + hi) / 2 + 1))
        case measure => omega
        case rel => exact ⟨(lo + hi) / 2 + 1, hi, by rw [show ((lo : Int) + (hi : Int)) / 2 + 1 = (((lo + hi) / 2 + 1 : Nat) : Int) by omega], rfl, by omega, hin, Nat.le_refl _, ⟨Hl.out, I.out.2⟩, gr2⟩
      · have hyx : ¬ cmpI y.v n < 0 := fun h => hlt2 ((cmpI_negD _ _).1 h)
        have Hl := Lib.hid (hupp.out (by omega))
        clear hlow hupp hlt2
        go_wp2_with (first
          | (go_at_call 197; rewrite [← Hbc.out]; refine hcall.out.mono ?_; rintro e w' ⟨rfl, hb⟩; have gr2 := gr.trans hb; clear hb c0 c1 c2 c3 c4)
          | fail)
        go_roundg ((lo + hi) / 2 - lo)
        case measure => omega
        case rel => exact ⟨lo, (lo + hi) / 2, rfl, by rw [show ((lo : Int) + (hi : Int)) / 2 = (((lo + hi) / 2 : Nat) : Int) by omega], by omega, by omega, Nat.le_refl _, ⟨I.out.1, Hl.out⟩, gr2⟩
    · obtain rfl : hi = lo := by omega
      by_cases hn : hi < l.length
      · obtain ⟨b, o, rfl⟩ := HX.out.ptr (by omega)
        obtain ⟨⟨c0, c1, c2, c3, c4⟩, _, _, _⟩ := (HX.out.mono gr).elem hi hn
        have Hf := Lib.hid (show fnd l hi n = decide (l[hi].v = n) by rw [fnd, List.getElem?_eq_getElem hn])
        generalize l[hi] = y at *
        have hcall := Lib.hid (to1_calls y n wr)
        have Hbc := Lib.hid (show Value.agg (bdCells y) = .agg #[.int .i64 y.v, .int .i64 y.t.k, .int .i64 y.t.n, .string y.t.s, .slice y.t.p y.t.l.length y.t.c] from rfl)
        by_cases he : y.v = n
        · have hz : (cmpI y.v n == 0) = true := beq_iff_eq.2 ((cmpI_zeroD _ _).2 he)
          have Hf2 := Lib.hid (show fnd l hi n = true by rw [Hf.out]; exact decide_eq_true he)
          clear he
          go_wp2_with (first
            | (go_at_call 197; rewrite [← Hbc.out]; refine hcall.out.mono ?_; rintro e w' ⟨rfl, hb⟩; have gr2 := gr.trans hb; clear hb c0 c1 c2 c3 c4)
            | fail)
          exact hR.out hi _ Hf2.out hin I.out _ gr2
        · have hz : (cmpI y.v n == 0) = false := beq_eq_false_iff_ne.2 fun h => he ((cmpI_zeroD _ _).1 h)
          have Hf2 := Lib.hid (show fnd l hi n = false by rw [Hf.out]; exact decide_eq_false he)
          clear he
          go_wp2_with (first
            | (go_at_call 197; rewrite [← Hbc.out]; refine hcall.out.mono ?_; rintro e w' ⟨rfl, hb⟩; have gr2 := gr.trans hb; clear hb c0 c1 c2 c3 c4)
            | fail)
          exact hR.out hi _ Hf2.out hin I.out _ gr2
      · have Hf2 := Lib.hid (show fnd l hi n = false by rw [fnd, List.getElem?_eq_none (by omega)])
        go_wp2_with fail
        exact hR.out hi _ Hf2.out hin I.out _ gr
end Go.Proofs.Ytcblmkhhhibddaa

namespace Go.Proofs.Ytcblmkhhhibddaa
open Go.RowKit Go.Lib

theorem asc_spec : ∀ (l : List Bd) (last : Int), ascB last l = true → (∀ (a : Nat) (h : a < l.length), last < l[a].v ∧ l[a].v ≤ 1099511627776) ∧ ∀ (a b : Nat) (ha : a < l.length) (hb : b < l.length), a < b → l[a].v < l[b].v
  | [], _, _ => ⟨fun a h => absurd h (by simp), fun a b h => absurd h (by simp)⟩
  | x :: xs, last, h => by
    rw [ascB, Bool.and_eq_true, Bool.and_eq_true, decide_eq_true_eq, decide_eq_true_eq] at h
    obtain ⟨h1, h2, h3⟩ := h
    obtain ⟨i1, i2⟩ := asc_spec xs x.v h3
    refine ⟨fun a ha => ?_, fun a b ha hb hab => ?_⟩
    · cases a with
      | zero => exact ⟨h1, h2⟩
      | succ a => have := i1 a (by simpa using ha); simp only [List.getElem_cons_succ]; exact ⟨by omega, this.2⟩
    · cases b with
      | zero => omega
      | succ b =>
        cases a with
        | zero => exact (i1 b (by simpa using hb)).1
        | succ a => exact i2 a b (by simpa using ha) (by simpa using hb) (by omega)
theorem lookup_at (l : List Bd) (n : Int) : ∀ (i : Nat) (h : i < l.length), (∀ (t : Nat) (ht : t < l.length), t < i → l[t].v ≠ n) → l[i].v = n → lookupT l n = l[i].t.erase := by
  induction l with
  | nil => intro i h; simp at h
  | cons x xs ih =>
    intro i h hlt hv
    rw [lookupT]
    cases i with
    | zero => exact if_pos (show x.v = n from hv)
    | succ i =>
      rw [if_neg (show ¬ x.v = n from hlt 0 (by simp) (by omega))]
      exact ih i (by simpa using h) (fun t ht hti => hlt (t + 1) (by simpa using ht) (by omega)) hv
theorem lookup_no (l : List Bd) (n : Int) : (∀ (t : Nat) (ht : t < l.length), l[t].v ≠ n) → lookupT l n = varT n := by
  induction l with
  | nil => intro _; rfl
  | cons x xs ih =>
    intro h
    rw [lookupT, if_neg (show ¬ x.v = n from h 0 (by simp))]
    exact ih fun t ht => h (t + 1) (by simpa using ht)

set_option maxHeartbeats 4000000 in
set_option maxRecDepth 100000 in
theorem to_calls (p : Option Addr) (c : Nat) (l : List Bd) (n : Int) (w : World) (hx : (Bds.mk p c l).In w) (ha : ascB (-1) l = true) (hf : (l.all fun y => y.t.erase.formed) = true) (hn : In64 n) :
    Calls Try.prog 161 #[.int .i64 n, .slice p l.length c] w (RetTm (w.heap.size ≤ ·) (lookupT l n) w) := by
  have HX := Lib.hid hx
  have HA := Lib.hid (asc_spec l (-1) ha)
  have Hf := Lib.hid hf
  have Hn := Lib.hid hn
  obtain ⟨hlc, ⟨hl64, hc⟩, _, _⟩ := hx
  simp only at hlc hl64 hc
  generalize hQ : RetTm (w.heap.size ≤ ·) (lookupT l n) w = Q
  have HQ := Lib.hid hQ
  clear hQ ha hf hn
  go_enter Try.func161, Try.ntmps161
  try simp only [List.append_eq, List.cons_append, List.nil_append]
  go_upto_region 1 with fail
  have hR0 := Blk4.new w (.int .i64 0) (.int .i64 0) (.string ⟨#[]⟩) (.slice none 0 0)
  have gA : Gr w (w.alloc (.cells #[.int .i64 0, .int .i64 0, .string ⟨#[]⟩, .slice none 0 0] 25)) := by go_grown
  have hsA : w.heap.size < (w.alloc (.cells #[.int .i64 0, .int .i64 0, .string ⟨#[]⟩, .slice none 0 0] 25)).heap.size := by simp
  generalize w.alloc (.cells #[.int .i64 0, .int .i64 0, .string ⟨#[]⟩, .slice none 0 0] 25) = wA at *
  have hfin : Hid (∀ (bm : Tm) (w1 : World), bm.In w1 → bm.erase = lookupT l n → bm.On (wA.heap.size ≤ ·) → Gr wA w1 → ∀ q0 q1 q2 q3, Q (.returned bm.val) ((((w1.setCell ⟨w.heap.size, 0, none⟩ q0).setCell ⟨w.heap.size, 1, none⟩ q1).setCell ⟨w.heap.size, 2, none⟩ q2).setCell ⟨w.heap.size, 3, none⟩ q3)) := by
    intro bm w1 h1 h2 h3 hg q0 q1 q2 q3
    rw [← HQ.out]
    have k4 : Kp (· = w.heap.size) w1 ((((w1.setCell ⟨w.heap.size, 0, none⟩ q0).setCell ⟨w.heap.size, 1, none⟩ q1).setCell ⟨w.heap.size, 2, none⟩ q2).setCell ⟨w.heap.size, 3, none⟩ q3) := Kp.set4 (C := fun b => b = w.heap.size) rfl
    have g1 : Gr w w1 := gA.trans hg
    exact ⟨bm, in_after' h1 h3 fun b hb hl _ => World.cell?_of_block (k4.block b hl (by have : wA.heap.size ≤ b := hb; omega)), h2, rfl, Below.trans g1 (k4.below (fun b hb => by omega) g1.size), h3.mono fun b hb => (by have : wA.heap.size ≤ b := hb; omega)⟩
  go_upto_region 2 with (first
    | (go_at_call 196; refine (bs_calls p c l n wA (HX.out.mono gA) (fun a b ha hb hab => by rcases Nat.lt_or_eq_of_le hab with h | h; have := HA.out.2 a b ha hb h; omega; subst h; omega)).mono ?_; rintro e w1 ⟨i, hi, hlo, hup, rfl, hb⟩; have HLo := Lib.hid hlo; have HUp := Lib.hid hup; clear hlo hup)
    | fail)
  cases hfd : fnd l i n with
  | false =>
    have Hl : Hid (lookupT l n = varT n) := lookup_no l n fun t ht he => by
      rcases Nat.lt_trichotomy t i with h | h | h
      · have := HLo.out t ht h; omega
      · subst h; rw [fnd, List.getElem?_eq_getElem ht] at hfd; exact absurd he (of_decide_eq_false hfd)
      · have h1 := HUp.out i (by omega) (Nat.le_refl _)
        have h2 := HA.out.2 i t (by omega) ht h
        omega
    clear hfd
    obtain ⟨⟨r0, r1, r2, r3⟩, ⟨f0, f1, f2, f3⟩, hlt⟩ := (hR0.gr hb).parts
    have Hb := Lib.hid hb
    clear hb
    go_wp2_with (first
      | (go_at_call 86; refine (v_calls n _ Hn.out).mono ?_; rintro e w2 ⟨⟨kb, nb, sb, pb, cb, lb⟩, hin, he, rfl, hb2, hon⟩; have HB2 := Lib.hid (And.intro hin (And.intro he (And.intro hon (Hb.out.trans hb2)))); clear r0 r1 r2 r3 f0 f1 f2 f3 hlt; obtain ⟨⟨r0, r1, r2, r3⟩, ⟨f0, f1, f2, f3⟩, hlt⟩ := (hR0.gr (Hb.out.trans hb2)).parts; rewrite [tm_val]; clear hin he hon hb2)
      | fail)
    refine bodyPost_ret (v := (Tm.mk kb nb sb pb cb lb).val) (by simp (maxDischargeDepth := 9) [results, Try.results161, go_sem, tm_val, r0, r1, r2, r3]) rfl ?_
    obtain ⟨hin, he, hon, hg⟩ := HB2.out
    exact hfin.out _ _ hin (he.trans Hl.out.symm) (hon.mono fun b hb => (by have : w1.heap.size ≤ b := hb; have := Hb.out.size; omega)) hg _ _ _ _
  | true =>
    have hil : i < l.length := by
      rcases Nat.lt_or_ge i l.length with h | h
      · exact h
      · rw [fnd, List.getElem?_eq_none h] at hfd; cases hfd
    have hv : l[i].v = n := by rw [fnd, List.getElem?_eq_getElem hil] at hfd; exact of_decide_eq_true hfd
    have Hl : Hid (lookupT l n = l[i].t.erase) := lookup_at l n i hil (fun t ht h => by have := HLo.out t ht h; omega) hv
    have Hff : Hid (l[i].t.erase.formed = true) := List.all_eq_true.1 Hf.out l[i] (List.getElem_mem hil)
    clear hfd hv HLo HUp
    obtain ⟨b, o, rfl⟩ := HX.out.ptr (by omega)
    obtain ⟨⟨c0, c1, c2, c3, c4⟩, hti, _, _⟩ := (HX.out.mono (gA.trans hb)).elem i hil
    have Hti := Lib.hid hti
    clear hti
    generalize l[i] = y at *
    have Hyv := Lib.hid (show y.t.val = .agg #[.int .i64 y.t.k, .int .i64 y.t.n, .string y.t.s, .slice y.t.p y.t.l.length y.t.c] from rfl)
    obtain ⟨⟨r0, r1, r2, r3⟩, ⟨f0, f1, f2, f3⟩, hlt⟩ := (hR0.gr hb).parts
    have Hb := Lib.hid hb
    clear hb
    go_wp2_with (first
      | (go_at_call 81; rewrite [← Hyv.out]; refine (copy_calls Hti.out Hff.out).mono ?_; rintro e w2 ⟨⟨kb, nb, sb, pb, cb, lb⟩, hin, he, rfl, hb2, hon⟩; have HB2 := Lib.hid (And.intro hin (And.intro he (And.intro hon (Hb.out.trans hb2)))); clear r0 r1 r2 r3 f0 f1 f2 f3 hlt; obtain ⟨⟨r0, r1, r2, r3⟩, ⟨f0, f1, f2, f3⟩, hlt⟩ := (hR0.gr (Hb.out.trans hb2)).parts; rewrite [tm_val]; clear hin he hon hb2 c0 c1 c2 c3 c4)
      | fail)
    refine bodyPost_ret (v := (Tm.mk kb nb sb pb cb lb).val) (by simp (maxDischargeDepth := 9) [results, Try.results161, go_sem, tm_val, r0, r1, r2, r3]) rfl ?_
    obtain ⟨hin, he, hon, hg⟩ := HB2.out
    exact hfin.out _ _ hin (he.trans Hl.out.symm) (hon.mono fun b hb => (by have : w1.heap.size ≤ b := hb; have := Hb.out.size; omega)) hg _ _ _ _
end Go.Proofs.Ytcblmkhhhibddaa

namespace Go.Proofs.Ytcblmkhhhibddaa
open Go.RowKit Go.Lib

set_option maxHeartbeats 4000000 in
set_option maxRecDepth 100000 in
theorem applied1_calls (p : Option Addr) (c : Nat) (l : List Bd) (Bs : Nat) (n : Int) (w : World) (hx : (Bds.mk p c l).In w) (ha : ascB (-1) l = true) (hf : (l.all fun y => y.t.erase.formed) = true) (hn : In64 n) (hB : BlkT w Bs 44 #[.slice p l.length c]) :
    Calls Try.prog 160 #[.int .i64 n, .pointer (some ⟨Bs, 0, none⟩)] w (RetTm (w.heap.size ≤ ·) (lookupT l n) w) := by
  have HX := Lib.hid hx
  have HA := Lib.hid (And.intro ha (And.intro hf hn))
  have HB := Lib.hid hB
  generalize hQ : RetTm (w.heap.size ≤ ·) (lookupT l n) w = Q
  have HQ := Lib.hid hQ
  clear hQ ha hf hn hx hB
  go_enter Try.func160, Try.ntmps160
  try simp only [List.append_eq, List.cons_append, List.nil_append]
  go_upto_region 1 with fail
  have hR0 := Blk4.new w (.int .i64 0) (.int .i64 0) (.string ⟨#[]⟩) (.slice none 0 0)
  have gA : Gr w (w.alloc (.cells #[.int .i64 0, .int .i64 0, .string ⟨#[]⟩, .slice none 0 0] 25)) := by go_grown
  have hsA : w.heap.size < (w.alloc (.cells #[.int .i64 0, .int .i64 0, .string ⟨#[]⟩, .slice none 0 0] 25)).heap.size := by simp
  generalize w.alloc (.cells #[.int .i64 0, .int .i64 0, .string ⟨#[]⟩, .slice none 0 0] 25) = wA at *
  have b0 := (HB.out.gr gA).cell 0 (v := .slice p l.length c) rfl
  go_wp2_with (first
    | (go_at_call 161; refine (to_calls p c l n wA (HX.out.mono gA) HA.out.1 HA.out.2.1 HA.out.2.2).mono ?_; rintro e w2 ⟨⟨kb, nb, sb, pb, cb, lb⟩, hin, he, rfl, hb2, hon⟩; have HB2 := Lib.hid (And.intro hin (And.intro he (And.intro hon hb2))); clear b0; obtain ⟨⟨r0, r1, r2, r3⟩, ⟨f0, f1, f2, f3⟩, hlt⟩ := (hR0.gr hb2).parts; rewrite [tm_val]; clear hin he hon hb2)
    | fail)
  refine bodyPost_ret (v := (Tm.mk kb nb sb pb cb lb).val) (by simp (maxDischargeDepth := 9) [results, Try.results160, go_sem, tm_val, r0, r1, r2, r3]) rfl ?_
  obtain ⟨hin, he, hon, hg⟩ := HB2.out
  rw [← HQ.out]
  have k4 : ∀ q0 q1 q2 q3 : Value, Kp (· = w.heap.size) w2 ((((w2.setCell ⟨w.heap.size, 0, none⟩ q0).setCell ⟨w.heap.size, 1, none⟩ q1).setCell ⟨w.heap.size, 2, none⟩ q2).setCell ⟨w.heap.size, 3, none⟩ q3) := fun _ _ _ _ => Kp.set4 (C := fun b => b = w.heap.size) rfl
  have g1 : Gr w w2 := gA.trans hg
  exact ⟨_, in_after' hin hon fun b hb hl _ => World.cell?_of_block ((k4 _ _ _ _).block b hl (by have : wA.heap.size ≤ b := hb; omega)), he, rfl, Below.trans g1 ((k4 _ _ _ _).below (fun b hb => by omega) g1.size), hon.mono fun b hb => (by have : wA.heap.size ≤ b := hb; omega)⟩

set_option maxHeartbeats 4000000 in
set_option maxRecDepth 100000 in
theorem applied_calls (t : Tm) (p : Option Addr) (c : Nat) (l : List Bd) (w : World) (ht : t.In w) (hft : t.erase.formed = true) (hx : (Bds.mk p c l).In w) (ha : ascB (-1) l = true) (hf : (l.all fun y => y.t.erase.formed) = true) :
    Calls Try.prog 112 #[t.val, .slice p l.length c] w (RetTm (w.heap.size ≤ ·) (T.map (lookupT l) t.erase) w) := by
  have hmf : ∀ (fn : Fn) (first cap : Array Value) (w : World), (Instr.makeFunc fn first cap).run Try.prog w = .ok (.func fn first cap) w := fun _ _ _ _ => rfl
  have Ht := Lib.hid (And.intro ht hft)
  have HX := Lib.hid hx
  have HA := Lib.hid (And.intro ha hf)
  generalize hQ : RetTm (w.heap.size ≤ ·) (T.map (lookupT l) t.erase) w = Q
  have HQ := Lib.hid hQ
  clear hQ ha hf hx ht hft
  have Htv := Lib.hid (show t.val = .agg #[.int .i64 t.k, .int .i64 t.n, .string t.s, .slice t.p t.l.length t.c] from rfl)
  rw [Htv.out]
  go_enter Try.func112, Try.ntmps112
  try simp only [List.append_eq, List.cons_append, List.nil_append]
  go_upto_region 1 with fail
  have hT0 := Blk4.new w (.int .i64 t.k) (.int .i64 t.n) (.string t.s) (.slice t.p t.l.length t.c)
  have g1 : Gr w (w.alloc (.cells #[.int .i64 t.k, .int .i64 t.n, .string t.s, .slice t.p t.l.length t.c] 25)) := by go_grown
  have hs1 : (w.alloc (.cells #[.int .i64 t.k, .int .i64 t.n, .string t.s, .slice t.p t.l.length t.c] 25)).heap.size = w.heap.size + 1 := World.size_alloc _ _
  generalize w.alloc (.cells #[.int .i64 t.k, .int .i64 t.n, .string t.s, .slice t.p t.l.length t.c] 25) = w1 at *
  have hS0 := BlkT.new w1 44 #[.slice p l.length c]
  have g2 : Gr w1 (w1.alloc (.cells #[.slice p l.length c] 44)) := by go_grown
  have hs2 : (w1.alloc (.cells #[.slice p l.length c] 44)).heap.size = w1.heap.size + 1 := World.size_alloc _ _
  generalize w1.alloc (.cells #[.slice p l.length c] 44) = w2 at *
  have hR0 := Blk4.new w2 (.int .i64 0) (.int .i64 0) (.string ⟨#[]⟩) (.slice none 0 0)
  have g3 : Gr w2 (w2.alloc (.cells #[.int .i64 0, .int .i64 0, .string ⟨#[]⟩, .slice none 0 0] 25)) := by go_grown
  have hs3 : (w2.alloc (.cells #[.int .i64 0, .int .i64 0, .string ⟨#[]⟩, .slice none 0 0] 25)).heap.size = w2.heap.size + 1 := World.size_alloc _ _
  generalize w2.alloc (.cells #[.int .i64 0, .int .i64 0, .string ⟨#[]⟩, .slice none 0 0] 25) = w3 at *
  rw [hs1] at hS0 hs2
  rw [hs2] at hR0 hs3
  have HT := Lib.hid ((hT0.gr g2).gr g3)
  have HS := Lib.hid (hS0.gr g3)
  have g13 : Gr w w3 := (g1.trans g2).trans g3
  have Hs3 := Lib.hid hs3
  clear hT0 hS0 hs1 hs2 hs3 g1 g2 g3
  have hmap : MapFn (.func (.func 160) #[] #[.pointer (some ⟨w.heap.size + 1, 0, none⟩)]) (fun _ => False) (lookupT l) w3 :=
    ⟨fun b h => h.elim, _, _, rfl, fun n W => by kernel_rfl, fun n W hW hn => (applied1_calls p c l (w.heap.size + 1) n W (HX.out.mono (g13.trans hW)) HA.out.1 HA.out.2 hn (HS.out.gr hW)).mono fun e w' ⟨b, h1, h2, h3, h4, h5⟩ => ⟨b, h1, h2, h3, h4, h5.mono fun _ h => .inr h⟩⟩
  have HMap := Lib.hid hmap
  clear hmap
  obtain ⟨⟨q0, q1, q2, q3⟩, _, _⟩ := HT.out.parts
  go_wp2_with (first
    | (go_at_call 136; rewrite [← Htv.out]; refine (map_calls (Tm.In_below g13 Ht.out.1) Ht.out.2 HMap.out).mono ?_; rintro e w4 ⟨⟨kb, nb, sb, pb, cb, lb⟩, hin, he, rfl, hb2, hon⟩; have HB2 := Lib.hid (And.intro hin (And.intro he (And.intro hon hb2))); clear q0 q1 q2 q3; obtain ⟨⟨r0, r1, r2, r3⟩, ⟨f0, f1, f2, f3⟩, hlt⟩ := (hR0.gr hb2).parts; rewrite [tm_val]; clear hin he hon hb2)
    | fail)
  refine bodyPost_ret (v := (Tm.mk kb nb sb pb cb lb).val) (by simp (maxDischargeDepth := 9) [results, Try.results112, go_sem, tm_val, r0, r1, r2, r3]) rfl ?_
  obtain ⟨hin, he, hon, hg⟩ := HB2.out
  rw [← HQ.out]
  have k4 : ∀ q0 q1 q2 q3 : Value, Kp (· = w.heap.size + 1 + 1) w4 ((((w4.setCell ⟨w.heap.size + 1 + 1, 0, none⟩ q0).setCell ⟨w.heap.size + 1 + 1, 1, none⟩ q1).setCell ⟨w.heap.size + 1 + 1, 2, none⟩ q2).setCell ⟨w.heap.size + 1 + 1, 3, none⟩ q3) := fun _ _ _ _ => Kp.set4 (C := fun b => b = w.heap.size + 1 + 1) rfl
  have g4 : Gr w w4 := g13.trans hg
  have hs3 := Hs3.out
  have hon2 : ∀ b, (False ∨ w3.heap.size ≤ b) → w3.heap.size ≤ b := fun b h => h.resolve_left id
  exact ⟨_, in_after' hin hon fun b hb hl _ => World.cell?_of_block ((k4 _ _ _ _).block b hl (by have := hon2 b hb; omega)), he, rfl, Below.trans g4 ((k4 _ _ _ _).below (fun b hb => by omega) g4.size), hon.mono fun b hb => (by have := hon2 b hb; omega)⟩

/-- What term.Apply tells. -/
def applyErr (t : T) (l : List Bd) : Int := if t.formed = true then bindsErr l else 2
def RetAp (t : T) (l : List Bd) (w : World) (e : Ending) (w' : World) : Prop :=
  ∃ b : Tm, e = .returned (.tuple #[b.val, .int .i64 (applyErr t l)]) ∧ b.In w' ∧ b.erase = (if applyErr t l = 0 then T.map (lookupT l) t else zeroT) ∧ Gr w w' ∧ b.On (w.heap.size ≤ ·)
theorem bindsErr_cases (l : List Bd) : (bindsErr l = 0 ∧ ascB (-1) l = true ∧ (l.all fun y => y.t.erase.formed) = true) ∨ bindsErr l = 1 ∨ bindsErr l = 2 := by
  unfold bindsErr
  by_cases h1 : (l.all fun y => y.t.erase.formed) = true
  · rw [if_pos h1]
    by_cases h2 : ascB (-1) l = true
    · rw [if_pos h2]; exact .inl ⟨rfl, h2, h1⟩
    · rw [if_neg h2]; exact .inr (.inl rfl)
  · rw [if_neg h1]; exact .inr (.inr rfl)
end Go.Proofs.Ytcblmkhhhibddaa

namespace Go.Proofs.Ytcblmkhhhibddaa
open Go.RowKit Go.Lib

set_option maxHeartbeats 4000000 in
set_option maxRecDepth 100000 in
theorem apply_calls (t : Tm) (p : Option Addr) (c : Nat) (l : List Bd) (w : World) (ht : t.In w) (hx : (Bds.mk p c l).In w) :
    Calls Try.prog 43 #[t.val, .slice p l.length c] w (RetAp t.erase l w) := by
  have Ht := Lib.hid ht
  have HX := Lib.hid hx
  generalize hQ : RetAp t.erase l w = Q
  have HQ := Lib.hid hQ
  clear hQ hx ht
  have Htv := Lib.hid (show t.val = .agg #[.int .i64 t.k, .int .i64 t.n, .string t.s, .slice t.p t.l.length t.c] from rfl)
  rw [Htv.out]
  go_enter Try.func43, Try.ntmps43
  try simp only [List.append_eq, List.cons_append, List.nil_append]
  go_upto_region 1 with fail
  obtain ⟨HB, HR, gA⟩ := two_blocks w (.int .i64 t.k) (.int .i64 t.n) (.string t.s) (.slice t.p t.l.length t.c) (.int .i64 0) (.int .i64 0) (.string ⟨#[]⟩) (.slice none 0 0)
  generalize (w.alloc (.cells #[.int .i64 t.k, .int .i64 t.n, .string t.s, .slice t.p t.l.length t.c] 25)).alloc (.cells #[.int .i64 0, .int .i64 0, .string ⟨#[]⟩, .slice none 0 0] 25) = wA at *
  have hRl := HR.out.parts.2.2
  have hk : ∀ W q0 q1 q2 q3, Kp (· = w.heap.size + 1) W ((((W.setCell ⟨w.heap.size + 1, 0, none⟩ q0).setCell ⟨w.heap.size + 1, 1, none⟩ q1).setCell ⟨w.heap.size + 1, 2, none⟩ q2).setCell ⟨w.heap.size + 1, 3, none⟩ q3) := fun W _ _ _ _ => Kp.set4 (C := fun b => b = w.heap.size + 1) rfl
  have hR0 : Hid (∀ E : Int, applyErr t.erase l = E → E ≠ 0 → ∀ w', Gr w w' → Q (.returned (.tuple #[zeroTm.val, .int .i64 E])) w') := fun E hE hE0 w' hg => by
    rw [← HQ.out]; exact ⟨zeroTm, by rw [hE], zeroTm_in _, by rw [hE, if_neg hE0, zeroTm_erase], hg, by rw [zeroTm, Tm.On, Tm.OnL]; exact ⟨.inl rfl, trivial⟩⟩
  obtain ⟨⟨t0, t1, t2, t3⟩, _, _⟩ := HB.out.parts
  have Hk := Lib.hid hk
  clear hk
  cases hf : t.erase.formed with
  | false =>
    have hE := Lib.hid (show applyErr t.erase l = 2 by rw [applyErr, hf]; rfl)
    have Hf := Lib.hid hf
    clear hf
    go_wp2_with (first
      | (go_at_call 95; rewrite [← Htv.out]; refine (formed_calls (t := t) (Tm.In_below gA Ht.out)).mono ?_; rw [Hf.out]; rintro e w1 ⟨rfl, hb⟩; have g1 : Gr wA w1 := hb; obtain ⟨⟨r0, r1, r2, r3⟩, ⟨f0, f1, f2, f3⟩, hlt⟩ := (HR.out.gr g1).parts; clear hb t0 t1 t2 t3)
      | fail)
    refine bodyPost_ret (v := .tuple #[zeroTm.val, .int .i64 2]) (by simp (maxDischargeDepth := 9) [results, Try.results43, go_sem, zeroTm, tm_val, r0, r1, r2, r3]) rfl ?_
    exact hR0.out 2 hE.out (by decide) _ (Below.trans (gA.trans g1) ((Hk.out _ _ _ _ _).below (fun b hb => by omega) (gA.trans g1).size))
  | true =>
    have Hf := Lib.hid hf
    have HA := Lib.hid (show applyErr t.erase l = bindsErr l by rw [applyErr, hf]; rfl)
    clear hf
    go_upto_region 4 with (first
      | (go_at_call 95; rewrite [← Htv.out]; refine (formed_calls (t := t) (Tm.In_below gA Ht.out)).mono ?_; rw [Hf.out]; rintro e w1 ⟨rfl, hb⟩; have g1 : Gr wA w1 := hb; clear hb t0 t1 t2 t3)
      | (go_at_call 111; refine (checkBinds_calls p c l _ (HX.out.mono (gA.trans g1))).mono ?_; rintro e w2 ⟨rfl, hb⟩; have g2 : Gr wA w2 := g1.trans hb; clear hb)
      | fail)
    obtain ⟨⟨r0, r1, r2, r3⟩, ⟨f0, f1, f2, f3⟩, hlt⟩ := (HR.out.gr g2).parts
    rcases bindsErr_cases l with ⟨h0, ha, hff⟩ | h1
    · have HA2 := Lib.hid (And.intro ha hff)
      have HA0 := Lib.hid (HA.out.trans h0)
      clear ha hff
      rewrite [h0]
      clear h0
      obtain ⟨⟨t0, t1, t2, t3⟩, _, _⟩ := (HB.out.gr g2).parts
      clear r0 r1 r2 r3 f0 f1 f2 f3 hlt
      go_wp2_with (first
        | (go_at_call 112; rewrite [← Htv.out]; refine (applied_calls t p c l _ (Tm.In_below (gA.trans g2) Ht.out) Hf.out (HX.out.mono (gA.trans g2)) HA2.out.1 HA2.out.2).mono ?_; rintro e w3 ⟨⟨kb, nb, sb, pb, cb, lb⟩, hin, he, rfl, hb, hon⟩; have HB2 := Lib.hid (And.intro hin (And.intro he (And.intro hon (g2.trans hb)))); obtain ⟨⟨r0, r1, r2, r3⟩, ⟨f0, f1, f2, f3⟩, hlt⟩ := (HR.out.gr (g2.trans hb)).parts; rewrite [tm_val]; clear hin he hon hb t0 t1 t2 t3)
        | fail)
      refine bodyPost_ret (v := .tuple #[(Tm.mk kb nb sb pb cb lb).val, .int .i64 0]) (by simp (maxDischargeDepth := 9) [results, Try.results43, go_sem, tm_val, r0, r1, r2, r3]) rfl ?_
      obtain ⟨hin, he, hon, hg⟩ := HB2.out
      rw [← HQ.out]
      have g3 : Gr w w3 := gA.trans hg
      have hs2 := g2.size
      exact ⟨_, by rw [HA0.out], in_after' hin hon fun b hb hl _ => World.cell?_of_block ((Hk.out _ _ _ _ _).block b hl (by have : w2.heap.size ≤ b := hb; omega)), by rw [HA0.out, if_pos rfl]; exact he, Below.trans g3 ((Hk.out _ _ _ _ _).below (fun b hb => by omega) g3.size), hon.mono fun b hb => (by have : w2.heap.size ≤ b := hb; omega)⟩
    · have HE := Lib.hid (show bindsErr l ≠ 0 by omega)
      have hne : (bindsErr l != 0) = true := by simpa [bne_iff_ne] using HE.out
      clear h1
      go_wp2_with fail
      refine bodyPost_ret (v := .tuple #[zeroTm.val, .int .i64 (bindsErr l)]) (by simp (maxDischargeDepth := 9) [results, Try.results43, go_sem, zeroTm, tm_val, r0, r1, r2, r3]) rfl ?_
      exact hR0.out _ HA.out HE.out _ (Below.trans (gA.trans g2) ((Hk.out _ _ _ _ _).below (fun b hb => by omega) (gA.trans g2).size))
end Go.Proofs.Ytcblmkhhhibddaa

namespace Go.Proofs.Ytcblmkhhhibddaa
open Go.RowKit Go.Maps

/-- Block b is a map all of whose keys are such; when each entry was laid. -/
def Stm {K : Type} (κ : K → Value) (w : World) (b : Nat) : Prop :=
  ∃ (E : Array MapEntry) (c : Nat), w.heap[b]? = some (.map E c) ∧ (∀ e ∈ E.toList, (∃ x, e.key = κ x) ∧ e.born < c) ∧ (E.toList.map (·.born)).Nodup

section
variable {K : Type} {k : TypeId} {κ : K → Value} {w w' : World} {b : Nat} {f : K → Option Value}
theorem Stm.kp {C : Nat → Prop} (h : Stm κ w b) (hg : Kp C w w') (hb : ¬ C b) : Stm κ w' b := by
  obtain ⟨E, c, h1, h2⟩ := h
  exact ⟨E, c, (hg.block b (Array.getElem?_eq_some_iff.1 h1).1 hb).trans h1, h2⟩
theorem Stm.gr (h : Stm κ w b) (hg : Gr w w') : Stm κ w' b := h.kp (C := fun _ => False) (Kp.of_gr hg) id
theorem Stm.made (κ : K → Value) (w : World) : Stm κ (w.alloc (.map #[] 0)) w.heap.size := ⟨#[], 0, heap_alloc_new _ _, (fun _ h => by cases h), List.nodup_nil⟩

set_option maxRecDepth 100000 in
/-- A store keeps both. -/
theorem GMap.updateS (h : GMap k κ w b f) (hs : Stm κ w b) (KK : Keyed Try.prog k) {t e : TypeId} (ht : Try.prog.underlying t = some (.map k e)) {x : K} {l : Lit} (hx : keyOf Try.prog k (κ x) = some l) (hinj : ∀ y, κ y = κ x → y = x) (v : Value)
    {g : K → Option Value} (hg1 : g x = some v) (hg2 : ∀ y, y ≠ x → g y = f y) :
    ∃ w', (Instr.mapUpdate t (.map (some b)) (κ x) v).run Try.prog w = .ok () w' ∧ GMap k κ w' b g ∧ w.grownBy w' (some b) ∧ Stm κ w' b := by
  obtain ⟨w1, hr1, hg, hgb⟩ := h.update KK ht hx hinj v hg1 hg2
  refine ⟨w1, hr1, hg, hgb, ?_⟩
  obtain ⟨E, c, hb, hk, hn, hf⟩ := h
  obtain ⟨E', c', hb', hst, hbn⟩ := hs
  rw [hb] at hb'
  cases hb'
  rcases KK.find w hx E.toList hk with ⟨h1, h2⟩ | ⟨j, e0, h1, h2, h3⟩
  · have hrun : (Instr.mapUpdate t (.map (some b)) (κ x) v).run Try.prog w = .ok () (ChangeMaps.setBlock w b (.map (E.push ⟨κ x, v, c⟩) (c + 1))) := by
      simp [Instr.mapUpdate, run_underlying ht, MapKept.run_getObj_map hb, KK.check w false hx, h1, MapKept.run_setObj_map _ hb, Result.andThen, ChangeMaps.setBlock]
    rw [hr1] at hrun
    have hw := (Result.ok.inj hrun).2
    rw [hw]
    refine ⟨_, _, ChangeMaps.heap_setBlock_same hb _, fun e he => ?_, ?_⟩
    · rw [Array.toList_push, List.mem_append, List.mem_singleton] at he
      rcases he with he | rfl
      · exact ⟨(hst e he).1, by have := (hst e he).2; omega⟩
      · exact ⟨⟨x, rfl⟩, Nat.lt_succ_self _⟩
    · rw [Array.toList_push, List.map_append, List.nodup_append]
      refine ⟨hbn, by simp, ?_⟩
      intro a ha d hd
      obtain ⟨e, he, rfl⟩ := List.mem_map.1 ha
      simp only [List.map_cons, List.map_nil, List.mem_singleton] at hd
      subst hd
      exact Nat.ne_of_lt (hst e he).2
  · have hj : E[j]? = some e0 := by simpa using h2
    have hrun : (Instr.mapUpdate t (.map (some b)) (κ x) v).run Try.prog w = .ok () (ChangeMaps.setBlock w b (.map (E.modify j fun e => { e with key := κ x, val := v }) c)) := by
      simp [Instr.mapUpdate, run_underlying ht, MapKept.run_getObj_map hb, KK.check w false hx, h1, hj, h3, KK.stays w hx, MapKept.run_setObj_map _ hb, Result.andThen, ChangeMaps.setBlock]
    rw [hr1] at hrun
    have hw := (Result.ok.inj hrun).2
    rw [hw]
    have hM : (E.modify j fun e => { e with key := κ x, val := v }).toList = E.toList.modify j fun e => { e with key := κ x, val := v } := Array.toList_modify ..
    refine ⟨_, _, ChangeMaps.heap_setBlock_same hb _, fun e he => ?_, ?_⟩
    · rw [hM] at he
      obtain ⟨i, hi, hie⟩ := List.getElem_of_mem he
      rw [List.getElem_modify] at hie
      have hil : i < E.toList.length := by simpa using hi
      by_cases hji : j = i
      · rw [if_pos hji] at hie
        rw [← hie]
        exact ⟨⟨x, rfl⟩, (hst _ (List.getElem_mem hil)).2⟩
      · rw [if_neg hji] at hie
        rw [← hie]
        exact hst _ (List.getElem_mem hil)
    · rw [hM]
      have : (E.toList.modify j fun e => { e with key := κ x, val := v }).map (·.born) = E.toList.map (·.born) := by
        apply List.ext_getElem (by simp)
        intro i h1 h2
        simp only [List.getElem_map, List.getElem_modify]
        split <;> rfl
      rw [this]
      exact hbn
end

/-- A list of numbers below M, each once, is no longer than M. -/
theorem nodup_le : ∀ (M : Nat) (l : List Int), l.Nodup → (∀ x ∈ l, 0 ≤ x ∧ x < M) → l.length ≤ M
  | 0, l, _, h => by
    cases l with
    | nil => exact Nat.le_refl _
    | cons x xs => have := h x (by simp); omega
  | M + 1, l, hn, h => by
    by_cases hm : (M : Int) ∈ l
    · have h1 := nodup_le M (l.erase M) (hn.erase _) fun x hx => by
        have h2 := h x (List.mem_of_mem_erase hx)
        have h3 : x ≠ M := fun e => by subst e; exact (List.Nodup.not_mem_erase hn) hx
        omega
      rw [List.length_erase_of_mem hm] at h1
      omega
    · have h1 := nodup_le M l hn fun x hx => by
        have h2 := h x hx
        have h3 : x ≠ M := fun e => hm (e ▸ hx)
        omega
      omega
end Go.Proofs.Ytcblmkhhhibddaa

namespace Go.Proofs.Ytcblmkhhhibddaa
open Go.RowKit Go.Maps Go.Lib

def kI64 (n : Int) : Value := .int .i64 n
theorem kI64_inj {x y : Int} (h : kI64 y = kI64 x) : y = x := by simpa [kI64] using h

/-- A map from variables to terms that lie on S. -/
def TMap (S : Nat → Prop) (w : World) (b : Nat) (f : Int → Option T) : Prop :=
  (∃ g, GMap 2 kI64 w b g ∧ ∀ n, match f n with
    | none => g n = none
    | some t => ∃ tm : Tm, g n = some tm.val ∧ tm.In w ∧ tm.erase = t ∧ t.formed = true ∧ tm.On S) ∧ Stm kI64 w b ∧ ∀ n, f n ≠ none → 0 ≤ n ∧ n ≤ 1099511627776

theorem infoBd : (Try.prog.info? 117).map (fun i => (i.zero, i.size, i.bytes)) = some (some (.agg #[.int .i64 0, .int .i64 0, .int .i64 0, .string ⟨#[]⟩, .slice none 0 0]), 5, 64) := by kernel_rfl

theorem TMap.kp {S C : Nat → Prop} {w w' : World} {b : Nat} {f : Int → Option T} (h : TMap S w b f) (hk : Kp C w w') (hb : ¬ C b) (hS : ∀ x, S x → ¬ C x) : TMap S w' b f := by
  obtain ⟨⟨g, h1, h2⟩, h3, h4⟩ := h
  refine ⟨⟨g, h1.kp hk hb, fun n => ?_⟩, h3.kp hk hb, h4⟩
  have := h2 n
  cases hf : f n with
  | none => rw [hf] at this; exact this
  | some t =>
    rw [hf] at this
    obtain ⟨tm, i1, i2, i3, i4, i5⟩ := this
    exact ⟨tm, i1, in_after' i2 i5 fun x hx hl _ => World.cell?_of_block (hk.block x hl (hS x hx)), i3, i4, i5⟩

/-- What lies in a map: each entry's key and value. -/
theorem TMap.entries {S : Nat → Prop} {w : World} {b : Nat} {f : Int → Option T} (h : TMap S w b f) : ∃ (E : Array MapEntry) (c : Nat), w.heap[b]? = some (.map E c) ∧ (∀ e ∈ E.toList, e.born < c) ∧ (E.toList.map (·.born)).Nodup ∧ (E.toList.map (·.key)).Nodup ∧
    (∀ e ∈ E.toList, ∃ (n : Int) (tm : Tm), e.key = kI64 n ∧ e.val = tm.val ∧ f n = some tm.erase ∧ tm.In w ∧ tm.erase.formed = true ∧ tm.On S ∧ 0 ≤ n ∧ n ≤ 1099511627776) ∧
    ∀ n t, f n = some t → ∃ e ∈ E.toList, e.key = kI64 n := by
  obtain ⟨⟨g, ⟨E, c, hb, hk, hn, hf⟩, h2⟩, ⟨E', c', hb', hst, hbn⟩, h4⟩ := h
  rw [hb] at hb'
  cases hb'
  refine ⟨E, _, hb, fun e he => (hst e he).2, hbn, hn, fun e he => ?_, fun n t ht => ?_⟩
  · obtain ⟨n, hkey⟩ := (hst e he).1
    have hg : g n = some e.val := (hf n e.val).2 ⟨e, he, hkey, rfl⟩
    have h5 := h2 n
    cases hfn : f n with
    | none => rw [hfn] at h5; simp only at h5; rw [hg] at h5; cases h5
    | some t =>
      rw [hfn] at h5
      obtain ⟨tm, i1, i2, i3, i4, i5⟩ := h5
      rw [hg] at i1
      have h6 := h4 n (by rw [hfn]; simp)
      exact ⟨n, tm, hkey, Option.some.inj i1, by rw [hfn, i3], i2, by rw [i3]; exact i4, i5, h6.1, h6.2⟩
  · have h5 := h2 n
    rw [ht] at h5
    obtain ⟨tm, i1, _⟩ := h5
    obtain ⟨e, he, hek, _⟩ := (hf n tm.val).1 i1
    exact ⟨e, he, hek⟩
end Go.Proofs.Ytcblmkhhhibddaa
