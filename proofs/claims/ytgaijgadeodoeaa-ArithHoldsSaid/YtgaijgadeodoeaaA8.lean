/-
  arith.Missing, arith.eval
-/
import Derived.Test.YtgaijgadeodoeaaA7
import Derived.Test.YtgaijgadeodoeaaM
namespace Go.Proofs.Ytgaijgadeodoeaa
open Go.RowKit

def intTm (n : Int) : Tm := .mk 2 n ⟨#[]⟩ none 0 []
@[simp] theorem atomTm_k (s : ByteArray) : (atomTm s).k = 3 := rfl
@[simp] theorem atomTm_n (s : ByteArray) : (atomTm s).n = 0 := rfl
@[simp] theorem atomTm_s (s : ByteArray) : (atomTm s).s = s := rfl
@[simp] theorem atomTm_p (s : ByteArray) : (atomTm s).p = none := rfl
@[simp] theorem atomTm_c (s : ByteArray) : (atomTm s).c = 0 := rfl
@[simp] theorem atomTm_l (s : ByteArray) : (atomTm s).l = [] := rfl
@[simp] theorem intTm_k (n : Int) : (intTm n).k = 2 := rfl
@[simp] theorem intTm_n (n : Int) : (intTm n).n = n := rfl
@[simp] theorem intTm_s (n : Int) : (intTm n).s = ⟨#[]⟩ := rfl
@[simp] theorem intTm_p (n : Int) : (intTm n).p = none := rfl
@[simp] theorem intTm_c (n : Int) : (intTm n).c = 0 := rfl
@[simp] theorem intTm_l (n : Int) : (intTm n).l = [] := rfl
theorem intTm_on {S : Nat → Prop} (n : Int) : (intTm n).On S := by
  rw [intTm, Tm.On, Tm.OnL]; exact ⟨.inl rfl, trivial⟩
theorem atomTm_on {S : Nat → Prop} (s : ByteArray) : (atomTm s).On S := by
  rw [atomTm, Tm.On, Tm.OnL]; exact ⟨.inl rfl, trivial⟩
theorem intTm_erase (n : Int) : (intTm n).erase = intT n := by
  simp [intTm, intT, Tm.erase, Tm.eraseL]
theorem intTm_in {n : Int} (h : In64 n) (w : World) : (intTm n).In w := by
  rw [intTm, Tm.In, Tm.InL]
  exact ⟨⟨by omega, by omega⟩, h, by decide, Nat.le_refl _, ⟨by simp, by omega⟩, .inl rfl, trivial⟩

theorem one_row {t : Tm} {w : World} {b : Nat} (ht : t.In w)
    (c0 : w.cell? ⟨b, 0, none⟩ = some (.int .i64 t.k)) (c1 : w.cell? ⟨b, 1, none⟩ = some (.int .i64 t.n)) (c2 : w.cell? ⟨b, 2, none⟩ = some (.string t.s)) (c3 : w.cell? ⟨b, 3, none⟩ = some (.slice t.p t.l.length t.c)) :
    Tm.Sl w (some ⟨b, 0, none⟩) 1 [t] := by
  refine ⟨Nat.le_refl _, ⟨by simp, by simp⟩, .inr ⟨b, 0, rfl, ?_⟩, Tm.InL_of fun x hx => ?_⟩
  · intro i x hx
    match i, hx with
    | 0, hx => cases hx; exact ⟨c0, c1, c2, c3⟩
  · simp only [List.mem_cons, List.mem_nil_iff, or_false] at hx
    rw [hx]; exact ht

/-- A compound over a slice of terms. -/
def compTm (s : ByteArray) (p : Option Addr) (c : Nat) (l : List Tm) : Tm := .mk 4 0 s p c l
theorem compTm_in {s : ByteArray} {p : Option Addr} {c : Nat} {l : List Tm} {w : World} (hs : s.size ≤ 140737488351232) (h : Tm.Sl w p c l) : (compTm s p c l).In w := by
  rw [compTm, Tm.In]
  exact ⟨⟨by omega, by omega⟩, ⟨by omega, by omega⟩, hs, h.1, h.2.1, h.2.2.1, h.2.2.2⟩

set_option maxHeartbeats 400000 in
theorem comp_calls (s : ByteArray) (p : Option Addr) (n c : Nat) (w : World) : Calls Try.prog 73 #[.string s, .slice p n c] w (Ret (.agg #[.int .i64 4, .int .i64 0, .string s, .slice p n c]) w) := by
  go_enter Try.func73, Try.ntmps73
  go_wp2_with fail
  exact bodyPost_ret (v := .agg #[.int .i64 4, .int .i64 0, .string s, .slice p n c]) (by simp [results, Try.results73, go_sem]) rfl ⟨rfl, by go_grown⟩

set_option maxHeartbeats 400000 in
theorem int_calls (n : Int) (w : World) : Calls Try.prog 98 #[.int .i64 n] w (Ret (intTm n).val w) := by
  go_enter Try.func98, Try.ntmps98
  go_wp2_with fail
  exact bodyPost_ret (v := .agg #[.int .i64 2, .int .i64 n, .string ⟨#[]⟩, .slice none 0 0]) (by simp [results, Try.results98, go_sem]) rfl ⟨rfl, by go_grown⟩

set_option maxHeartbeats 400000 in
theorem missing_calls {t : Tm} {w : World} (m : ByteArray) (h : t.In w) (hm : m.size ≤ 140737488351232) (hmm : m.toList = sNotEval) :
    Calls Try.prog 102 #[.string m, t.val] w (RetTm (w.heap.size ≤ ·) (missingT t.s.toList t.l.length) w) := by
  obtain ⟨k, n, s, p, c, l⟩ := t
  rw [Tm.In] at h
  obtain ⟨_, _, hs, hl, hc, _, _⟩ := h
  simp only [Tm.val, Tm.k, Tm.n, Tm.s, Tm.p, Tm.c, Tm.l]
  have Hm := Lib.hid hm
  have Hmm := Lib.hid hmm
  have Hs := Lib.hid hs
  have hlen : In64 (l.length : Int) := ⟨by omega, by omega⟩
  have Hlen := Lib.hid hlen
  clear hm hmm hlen
  go_enter Try.func102, Try.ntmps102
  go_wp2_with fail
  refine wp_region_rely_tail 12 [fx (.string m), fx (.pointer (some ⟨w.heap.size, 2, none⟩)), fx (.string s), fx (.agg #[.int .i64 3, .int .i64 0, .string s, .slice none 0 0]), fx (.pointer (some ⟨w.heap.size, 3, none⟩)), fx (.slice p l.length c), fx (.int .i64 l.length), fx (.agg #[.int .i64 2, .int .i64 l.length, .string ⟨#[]⟩, .slice none 0 0]),
      slAt (fun b => w.heap.size + 1 < b) [atomTm s, intTm l.length], tmIs (fun b => w.heap.size + 1 < b) (compT [47] [atomT s.toList, intT l.length]), slIs (fun b => w.heap.size + 1 < b) [compT [47] [atomT s.toList, intT l.length]], tmIs (fun b => w.heap.size + 1 < b) (missingT s.toList l.length)]
      (by kernel_rfl) (by kernel_rfl) (by decide) (by repeat (first | exact Stable.nil | refine Stable.fix ?_ | refine Stable.cons slAt_stable ?_ | refine Stable.cons tmIs_stable ?_ | refine Stable.cons slIs_stable ?_)) ?_ ?_
  · refine ⟨?_, ?_, ?_, ?_, ?_, ?_, ?_, ?_, ?a8, ?a9, ?a10, ?a11, trivial⟩
    all_goals
      intro a w1 hg hold
      have h0 : a.tmps[0]?.getD undef = .string m := hold 0 rfl
      have h3 : a.tmps[3]?.getD undef = .pointer (some ⟨w.heap.size, 0, none⟩) := hold 3 rfl
      clear hold
      have z1 : w1.cell? ⟨w.heap.size, 2, none⟩ = some (.string s) := Gr.at hg (by go_cell)
      have z2 : w1.cell? ⟨w.heap.size, 3, none⟩ = some (.slice p l.length c) := Gr.at hg (by go_cell)
      simp [predsImp, Region.binds, dstAt, fx]
      intros
      rename_i K hK
      go_simp
    case a8 =>
      have hsz := hg.size
      simp only [World.size_alloc] at hsz
      exact hK _ _ ⟨_, _, rfl, two_row (t := atomTm s) (u := intTm l.length) (atomTm_in Hs.out _) (intTm_in Hlen.out _) (by go_cell) (by go_cell) (by go_cell) (by go_cell) (by go_cell) (by go_cell) (by go_cell) (by go_cell),
        .inr ⟨_, _, rfl, by omega⟩, Tm.OnL_of fun x hx => by
          simp only [List.mem_cons, List.mem_nil_iff, or_false] at hx
          rcases hx with rfl | rfl
          · exact atomTm_on _
          · exact intTm_on _⟩ (by go_grown)
    case a9 =>
      have hp : slAt (fun b => w.heap.size + 1 < b) [atomTm s, intTm l.length] (a.tmps[13]?.getD undef) w1 := by assumption
      obtain ⟨p', c', hv, hsl, hon⟩ := hp
      rw [hv]
      refine (comp_calls _ _ _ _ _).mono ?_
      rintro e w2 ⟨rfl, hb2⟩
      refine hK _ _ ⟨compTm ⟨#[47]⟩ p' c' [atomTm s, intTm l.length], rfl, compTm_in (by decide) (hsl.mono hb2), ?_, hon⟩ hb2
      simp [compTm, compT, Tm.erase, Tm.eraseL, atomTm_erase, intTm_erase]
    case a10 =>
      have hsz := hg.size
      simp only [World.size_alloc] at hsz
      have hp : tmIs (fun b => w.heap.size + 1 < b) (compT [47] [atomT s.toList, intT l.length]) (a.tmps[14]?.getD undef) w1 := by assumption
      obtain ⟨b, hv, hin, he, hon⟩ := hp
      simp only [Tm.val] at hv
      go_simp
      exact hK _ _ ⟨_, _, [b], rfl, one_row (t := b) (Tm.In_below (by go_grown) hin) (by go_cell) (by go_cell) (by go_cell) (by go_cell), by rw [Tm.eraseL, Tm.eraseL, he], .inr ⟨_, _, rfl, by omega⟩, by rw [Tm.OnL, Tm.OnL]; exact ⟨hon, trivial⟩⟩ (by go_grown)
    case a11 =>
      have hp : slIs (fun b => w.heap.size + 1 < b) [compT [47] [atomT s.toList, intT l.length]] (a.tmps[15]?.getD undef) w1 := by assumption
      obtain ⟨p', c', k', hv, hsl, he, hon⟩ := hp
      rw [hv]
      refine (comp_calls _ _ _ _ _).mono ?_
      rintro e w2 ⟨rfl, hb2⟩
      refine hK _ _ ⟨compTm m p' c' k', rfl, compTm_in Hm.out (hsl.mono hb2), ?_, hon⟩ hb2
      simp [compTm, Tm.erase, he, Hmm.out, missingT, compT]
    all_goals first
      | exact hK _ _ rfl (Gr.rfl' _)
      | (refine (atom_calls _ _).mono ?_
         rintro e w2 ⟨rfl, hb2⟩
         exact hK _ _ rfl hb2)
      | (refine (int_calls _ _).mono ?_
         rintro e w2 ⟨rfl, hb2⟩
         exact hK _ _ rfl hb2)
  · intro w1 hg
    have hg0 : Gr w w1 := below_step hg (by go_grown)
    have f0 : w1.frozen? ⟨w.heap.size + 1, 0, none⟩ = false := Gr.fz (v := .int .i64 0) hg (by go_cell) (by simp [go_sem])
    have f1 : w1.frozen? ⟨w.heap.size + 1, 1, none⟩ = false := Gr.fz (v := .int .i64 0) hg (by go_cell) (by simp [go_sem])
    have f2 : w1.frozen? ⟨w.heap.size + 1, 2, none⟩ = false := Gr.fz (v := .string ⟨#[]⟩) hg (by go_cell) (by simp [go_sem])
    have f3 : w1.frozen? ⟨w.heap.size + 1, 3, none⟩ = false := Gr.fz (v := .slice none 0 0) hg (by go_cell) (by simp [go_sem])
    have q0 : w1.cell? ⟨w.heap.size + 1, 0, none⟩ = some (.int .i64 0) := Gr.at hg (by go_cell)
    have q1 : w1.cell? ⟨w.heap.size + 1, 1, none⟩ = some (.int .i64 0) := Gr.at hg (by go_cell)
    have q2 : w1.cell? ⟨w.heap.size + 1, 2, none⟩ = some (.string ⟨#[]⟩) := Gr.at hg (by go_cell)
    have q3 : w1.cell? ⟨w.heap.size + 1, 3, none⟩ = some (.slice none 0 0) := Gr.at hg (by go_cell)
    rintro _ rfl _ rfl _ rfl _ rfl _ rfl _ rfl _ rfl _ rfl _ ⟨p1, c1, rfl, _, _⟩ _ ⟨b1, rfl, _, _, _⟩ _ ⟨p2, c2, k2, rfl, _, _, _⟩ _ ⟨b2, rfl, hin, he, hon⟩
    have Hin := Lib.hid hin
    have Hon := Lib.hid hon
    clear hin hon
    simp only [finAll, Act.put, List.setIfInBounds_toArray, List.set_cons_succ, List.set_cons_zero, Tm.val, List.drop_succ_cons, List.drop_zero, List.take_zero]
    go_wp2_with fail
    refine bodyPost_ret (v := b2.val) (by simp [results, Try.results102, go_sem, Tm.val, q0, q1, q2, q3]) rfl ⟨b2, ?_, he, rfl, by go_grown, Hon.out.mono fun b hb => by omega⟩
    exact Tm.In.same (fun b hb o => by rw [cell_set_ne (by omega), cell_set_ne (by omega), cell_set_ne (by omega), cell_set_ne (by omega)]) Hin.out Hon.out
end Go.Proofs.Ytgaijgadeodoeaa
