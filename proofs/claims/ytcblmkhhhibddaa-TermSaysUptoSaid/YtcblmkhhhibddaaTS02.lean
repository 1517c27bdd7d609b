/-
  term.formed
  Slices of terms; term.All
  An argument of type api.Term that can be read is a term that lies in the world.
-/
import Derived.Test.YtcblmkhhhibddaaTS01
import Derived.ProofKit
import Derived.OpenShut
import Derived.ShutString
import Derived.ChangeOld
import Derived.Lib.SmallJoins
namespace Go.Proofs.Ytcblmkhhhibddaa
open Go.RowKit

theorem formedL_take (l : List Tm) (k : Nat) (hk : k < l.length) : T.formedL (Tm.eraseL (l.take (k + 1))) = (T.formedL (Tm.eraseL (l.take k)) && l[k].erase.formed) := by
  induction l generalizing k with
  | nil => exact absurd hk (by simp)
  | cons x xs ih =>
    cases k with
    | zero => simp [Tm.eraseL, T.formedL]
    | succ k =>
      simp only [List.length_cons] at hk
      simp only [List.take_succ_cons, Tm.eraseL, T.formedL, List.getElem_cons_succ]
      rw [ih k (by omega), Bool.and_assoc]

theorem formedL_false {l : List Tm} {x : Tm} (h : x ∈ l) (hx : x.erase.formed = false) : T.formedL (Tm.eraseL l) = false := by
  induction l with
  | nil => simp at h
  | cons y ys ih =>
    rw [Tm.eraseL, T.formedL]
    rcases List.mem_cons.1 h with rfl | h
    · rw [hx]; rfl
    · rw [ih h, Bool.and_false]

theorem ret_bool {a b : Bool} {w w' : World} (h : a = b) (hb : Below w.heap.size w w') : Ret (.bool b) w (.returned (.bool a)) w' := ⟨by rw [h], hb⟩


set_option maxHeartbeats 400000 in
set_option maxRecDepth 100000 in
theorem formed_leaf (k n : Int) (s : ByteArray) (p : Option Addr) (c : Nat) (l : List Tm) (w : World) (h : (Tm.mk k n s p c l).In w) (hk4 : k ≠ 4) :
    Calls Try.prog 95 #[(Tm.mk k n s p c l).val] w (Ret (.bool (T.formed (Tm.mk k n s p c l).erase)) w) := by
  rw [Tm.In] at h
  obtain ⟨⟨hk5, hk6⟩, ⟨hn1, hn2⟩, hs, hl, hc, _, _⟩ := h
  simp only [Tm.val, Tm.k, Tm.n, Tm.s, Tm.p, Tm.c, Tm.l, Tm.erase, T.formed, Tm.eraseL_length, toList_length]
  generalize hr : (if k = 1 then _ else _ : Bool) = r
  have Hr := Lib.hid hr
  clear hr
  by_cases hk1 : k = 1
  · subst hk1
    go_enter Try.func95, Try.ntmps95
    go_wp2_with fail
    all_goals
      go_ret
      refine ret_bool ?_ (by go_grown)
      refine Eq.trans ?_ Hr.out
      clear Hr
      first | (simp [*, len_beq_zero]; done) | (simp_all; done) | (simp_all; omega)
  by_cases hk2 : k = 2
  · subst hk2
    go_enter Try.func95, Try.ntmps95
    go_wp2_with fail
    all_goals
      go_ret
      refine ret_bool ?_ (by go_grown)
      refine Eq.trans ?_ Hr.out
      clear Hr
      first | (simp [*, len_beq_zero]; done) | (simp_all [len_beq_zero]; done) | (simp_all [len_beq_zero]; omega)
  by_cases hk3 : k = 3
  · subst hk3
    go_enter Try.func95, Try.ntmps95
    go_wp2_with fail
    all_goals
      go_ret
      refine ret_bool ?_ (by go_grown)
      refine Eq.trans ?_ Hr.out
      clear Hr
      first | (simp [*, len_beq_zero]; done) | (simp_all [len_beq_zero]; done) | (simp_all [len_beq_zero]; omega)
  · go_enter Try.func95, Try.ntmps95
    go_wp2_with fail
    go_ret
    refine ret_bool ?_ (by go_grown)
    refine Eq.trans ?_ Hr.out
    simp [hk1, hk2, hk3, hk4]

set_option maxHeartbeats 400000 in
set_option maxRecDepth 100000 in
theorem formed_any (N : Nat) : ∀ (t : Tm) (w : World), SizeOf.sizeOf t ≤ N → t.In w →
    Calls Try.prog 95 #[t.val] w (Ret (.bool (T.formed t.erase)) w) := by
  induction N with
  | zero => intro t w h _; cases t; simp at h
  | succ N ih =>
    intro t w hN h
    obtain ⟨k, n, s, p, c, l⟩ := t
    by_cases hk4 : k = 4
    · subst hk4
      have hsz := fun x (hx : x ∈ l) => Tm.sizeOf_mem hx 4 n s p c
      rw [Tm.In] at h
      obtain ⟨_, _, hs, hl, hc, hp, hIn⟩ := h
      have Hp := Lib.hid hp
      have HIn := Lib.hid hIn
      have Hsz := Lib.hid hsz
      have Hih := Lib.hid ih
      clear hp hIn hsz ih
      simp only [Tm.val, Tm.k, Tm.n, Tm.s, Tm.p, Tm.c, Tm.l, Tm.erase, T.formed, Tm.eraseL_length, toList_length]
      generalize hr : (if (4 : Int) = 1 then _ else _ : Bool) = r
      have Hr := Lib.hid hr
      clear hr
      by_cases hg : n = 0 ∧ s.size ≤ 100 ∧ 1 ≤ l.length ∧ l.length ≤ 50
      · obtain ⟨rfl, h2, h3, h4⟩ := hg
        rcases Hp.out with rfl | ⟨b, o, rfl, hrow⟩
        · simp at h3
        have Hrow := Lib.hid hrow
        have Hfin : Hid (r = T.formedL (Tm.eraseL l)) := by refine Hr.out.symm.trans ?_; simp [h2, h3, h4]
        have hbl : b < w.heap.size := Tm.row_lt hrow (by rintro rfl; simp at h3)
        clear hrow Hp Hr
        go_enter Try.func95, Try.ntmps95
        go_wp2_with fail
        go_loopw [82] (fun i wr => ∃ k : Nat, k ≤ l.length ∧ i = .int .i64 k ∧ Hid (T.formedL (Tm.eraseL (l.take k)) = true) ∧ Below w.heap.size w wr)
          (fun i _ => l.length - (intOf i).toNat)
        case atStart => exact ⟨0, Nat.zero_le _, rfl, rfl, by go_grown⟩
        case round =>
          obtain ⟨k, hk, rfl, hpre, hb⟩ := hrel
          have hbs := hb.size
          by_cases hlt : k < l.length
          · obtain ⟨c0, c1, c2, c3⟩ := Tm.row_mono Hrow.out (fun o' => hb.cell (p := ⟨b, o', none⟩) hbl) k l[k] (List.getElem?_eq_getElem hlt)
            have hmem : l[k] ∈ l := List.getElem_mem hlt
            have hx : Hid (l[k].In wr) := Tm.In_below (hb.mono (by omega)) (Tm.InL_mem HIn.out _ hmem)
            have Hz := Hsz.out _ hmem
            generalize hxe : l[k] = x at *
            go_wp2_with fail
            refine (Hih.out x _ (by omega) (Tm.In_below (by go_grown) hx.out)).mono ?_
            rintro e w1 ⟨rfl, hb1⟩
            generalize hxf : x.erase.formed = bx
            have Hxf := Lib.hid hxf
            clear hxf
            have Htk : Hid (T.formedL (Tm.eraseL (l.take (k + 1))) = bx) := by
              have h9 := formedL_take l k hlt
              rw [hpre.out, hxe, Hxf.out] at h9
              exact h9
            cases bx
            · go_wp2_with fail
              go_ret
              refine ret_bool ?_ (below_step hb1 (by go_grown))
              rw [Hfin.out, formedL_false (l := l) (x := x) hmem Hxf.out]
            · go_wp2_with fail
              go_roundw
              case rel => exact ⟨k + 1, by omega, by go_num, Htk.out, below_step hb1 (by go_grown)⟩
              case measure => simp [intOf]; omega
          · go_wp2_with fail
            go_ret
            refine ret_bool ?_ (by go_grown)
            rw [Hfin.out, ← hpre.out, List.take_of_length_le (by omega)]
      · have Hfin : Hid (r = false) := by
          refine Hr.out.symm.trans ?_
          simp only [show ¬ (4 : Int) = 1 by decide, show ¬ (4 : Int) = 2 by decide, show ¬ (4 : Int) = 3 by decide, if_false, if_true]
          by_cases e1 : n = 0 <;> by_cases e2 : s.size ≤ 100 <;> by_cases e3 : 1 ≤ l.length <;> by_cases e4 : l.length ≤ 50 <;> simp [e1, e2, e3, e4]
          exact absurd ⟨e1, e2, e3, e4⟩ hg
        clear Hr
        have Hg := Lib.hid hg
        clear hg
        go_enter Try.func95, Try.ntmps95
        go_wp2_with fail
        all_goals first
          | (go_ret; exact ret_bool Hfin.out.symm (by go_grown))
          | (exfalso; exact Hg.out ⟨by omega, by omega, by omega, by omega⟩)
    · exact formed_leaf k n s p c l w h hk4

/-- term.formed, of whatever term. -/
theorem formed_calls {t : Tm} {w : World} (h : t.In w) : Calls Try.prog 95 #[t.val] w (Ret (.bool (T.formed t.erase)) w) :=
  formed_any _ t w (Nat.le_refl _) h
end Go.Proofs.Ytcblmkhhhibddaa

namespace Go.Proofs.Ytcblmkhhhibddaa
open Go.RowKit

/-- A slice of terms. -/
def Tm.Sl (w : World) (p : Option Addr) (c : Nat) (l : List Tm) : Prop :=
  l.length ≤ c ∧ (l.length * 56 ≤ 140737488351232 ∧ c ≤ 9223372036854775807) ∧ (l = [] ∨ ∃ b o, p = some ⟨b, o, none⟩ ∧ Tm.row w b o l) ∧ Tm.InL w l

theorem Tm.In.sl {w : World} {k n : Int} {s : ByteArray} {p : Option Addr} {c : Nat} {l : List Tm} (h : (Tm.mk k n s p c l).In w) : Tm.Sl w p c l := by
  rw [Tm.In] at h
  exact ⟨h.2.2.2.1, h.2.2.2.2.1, h.2.2.2.2.2.1, h.2.2.2.2.2.2⟩

theorem Tm.Sl.mono {w w' : World} {p : Option Addr} {c : Nat} {l : List Tm} (h : Tm.Sl w p c l) (hg : Gr w w') : Tm.Sl w' p c l := by
  obtain ⟨h1, h2, h3, h4⟩ := h
  refine ⟨h1, h2, ?_, Tm.InL_below hg h4⟩
  rcases h3 with h3 | ⟨b, o, hp, hr⟩
  · exact .inl h3
  · by_cases hl : l = []
    · exact .inl hl
    · exact .inr ⟨b, o, hp, Tm.row_mono hr fun o' => hg.cell (p := ⟨b, o', none⟩) (Tm.row_lt hr hl)⟩

/-- An element of a slice of terms. -/
theorem Tm.Sl.elem {w : World} {b o : Nat} {c : Nat} {l : List Tm} (h : Tm.Sl w (some ⟨b, o, none⟩) c l) (i : Nat) (hi : i < l.length) :
    (w.cell? ⟨b, o + i * 4, none⟩ = some (.int .i64 l[i].k) ∧ w.cell? ⟨b, o + i * 4 + 1, none⟩ = some (.int .i64 l[i].n) ∧
    w.cell? ⟨b, o + i * 4 + 2, none⟩ = some (.string l[i].s) ∧ w.cell? ⟨b, o + i * 4 + 3, none⟩ = some (.slice l[i].p l[i].l.length l[i].c)) ∧ l[i].In w ∧ b < w.heap.size := by
  obtain ⟨_, _, h3, h4⟩ := h
  rcases h3 with rfl | ⟨b', o', hp, hr⟩
  · simp at hi
  · cases hp
    exact ⟨hr i l[i] (List.getElem?_eq_getElem hi), Tm.InL_mem h4 _ (List.getElem_mem hi), Tm.row_lt hr (by rintro rfl; simp at hi)⟩

theorem Tm.Sl.ptr {w : World} {p : Option Addr} {c : Nat} {l : List Tm} (h : Tm.Sl w p c l) (hl : 0 < l.length) : ∃ b o, p = some ⟨b, o, none⟩ := by
  obtain ⟨_, _, h3, _⟩ := h
  rcases h3 with rfl | ⟨b', o', hp, _⟩
  · simp at hl
  · exact ⟨b', o', hp⟩

set_option maxHeartbeats 400000 in
theorem all_calls {p : Option Addr} {c : Nat} {l : List Tm} {w : World} (h : Tm.Sl w p c l) :
    Calls Try.prog 79 #[.slice p l.length c] w (Ret (.bool (T.formedL (Tm.eraseL l))) w) := by
  have H := Lib.hid h
  have hlc := h.1
  have hcb := h.2.1
  clear h
  generalize hr : T.formedL (Tm.eraseL l) = r
  have Hr := Lib.hid hr
  clear hr
  go_enter Try.func79, Try.ntmps79
  go_wp2_with fail
  go_loopw [7] (fun i wr => ∃ k : Nat, k ≤ l.length ∧ i = .int .i64 k ∧ Hid (T.formedL (Tm.eraseL (l.take k)) = true) ∧ Gr w wr)
    (fun i _ => l.length - (intOf i).toNat)
  case atStart => exact ⟨0, Nat.zero_le _, rfl, rfl, by go_grown⟩
  case round =>
    obtain ⟨k, hk, rfl, hpre, hb⟩ := hrel
    have hbs := hb.size
    by_cases hlt : k < l.length
    · have hS := H.out.mono hb
      obtain ⟨b, o, rfl⟩ := hS.ptr (by omega)
      obtain ⟨⟨c0, c1, c2, c3⟩, hx, _⟩ := hS.elem k hlt
      have Hx := Lib.hid hx
      have hmem : l[k] ∈ l := List.getElem_mem hlt
      clear hS hx
      generalize hxe : l[k] = x at *
      go_wp2_with fail
      refine (formed_calls (t := x) (Tm.In_below (by go_grown) Hx.out)).mono ?_
      rintro e w1 ⟨rfl, hb1⟩
      generalize hxf : x.erase.formed = bx
      have Hxf := Lib.hid hxf
      clear hxf
      have Htk : Hid (T.formedL (Tm.eraseL (l.take (k + 1))) = bx) := by
        have h9 := formedL_take l k hlt
        rw [hpre.out, hxe, Hxf.out] at h9
        exact h9
      cases bx
      · go_wp2_with fail
        go_ret
        refine ret_bool ?_ (below_step hb1 (by go_grown))
        rw [← Hr.out, formedL_false (l := l) (x := x) hmem Hxf.out]
      · go_wp2_with fail
        go_roundw
        case rel => exact ⟨k + 1, by omega, by go_num, Htk.out, below_step hb1 (by go_grown)⟩
        case measure => simp [intOf]; omega
    · go_wp2_with fail
      go_ret
      refine ret_bool ?_ (by go_grown)
      rw [← Hr.out, ← hpre.out, List.take_of_length_le (by omega)]
end Go.Proofs.Ytcblmkhhhibddaa

namespace Go.Proofs.Ytcblmkhhhibddaa
open Go.ChangeShapes Go.WideShapes Go.ChangeAt Go.RowKit Go.Deep

theorem own_ : ownKnob Try.prog.godebug = none := by kernel_rfl
theorem laidOut_ : laidOutB Try.prog = true := by kernel_rfl
theorem cellsTerm : Try.prog.cellsOf 25 = 4 := by kernel_rfl
theorem bytesTerm : Try.prog.bytesOf 25 = 56 := by kernel_rfl
theorem cellsI : Try.prog.cellsOf 3 = 1 := by kernel_rfl
theorem cellsI64 : Try.prog.cellsOf 2 = 1 := by kernel_rfl
theorem cellsS : Try.prog.cellsOf 9 = 1 := by kernel_rfl
theorem cellsTerms : Try.prog.cellsOf 23 = 1 := by kernel_rfl

theorem bounds64 {n : Int} (h : (Lit.int .i64 n).wf = true) : -9223372036854775808 ≤ n ∧ n ≤ 9223372036854775807 := by
  have := bounds_i64 h
  omega

theorem reach_eq : reachBytes = 140737488351232 := by decide

theorem list4 {α : Type} {l : List α} (h : l.length = 4) : ∃ a b c d, l = [a, b, c, d] := by
  match l, h with
  | [a, b, c, d], _ => exact ⟨a, b, c, d, rfl⟩

theorem weightsAll_mem {H : Type} {P : Program} {e : TypeId} {d : DataW H} : ∀ {ds : List (DataW H)}, d ∈ ds → ∀ {n : Nat}, n ∈ d.weights P e → n ∈ DataW.weightsAll P e ds
  | x :: xs, h, n, hn => by
    rw [DataW.weightsAll, List.mem_append]
    rcases List.mem_cons.1 h with rfl | h
    · exact .inl hn
    · exact .inr (weightsAll_mem h hn)

section
variable {H : Type} {enc : TypeId × Value → H} {W : World}

/-- A list of terms, each lying behind the other. -/
theorem list_of {n : Nat} {p : Nat → Tm → Prop} (h : ∀ i, i < n → ∃ x, p i x) : ∃ l : List Tm, l.length = n ∧ ∀ i x, l[i]? = some x → p i x := by
  induction n with
  | zero => exact ⟨[], rfl, fun i x hx => by simp at hx⟩
  | succ n ih =>
    obtain ⟨l, hl, hp⟩ := ih fun i hi => h i (by omega)
    obtain ⟨y, hy⟩ := h n (by omega)
    refine ⟨l ++ [y], by simp [hl], fun i x hx => ?_⟩
    by_cases hi : i < l.length
    · rw [List.getElem?_append_left hi] at hx
      exact hp i x hx
    · rw [List.getElem?_append_right (by omega)] at hx
      have : i = l.length := by
        by_cases h9 : i - l.length = 0
        · omega
        · rw [List.getElem?_cons] at hx
          simp [h9] at hx
      subst this
      simp at hx
      subst hx
      rw [hl]
      exact hy

end
end Go.Proofs.Ytcblmkhhhibddaa
