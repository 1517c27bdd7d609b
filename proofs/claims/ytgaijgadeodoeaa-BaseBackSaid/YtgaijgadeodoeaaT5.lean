/-
  term.Order, slices.CompareFunc by it
-/
import Derived.Test.YtgaijgadeodoeaaT4
import Derived.Test.YtgaijgadeodoeaaC0
namespace Go.Proofs.Ytgaijgadeodoeaa
open Go.RowKit

mutual
/-- The order of terms. -/
def T.order : T → T → Int
  | .mk k n s l, .mk k' n' s' l' =>
    if k = k' then
      if k = 3 then Lib.compareBytes s s'
      else if k = 4 then
        (if (if cmpI l.length l'.length = 0 then Lib.compareBytes s s' else cmpI l.length l'.length) = 0 then T.orderL l l'
         else (if cmpI l.length l'.length = 0 then Lib.compareBytes s s' else cmpI l.length l'.length))
      else cmpI n n'
    else cmpI k k'
def T.orderL : List T → List T → Int
  | [], [] => 0
  | [], _ :: _ => -1
  | _ :: _, [] => 1
  | x :: xs, y :: ys => if T.order x y = 0 then T.orderL xs ys else T.order x y
end

/-- What Order's contract says of two terms, up to a size. -/
def OrderUpto (N : Nat) : Prop := ∀ (t u : Tm) (w : World), SizeOf.sizeOf t ≤ N → t.In w → u.In w →
    Calls Try.prog 43 #[t.val, u.val] w (Ret (.int .i64 (T.order t.erase u.erase)) w)

theorem ret_int' {a b : Int} {w w' : World} (h : a = b) (hb : Gr w w') : Ret (.int .i64 b) w (.returned (.int .i64 a)) w' := ⟨by rw [h], hb⟩

set_option maxHeartbeats 400000 in
theorem compareFunc_calls {N : Nat} (hO : OrderUpto N) {p p' : Option Addr} {c c' : Nat} {l l' : List Tm} {w : World} (h : Tm.Sl w p c l) (h' : Tm.Sl w p' c' l') (hN : ∀ x ∈ l, SizeOf.sizeOf x ≤ N) :
    Calls Try.prog 96 #[.slice p l.length c, .slice p' l'.length c', .func (.func 43) #[] #[]] w (Ret (.int .i64 (T.orderL (Tm.eraseL l) (Tm.eraseL l'))) w) := by
  have H := Lib.hid h
  have H' := Lib.hid h'
  have HO := Lib.hid hO
  have HN := Lib.hid hN
  have hlc := h.1
  have hcb := h.2.1
  have hlc' := h'.1
  have hcb' := h'.2.1
  clear h h' hO hN
  generalize hr : T.orderL (Tm.eraseL l) (Tm.eraseL l') = r
  have Hr := Lib.hid hr
  clear hr
  go_enter Try.func96, Try.ntmps96
  go_wp2_with fail
  go_loopw [13] (fun i wr => ∃ k : Nat, k ≤ l.length ∧ k ≤ l'.length ∧ i = .int .i64 k ∧ Hid (T.orderL (Tm.eraseL (l.drop k)) (Tm.eraseL (l'.drop k)) = r) ∧ Gr w wr)
    (fun i _ => l.length - (intOf i).toNat)
  case atStart => exact ⟨0, Nat.zero_le _, Nat.zero_le _, rfl, Hr.out, by go_grown⟩
  case round =>
    obtain ⟨k, hk, hk', rfl, hpre, hb⟩ := hrel
    have hbs := hb.size
    by_cases hlt : k < l.length
    · have hS := H.out.mono hb
      obtain ⟨b, o, rfl⟩ := hS.ptr (by omega)
      obtain ⟨⟨c0, c1, c2, c3⟩, hx, _⟩ := hS.elem k hlt
      have Hx := Lib.hid hx
      have hmem : l[k] ∈ l := List.getElem_mem hlt
      have Hz := Lib.hid (HN.out _ hmem)
      clear hS hx
      have hdr : Tm.eraseL (l.drop k) = l[k].erase :: Tm.eraseL (l.drop (k + 1)) := by
        rw [List.drop_eq_getElem_cons hlt, Tm.eraseL]
      by_cases hlt' : k < l'.length
      · have hS' := H'.out.mono hb
        obtain ⟨b', o', rfl⟩ := hS'.ptr (by omega)
        obtain ⟨⟨d0, d1, d2, d3⟩, hx', _⟩ := hS'.elem k hlt'
        have Hx' := Lib.hid hx'
        clear hS' hx'
        have hdr' : Tm.eraseL (l'.drop k) = l'[k].erase :: Tm.eraseL (l'.drop (k + 1)) := by
          rw [List.drop_eq_getElem_cons hlt', Tm.eraseL]
        have hst : Hid ((if T.order l[k].erase l'[k].erase = 0 then T.orderL (Tm.eraseL (l.drop (k + 1))) (Tm.eraseL (l'.drop (k + 1))) else T.order l[k].erase l'[k].erase) = r) := by
          have h9 := hpre.out
          rw [hdr, hdr', T.orderL] at h9
          exact h9
        clear hdr hdr' hpre
        generalize hxe : l[k] = x at *
        generalize hxe' : l'[k] = x' at *
        go_wp2_with fail
        refine (HO.out x x' _ Hz.out (Tm.In_below (by go_grown) Hx.out) (Tm.In_below (by go_grown) Hx'.out)).mono ?_
        rintro e w1 ⟨rfl, hb1⟩
        generalize hxf : T.order x.erase x'.erase = ox
        rw [hxf] at hst
        clear hxf
        by_cases ho : ox = 0
        · have Hst : Hid (T.orderL (Tm.eraseL (l.drop (k + 1))) (Tm.eraseL (l'.drop (k + 1))) = r) := (if_pos ho).symm.trans hst.out
          subst ho
          go_wp2_with fail
          go_roundw
          case rel => exact ⟨k + 1, by omega, by omega, by go_num, Hst, below_step hb1 (by go_grown)⟩
          case measure => simp [intOf]; omega
        · have ho' : (ox != 0) = true := by simp [ho]
          go_wp2_with fail
          go_ret
          refine ret_int' ?_ (below_step hb1 (by go_grown))
          rw [← hst.out, if_neg ho]
      · go_wp2_with fail
        go_ret
        refine ret_int' ?_ (by go_grown)
        rw [← hpre.out, hdr, show l'.drop k = [] from List.drop_eq_nil_of_le (by omega), Tm.eraseL, T.orderL]
    · by_cases hlt' : k < l'.length
      · go_wp2_with fail
        go_ret
        refine ret_int' ?_ (by go_grown)
        rw [← hpre.out, show l.drop k = [] from List.drop_eq_nil_of_le (by omega), List.drop_eq_getElem_cons hlt', Tm.eraseL, Tm.eraseL, T.orderL]
      · go_wp2_with fail
        go_ret
        refine ret_int' ?_ (by go_grown)
        rw [← hpre.out, show l.drop k = [] from List.drop_eq_nil_of_le (by omega), show l'.drop k = [] from List.drop_eq_nil_of_le (by omega), Tm.eraseL, T.orderL]

def pairAt (x y : Int) : VP := fun v w => ∃ b : Nat, v = .slice (some ⟨b, 0, none⟩) 2 2 ∧ w.cell? ⟨b, 0, none⟩ = some (.int .i64 x) ∧ w.cell? ⟨b, 1, none⟩ = some (.int .i64 y)
theorem pairAt_mk {x y : Int} {b : Nat} {w : World} (h0 : w.cell? ⟨b, 0, none⟩ = some (.int .i64 x)) (h1 : w.cell? ⟨b, 1, none⟩ = some (.int .i64 y)) : pairAt x y (.slice (some ⟨b, 0, none⟩) 2 2) w := ⟨b, rfl, h0, h1⟩
theorem pairAt_stable {x y : Int} : ∀ v w w', pairAt x y v w → Gr w w' → pairAt x y v w' :=
  fun _ _ _ ⟨b, h1, h2, h3⟩ hg => ⟨b, h1, Gr.at hg h2, Gr.at hg h3⟩

set_option maxHeartbeats 1000000 in
set_option maxRecDepth 100000 in
theorem order_upto (N : Nat) : OrderUpto N := by
  induction N with
  | zero => intro t u w h; cases t; simp at h
  | succ N ih =>
    intro t u w hN h hu
    obtain ⟨k, n, s, p, c, l⟩ := t
    obtain ⟨k', n', s', p', c', l'⟩ := u
    have hsz := fun x (hx : x ∈ l) => Tm.sizeOf_mem hx k n s p c
    have H := Lib.hid h.sl
    have H' := Lib.hid hu.sl
    rw [Tm.In] at h hu
    obtain ⟨_, _, hs, hl, hc, _, _⟩ := h
    obtain ⟨_, _, hs', hl', hc', _, _⟩ := hu
    have Hsz : Hid (∀ x ∈ l, SizeOf.sizeOf x ≤ N) := fun x hx => by have := hsz x hx; omega
    have Hih := Lib.hid ih
    clear hsz ih
    simp only [Tm.val, Tm.k, Tm.n, Tm.s, Tm.p, Tm.c, Tm.l, Tm.erase, T.order, Tm.eraseL_length]
    by_cases hk : k = k'
    · subst hk
      rw [if_pos rfl]
      by_cases hk3 : k = 3
      · subst hk3
        rw [if_pos rfl]
        go_enter Try.func43, Try.ntmps43
        go_wp2_with (go_at_call 94; refine (strings_compare _ _ _).mono ?_; rintro e w' ⟨rfl, rfl⟩)
        go_ret
        exact ret_int' rfl (by go_grown)
      rw [if_neg hk3]
      by_cases hk4 : k = 4
      · subst hk4
        rw [if_pos rfl]
        generalize hz : (if cmpI l.length l'.length = 0 then Lib.compareBytes s.toList s'.toList else cmpI l.length l'.length) = z
        have Hz := Lib.hid hz
        clear hz
        generalize hr : (if z = 0 then _ else z) = r
        have Hr := Lib.hid hr
        clear hr
        go_enter Try.func43, Try.ntmps43
        go_wp2_with fail
        refine wp_region_rely [fx (.pointer (some ⟨w.heap.size, 3, none⟩)), fx (.slice p l.length c), fx (.int .i64 l.length), fx (.pointer (some ⟨w.heap.size + 1, 3, none⟩)), fx (.slice p' l'.length c'), fx (.int .i64 l'.length),
            fx (.int .i64 (cmpI l.length l'.length)), fx (.pointer (some ⟨w.heap.size, 2, none⟩)), fx (.string s), fx (.pointer (some ⟨w.heap.size + 1, 2, none⟩)), fx (.string s'),
            fx (.int .i64 (Lib.compareBytes s.toList s'.toList)), pairAt (cmpI l.length l'.length) (Lib.compareBytes s.toList s'.toList), fx (.int .i64 z), fx (.int .i64 z)]
            (by kernel_rfl) (by kernel_rfl) (by repeat (first | exact Stable.nil | refine Stable.fix ?_ | refine Stable.cons pairAt_stable ?_)) ?_ ?_
        · refine ⟨?_, ?_, ?_, ?_, ?_, ?_, ?_, ?_, ?_, ?_, ?_, ?_, ?a12, ?a13, ?_, trivial⟩
          all_goals
            intro a w1 hg hold
            have h2 : a.tmps[2]?.getD undef = .pointer (some ⟨w.heap.size, 0, none⟩) := hold 2 rfl
            have h3 : a.tmps[3]?.getD undef = .pointer (some ⟨w.heap.size + 1, 0, none⟩) := hold 3 rfl
            clear hold
            have z1 : w1.cell? ⟨w.heap.size, 3, none⟩ = some (.slice p l.length c) := Gr.at hg (by go_cell)
            have z2 : w1.cell? ⟨w.heap.size + 1, 3, none⟩ = some (.slice p' l'.length c') := Gr.at hg (by go_cell)
            have z3 : w1.cell? ⟨w.heap.size, 2, none⟩ = some (.string s) := Gr.at hg (by go_cell)
            have z4 : w1.cell? ⟨w.heap.size + 1, 2, none⟩ = some (.string s') := Gr.at hg (by go_cell)
            simp [predsImp, Region.binds, dstAt, fx]
            intros
            rename_i K hK
            go_simp
          case a12 => exact hK _ _ (pairAt_mk (by go_cell) (by go_cell)) (by go_grown)
          case a13 =>
            have hp : pairAt (cmpI l.length l'.length) (Lib.compareBytes s.toList s'.toList) (a.tmps[39]?.getD undef) w1 := by assumption
            obtain ⟨b, hb, hb0, hb1⟩ := hp
            rw [hb]
            refine (or_two _ _ b 0 _ hb0 hb1).mono ?_
            rintro e w2 ⟨rfl, rfl⟩
            rw [Hz.out]
            exact hK _ _ rfl (Gr.rfl' _)
          all_goals first
            | exact hK _ _ rfl (Gr.rfl' _)
            | (refine (compare_int _ _ _).mono ?_
               rintro e w2 ⟨rfl, rfl⟩
               exact hK _ _ rfl (Gr.rfl' _))
            | (refine (strings_compare _ _ _).mono ?_
               rintro e w2 ⟨rfl, rfl⟩
               exact hK _ _ rfl (Gr.rfl' _))
        · intro w1 hg
          have z1 : w1.cell? ⟨w.heap.size, 3, none⟩ = some (.slice p l.length c) := Gr.at hg (by go_cell)
          have z2 : w1.cell? ⟨w.heap.size + 1, 3, none⟩ = some (.slice p' l'.length c') := Gr.at hg (by go_cell)
          have hg0 : Gr w w1 := below_step hg (by go_grown)
          clear hg
          rintro _ rfl _ rfl _ rfl _ rfl _ rfl _ rfl _ rfl _ rfl _ rfl _ rfl _ rfl _ rfl _ ⟨b, rfl, _, _⟩ _ rfl _ rfl
          simp only [finAll, Act.put, Exit.then, List.setIfInBounds_toArray, List.set_cons_succ, List.set_cons_zero]
          by_cases hz0 : z = 0
          · have hz' : (z != 0) = false := by simp [hz0]
            have HR : Hid (r = T.orderL (Tm.eraseL l) (Tm.eraseL l')) := Hr.out.symm.trans (if_pos hz0)
            clear hz0
            go_wp2_with fail
            refine (compareFunc_calls (N := N) Hih.out (H.out.mono hg0) (H'.out.mono hg0) Hsz.out).mono ?_
            rintro e w2 ⟨rfl, hb2⟩
            go_wp2_with fail
            go_ret
            exact ret_int' HR.out.symm (hg0.trans hb2)
          · have hz' : (z != 0) = true := by simp [hz0]
            have HR : Hid (r = z) := Hr.out.symm.trans (if_neg hz0)
            clear hz0
            go_wp2_with fail
            go_ret
            exact ret_int' HR.out.symm hg0
      · rw [if_neg hk4]
        have hk3' : (k == 3) = false := by simp [hk3]
        have hk4' : (k == 4) = false := by simp [hk4]
        clear hk3 hk4
        go_enter Try.func43, Try.ntmps43
        go_wp2_with (go_at_call 97; refine (compare_int64 _ _ _).mono ?_; rintro e w' ⟨rfl, rfl⟩)
        go_ret
        exact ret_int' rfl (by go_grown)
    · rw [if_neg hk]
      have hk' : (k != k') = true := by simp [hk]
      go_enter Try.func43, Try.ntmps43
      go_wp2_with (go_at_call 93; refine (compare_int _ _ _).mono ?_; rintro e w' ⟨rfl, rfl⟩)
      go_ret
      exact ret_int' rfl (by go_grown)

theorem order_calls {t u : Tm} {w : World} (h : t.In w) (hu : u.In w) : Calls Try.prog 43 #[t.val, u.val] w (Ret (.int .i64 (T.order t.erase u.erase)) w) :=
  order_upto _ t u w (Nat.le_refl _) h hu
end Go.Proofs.Ytgaijgadeodoeaa
