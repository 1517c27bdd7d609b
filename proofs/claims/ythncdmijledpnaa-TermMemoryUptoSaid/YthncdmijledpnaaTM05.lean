/-
  cmp.Compare, cmp.isNaN at int and int64, cmp.Or
  term.Order, slices.CompareFunc by it
  term.Check, term.Compare
  Maps that a program keeps: what they hold.
  Blocks of any type; new slices of one term and of two; append of nothing.
-/
import Derived.Test.YthncdmijledpnaaTM01
import Derived.Test.YthncdmijledpnaaShelf
import Derived.Test.YthncdmijledpnaaTM04
import Derived.Test.YthncdmijledpnaaTM02
import Derived.Maps.OwnOps
import Derived.Maps.Views
import Derived.WideKeyEntry
import Derived.DeepKeys4
import Derived.Lib.AppendZeros
namespace Go.Proofs.Ythncdmijledpnaa
open Go.RowKit

def cmpI (a b : Int) : Int := if a < b then -1 else if b < a then 1 else 0
theorem cmpI_lt {a b : Int} (h : a < b) : cmpI a b = -1 := by simp [cmpI, h]
theorem cmpI_gt {a b : Int} (h : b < a) : cmpI a b = 1 := by unfold cmpI; rw [if_neg (by omega), if_pos h]
theorem cmpI_eq {a b : Int} (h : a ≤ b) (h' : b ≤ a) : cmpI a b = 0 := by unfold cmpI; rw [if_neg (by omega), if_neg (by omega)]
def RetSame (v : Value) (w : World) (e : Ending) (w' : World) : Prop := e = .returned v ∧ w = w'

theorem ret_same {a b : Int} {w : World} (h : a = b) : RetSame (.int .i64 b) w (.returned (.int .i64 a)) w := ⟨by rw [h], rfl⟩

set_option maxHeartbeats 400000 in
theorem isNaN_int (a : Int) (w : World) : Calls Try.prog 204 #[.int .i64 a] w fun e w' => e = .returned (.bool false) ∧ w = w' := by
  go_enter Try.func204, Try.ntmps204
  go_wp2_with fail
  go_ret
  exact ⟨by simp, rfl⟩

set_option maxHeartbeats 400000 in
theorem isNaN_int64 (a : Int) (w : World) : Calls Try.prog 159 #[.int .i64 a] w fun e w' => e = .returned (.bool false) ∧ w = w' := by
  go_enter Try.func159, Try.ntmps159
  go_wp2_with fail
  go_ret
  exact ⟨by simp, rfl⟩

set_option maxHeartbeats 400000 in
theorem compare_int (a b : Int) (w : World) : Calls Try.prog 161 #[.int .i64 a, .int .i64 b] w (RetSame (.int .i64 (cmpI a b)) w) := by
  go_enter Try.func161, Try.ntmps161
  go_wp2_with (go_at_call 204; refine (isNaN_int _ _).mono ?_; rintro e w' ⟨rfl, rfl⟩)
  all_goals
    go_ret
    first | exact ret_same (cmpI_lt (by assumption)).symm | exact ret_same (cmpI_gt (by assumption)).symm | exact ret_same (cmpI_eq (by assumption) (by assumption)).symm

set_option maxHeartbeats 400000 in
theorem compare_int64 (a b : Int) (w : World) : Calls Try.prog 93 #[.int .i64 a, .int .i64 b] w (RetSame (.int .i64 (cmpI a b)) w) := by
  go_enter Try.func93, Try.ntmps93
  go_wp2_with (go_at_call 159; refine (isNaN_int64 _ _).mono ?_; rintro e w' ⟨rfl, rfl⟩)
  all_goals
    go_ret
    first | exact ret_same (cmpI_lt (by assumption)).symm | exact ret_same (cmpI_gt (by assumption)).symm | exact ret_same (cmpI_eq (by assumption) (by assumption)).symm

set_option maxHeartbeats 400000 in
/-- cmp.Or of two numbers. -/
theorem or_two (x y : Int) (b o : Nat) (w : World) (h0 : w.cell? ⟨b, o, none⟩ = some (.int .i64 x)) (h1 : w.cell? ⟨b, o + 1, none⟩ = some (.int .i64 y)) :
    Calls Try.prog 163 #[.slice (some ⟨b, o, none⟩) 2 2] w (RetSame (.int .i64 (if x = 0 then y else x)) w) := by
  by_cases hx : x = 0
  · subst hx
    by_cases hy : y = 0
    · subst hy
      go_enter Try.func163, Try.ntmps163
      go_wp2_with fail
      go_rounds 3
      go_ret
      exact ret_same (by simp)
    · have hy' : (y != 0) = true := by simp [hy]
      go_enter Try.func163, Try.ntmps163
      go_wp2_with fail
      go_rounds 3
      go_ret
      exact ret_same (by simp)
  · have hx' : (x != 0) = true := by simp [hx]
    rw [if_neg hx]
    go_enter Try.func163, Try.ntmps163
    go_wp2_with fail
    go_rounds 3
    go_ret
    exact ret_same rfl

theorem strings_compare (a b : ByteArray) (w : World) : Calls Try.prog 162 #[.string a, .string b] w (RetSame (.int .i64 (Lib.compareBytes a.toList b.toList)) w) := by
  rw [ByteArray.toList_eq, ByteArray.toList_eq]
  exact (Try.strings_Compare a b w).mono fun e w' ⟨h1, h2⟩ => ⟨h1, h2.symm⟩
end Go.Proofs.Ythncdmijledpnaa

namespace Go.Proofs.Ythncdmijledpnaa
open Go.RowKit

mutual
/-- The order of terms. -/
def T.order : T → T → Int
  | .mk k n s l, .mk k' n' s' l' =>
    if k = k' then
      if k = 3 then Lib.compareBytes s s'
      else if k = 4 then
        (if (if cmpI l.length l'.length = 0 then Lib.compareBytes s s' else cmpI l.length l'.length) = 0 then T.orderL l l'
         else (if cmpI l.length l'.length = 0 then Lib.compareBytes s s' else cmpI l.length l'.length))
      else cmpI n n'
    else cmpI k k'
def T.orderL : List T → List T → Int
  | [], [] => 0
  | [], _ :: _ => -1
  | _ :: _, [] => 1
  | x :: xs, y :: ys => if T.order x y = 0 then T.orderL xs ys else T.order x y
end

/-- What Order's contract says of two terms, up to a size. -/
def OrderUpto (N : Nat) : Prop := ∀ (t u : Tm) (w : World), SizeOf.sizeOf t ≤ N → t.In w → u.In w →
    Calls Try.prog 95 #[t.val, u.val] w (Ret (.int .i64 (T.order t.erase u.erase)) w)

theorem ret_int' {a b : Int} {w w' : World} (h : a = b) (hb : Gr w w') : Ret (.int .i64 b) w (.returned (.int .i64 a)) w' := ⟨by rw [h], hb⟩

set_option maxHeartbeats 400000 in
theorem compareFunc_calls {N : Nat} (hO : OrderUpto N) {p p' : Option Addr} {c c' : Nat} {l l' : List Tm} {w : World} (h : Tm.Sl w p c l) (h' : Tm.Sl w p' c' l') (hN : ∀ x ∈ l, SizeOf.sizeOf x ≤ N) :
    Calls Try.prog 164 #[.slice p l.length c, .slice p' l'.length c', .func (.func 95) #[] #[]] w (Ret (.int .i64 (T.orderL (Tm.eraseL l) (Tm.eraseL l'))) w) := by
  have H := Lib.hid h
  have H' := Lib.hid h'
  have HO := Lib.hid hO
  have HN := Lib.hid hN
  have hlc := h.1
  have hcb := h.2.1
  have hlc' := h'.1
  have hcb' := h'.2.1
  clear h h' hO hN
  generalize hr : T.orderL (Tm.eraseL l) (Tm.eraseL l') = r
  have Hr := Lib.hid hr
  clear hr
  go_enter Try.func164, Try.ntmps164
  go_wp2_with fail
  go_loopw [13] (fun i wr => ∃ k : Nat, k ≤ l.length ∧ k ≤ l'.length ∧ i = .int .i64 k ∧ Hid (T.orderL (Tm.eraseL (l.drop k)) (Tm.eraseL (l'.drop k)) = r) ∧ Gr w wr)
    (fun i _ => l.length - (intOf i).toNat)
  case atStart => exact ⟨0, Nat.zero_le _, Nat.zero_le _, rfl, Hr.out, by go_grown⟩
  case round =>
    obtain ⟨k, hk, hk', rfl, hpre, hb⟩ := hrel
    have hbs := hb.size
    by_cases hlt : k < l.length
    · have hS := H.out.mono hb
      obtain ⟨b, o, rfl⟩ := hS.ptr (by omega)
      obtain ⟨⟨c0, c1, c2, c3⟩, hx, _⟩ := hS.elem k hlt
      have Hx := Lib.hid hx
      have hmem : l[k] ∈ l := List.getElem_mem hlt
      have Hz := Lib.hid (HN.out _ hmem)
      clear hS hx
      have hdr : Tm.eraseL (l.drop k) = l[k].erase :: Tm.eraseL (l.drop (k + 1)) := by
        rw [List.drop_eq_getElem_cons hlt, Tm.eraseL]
      by_cases hlt' : k < l'.length
      · have hS' := H'.out.mono hb
        obtain ⟨b', o', rfl⟩ := hS'.ptr (by omega)
        obtain ⟨⟨d0, d1, d2, d3⟩, hx', _⟩ := hS'.elem k hlt'
        have Hx' := Lib.hid hx'
        clear hS' hx'
        have hdr' : Tm.eraseL (l'.drop k) = l'[k].erase :: Tm.eraseL (l'.drop (k + 1)) := by
          rw [List.drop_eq_getElem_cons hlt', Tm.eraseL]
        have hst : Hid ((if T.order l[k].erase l'[k].erase = 0 then T.orderL (Tm.eraseL (l.drop (k + 1))) (Tm.eraseL (l'.drop (k + 1))) else T.order l[k].erase l'[k].erase) = r) := by
          have h9 := hpre.out
          rw [hdr, hdr', T.orderL] at h9
          exact h9
        clear hdr hdr' hpre
        generalize hxe : l[k] = x at *
        generalize hxe' : l'[k] = x' at *
        go_wp2_with fail
        refine (HO.out x x' _ Hz.out (Tm.In_below (by go_grown) Hx.out) (Tm.In_below (by go_grown) Hx'.out)).mono ?_
        rintro e w1 ⟨rfl, hb1⟩
        generalize hxf : T.order x.erase x'.erase = ox
        rw [hxf] at hst
        clear hxf
        by_cases ho : ox = 0
        · have Hst : Hid (T.orderL (Tm.eraseL (l.drop (k + 1))) (Tm.eraseL (l'.drop (k + 1))) = r) := (if_pos ho).symm.trans hst.out
          subst ho
          go_wp2_with fail
          go_roundw
          case rel => exact ⟨k + 1, by omega, by omega, by go_num, Hst, below_step hb1 (by go_grown)⟩
          case measure => simp [intOf]; omega
        · have ho' : (ox != 0) = true := by simp [ho]
          go_wp2_with fail
          go_ret
          refine ret_int' ?_ (below_step hb1 (by go_grown))
          rw [← hst.out, if_neg ho]
      · go_wp2_with fail
        go_ret
        refine ret_int' ?_ (by go_grown)
        rw [← hpre.out, hdr, show l'.drop k = [] from List.drop_eq_nil_of_le (by omega), Tm.eraseL, T.orderL]
    · by_cases hlt' : k < l'.length
      · go_wp2_with fail
        go_ret
        refine ret_int' ?_ (by go_grown)
        rw [← hpre.out, show l.drop k = [] from List.drop_eq_nil_of_le (by omega), List.drop_eq_getElem_cons hlt', Tm.eraseL, Tm.eraseL, T.orderL]
      · go_wp2_with fail
        go_ret
        refine ret_int' ?_ (by go_grown)
        rw [← hpre.out, show l.drop k = [] from List.drop_eq_nil_of_le (by omega), show l'.drop k = [] from List.drop_eq_nil_of_le (by omega), Tm.eraseL, T.orderL]

def pairAt (x y : Int) : VP := fun v w => ∃ b : Nat, v = .slice (some ⟨b, 0, none⟩) 2 2 ∧ w.cell? ⟨b, 0, none⟩ = some (.int .i64 x) ∧ w.cell? ⟨b, 1, none⟩ = some (.int .i64 y)
theorem pairAt_mk {x y : Int} {b : Nat} {w : World} (h0 : w.cell? ⟨b, 0, none⟩ = some (.int .i64 x)) (h1 : w.cell? ⟨b, 1, none⟩ = some (.int .i64 y)) : pairAt x y (.slice (some ⟨b, 0, none⟩) 2 2) w := ⟨b, rfl, h0, h1⟩
theorem pairAt_stable {x y : Int} : ∀ v w w', pairAt x y v w → Gr w w' → pairAt x y v w' :=
  fun _ _ _ ⟨b, h1, h2, h3⟩ hg => ⟨b, h1, Gr.at hg h2, Gr.at hg h3⟩

set_option maxHeartbeats 1000000 in
set_option maxRecDepth 100000 in
theorem order_upto (N : Nat) : OrderUpto N := by
  induction N with
  | zero => intro t u w h; cases t; simp at h
  | succ N ih =>
    intro t u w hN h hu
    obtain ⟨k, n, s, p, c, l⟩ := t
    obtain ⟨k', n', s', p', c', l'⟩ := u
    have hsz := fun x (hx : x ∈ l) => Tm.sizeOf_mem hx k n s p c
    have H := Lib.hid h.sl
    have H' := Lib.hid hu.sl
    rw [Tm.In] at h hu
    obtain ⟨_, _, hs, hl, hc, _, _⟩ := h
    obtain ⟨_, _, hs', hl', hc', _, _⟩ := hu
    have Hsz : Hid (∀ x ∈ l, SizeOf.sizeOf x ≤ N) := fun x hx => by have := hsz x hx; omega
    have Hih := Lib.hid ih
    clear hsz ih
    simp only [Tm.val, Tm.k, Tm.n, Tm.s, Tm.p, Tm.c, Tm.l, Tm.erase, T.order, Tm.eraseL_length]
    by_cases hk : k = k'
    · subst hk
      rw [if_pos rfl]
      by_cases hk3 : k = 3
      · subst hk3
        rw [if_pos rfl]
        go_enter Try.func95, Try.ntmps95
        go_wp2_with (go_at_call 162; refine (strings_compare _ _ _).mono ?_; rintro e w' ⟨rfl, rfl⟩)
        go_ret
        exact ret_int' rfl (by go_grown)
      rw [if_neg hk3]
      by_cases hk4 : k = 4
      · subst hk4
        rw [if_pos rfl]
        generalize hz : (if cmpI l.length l'.length = 0 then Lib.compareBytes s.toList s'.toList else cmpI l.length l'.length) = z
        have Hz := Lib.hid hz
        clear hz
        generalize hr : (if z = 0 then _ else z) = r
        have Hr := Lib.hid hr
        clear hr
        go_enter Try.func95, Try.ntmps95
        go_wp2_with fail
        refine wp_region_rely [fx (.pointer (some ⟨w.heap.size, 3, none⟩)), fx (.slice p l.length c), fx (.int .i64 l.length), fx (.pointer (some ⟨w.heap.size + 1, 3, none⟩)), fx (.slice p' l'.length c'), fx (.int .i64 l'.length),
            fx (.int .i64 (cmpI l.length l'.length)), fx (.pointer (some ⟨w.heap.size, 2, none⟩)), fx (.string s), fx (.pointer (some ⟨w.heap.size + 1, 2, none⟩)), fx (.string s'),
            fx (.int .i64 (Lib.compareBytes s.toList s'.toList)), pairAt (cmpI l.length l'.length) (Lib.compareBytes s.toList s'.toList), fx (.int .i64 z), fx (.int .i64 z)]
            (by kernel_rfl) (by kernel_rfl) (by repeat (first | exact Stable.nil | refine Stable.fix ?_ | refine Stable.cons pairAt_stable ?_)) ?_ ?_
        · refine ⟨?_, ?_, ?_, ?_, ?_, ?_, ?_, ?_, ?_, ?_, ?_, ?_, ?a12, ?a13, ?_, trivial⟩
          all_goals
            intro a w1 hg hold
            have h2 : a.tmps[2]?.getD undef = .pointer (some ⟨w.heap.size, 0, none⟩) := hold 2 rfl
            have h3 : a.tmps[3]?.getD undef = .pointer (some ⟨w.heap.size + 1, 0, none⟩) := hold 3 rfl
            clear hold
            have z1 : w1.cell? ⟨w.heap.size, 3, none⟩ = some (.slice p l.length c) := Gr.at hg (by go_cell)
            have z2 : w1.cell? ⟨w.heap.size + 1, 3, none⟩ = some (.slice p' l'.length c') := Gr.at hg (by go_cell)
            have z3 : w1.cell? ⟨w.heap.size, 2, none⟩ = some (.string s) := Gr.at hg (by go_cell)
            have z4 : w1.cell? ⟨w.heap.size + 1, 2, none⟩ = some (.string s') := Gr.at hg (by go_cell)
            simp [predsImp, Region.binds, dstAt, fx]
            intros
            rename_i K hK
            go_simp
          case a12 => exact hK _ _ (pairAt_mk (by go_cell) (by go_cell)) (by go_grown)
          case a13 =>
            have hp : pairAt (cmpI l.length l'.length) (Lib.compareBytes s.toList s'.toList) (a.tmps[39]?.getD undef) w1 := by assumption
            obtain ⟨b, hb, hb0, hb1⟩ := hp
            rw [hb]
            refine (or_two _ _ b 0 _ hb0 hb1).mono ?_
            rintro e w2 ⟨rfl, rfl⟩
            rw [Hz.out]
            exact hK _ _ rfl (Gr.rfl' _)
          all_goals first
            | exact hK _ _ rfl (Gr.rfl' _)
            | (refine (compare_int _ _ _).mono ?_
               rintro e w2 ⟨rfl, rfl⟩
               exact hK _ _ rfl (Gr.rfl' _))
            | (refine (strings_compare _ _ _).mono ?_
               rintro e w2 ⟨rfl, rfl⟩
               exact hK _ _ rfl (Gr.rfl' _))
        · intro w1 hg
          have z1 : w1.cell? ⟨w.heap.size, 3, none⟩ = some (.slice p l.length c) := Gr.at hg (by go_cell)
          have z2 : w1.cell? ⟨w.heap.size + 1, 3, none⟩ = some (.slice p' l'.length c') := Gr.at hg (by go_cell)
          have hg0 : Gr w w1 := below_step hg (by go_grown)
          clear hg
          rintro _ rfl _ rfl _ rfl _ rfl _ rfl _ rfl _ rfl _ rfl _ rfl _ rfl _ rfl _ rfl _ ⟨b, rfl, _, _⟩ _ rfl _ rfl
          simp only [finAll, Act.put, Exit.then, List.setIfInBounds_toArray, List.set_cons_succ, List.set_cons_zero]
          by_cases hz0 : z = 0
          · have hz' : (z != 0) = false := by simp [hz0]
            have HR : Hid (r = T.orderL (Tm.eraseL l) (Tm.eraseL l')) := Hr.out.symm.trans (if_pos hz0)
            clear hz0
            go_wp2_with fail
            refine (compareFunc_calls (N := N) Hih.out (H.out.mono hg0) (H'.out.mono hg0) Hsz.out).mono ?_
            rintro e w2 ⟨rfl, hb2⟩
            go_wp2_with fail
            go_ret
            exact ret_int' HR.out.symm (hg0.trans hb2)
          · have hz' : (z != 0) = true := by simp [hz0]
            have HR : Hid (r = z) := Hr.out.symm.trans (if_neg hz0)
            clear hz0
            go_wp2_with fail
            go_ret
            exact ret_int' HR.out.symm hg0
      · rw [if_neg hk4]
        have hk3' : (k == 3) = false := by simp [hk3]
        have hk4' : (k == 4) = false := by simp [hk4]
        clear hk3 hk4
        go_enter Try.func95, Try.ntmps95
        go_wp2_with (go_at_call 93; refine (compare_int64 _ _ _).mono ?_; rintro e w' ⟨rfl, rfl⟩)
        go_ret
        exact ret_int' rfl (by go_grown)
    · rw [if_neg hk]
      have hk' : (k != k') = true := by simp [hk]
      go_enter Try.func95, Try.ntmps95
      go_wp2_with (go_at_call 161; refine (compare_int _ _ _).mono ?_; rintro e w' ⟨rfl, rfl⟩)
      go_ret
      exact ret_int' rfl (by go_grown)

theorem order_calls {t u : Tm} {w : World} (h : t.In w) (hu : u.In w) : Calls Try.prog 95 #[t.val, u.val] w (Ret (.int .i64 (T.order t.erase u.erase)) w) :=
  order_upto _ t u w (Nat.le_refl _) h hu
end Go.Proofs.Ythncdmijledpnaa

namespace Go.Proofs.Ythncdmijledpnaa
open Go.RowKit

def T.check (t : T) : Int := if t.formed then 0 else 2

/-- A block that holds a term. -/
def Boxed (w : World) (b : Nat) (t : Tm) : Prop :=
  w.cell? ⟨b, 0, none⟩ = some (.int .i64 t.k) ∧ w.cell? ⟨b, 1, none⟩ = some (.int .i64 t.n) ∧ w.cell? ⟨b, 2, none⟩ = some (.string t.s) ∧ w.cell? ⟨b, 3, none⟩ = some (.slice t.p t.l.length t.c)
theorem Boxed.gr {w w' : World} {b : Nat} {t : Tm} (hg : Gr w w') (h : Boxed w b t) : Boxed w' b t :=
  ⟨Gr.at hg h.1, Gr.at hg h.2.1, Gr.at hg h.2.2.1, Gr.at hg h.2.2.2⟩

theorem two_row {t u : Tm} {w : World} {b : Nat} (ht : t.In w) (hu : u.In w)
    (c0 : w.cell? ⟨b, 0, none⟩ = some (.int .i64 t.k)) (c1 : w.cell? ⟨b, 1, none⟩ = some (.int .i64 t.n)) (c2 : w.cell? ⟨b, 2, none⟩ = some (.string t.s)) (c3 : w.cell? ⟨b, 3, none⟩ = some (.slice t.p t.l.length t.c))
    (d0 : w.cell? ⟨b, 4, none⟩ = some (.int .i64 u.k)) (d1 : w.cell? ⟨b, 5, none⟩ = some (.int .i64 u.n)) (d2 : w.cell? ⟨b, 6, none⟩ = some (.string u.s)) (d3 : w.cell? ⟨b, 7, none⟩ = some (.slice u.p u.l.length u.c)) :
    Tm.Sl w (some ⟨b, 0, none⟩) 2 [t, u] := by
  refine ⟨Nat.le_refl _, ⟨by simp, by simp⟩, .inr ⟨b, 0, rfl, ?_⟩, Tm.InL_of fun x hx => ?_⟩
  · intro i x hx
    match i, hx with
    | 0, hx => cases hx; exact ⟨c0, c1, c2, c3⟩
    | 1, hx => cases hx; exact ⟨d0, d1, d2, d3⟩
  · simp only [List.mem_cons, List.mem_nil_iff, or_false] at hx
    rcases hx with rfl | rfl
    · exact ht
    · exact hu

end Go.Proofs.Ythncdmijledpnaa

namespace Go.Proofs.Ythncdmijledpnaa
open Go.RowKit Go.Maps

/-- Block b is a map: it holds just what f says. -/
def GMap {K : Type} (k : TypeId) (κ : K → Value) (w : World) (b : Nat) (f : K → Option Value) : Prop :=
  ∃ (E : Array MapEntry) (c : Nat), w.heap[b]? = some (.map E c) ∧ (∀ e ∈ E.toList, ∃ l, keyOf Try.prog k e.key = some l) ∧ (E.toList.map (·.key)).Nodup ∧
    ∀ x v, f x = some v ↔ ∃ e ∈ E.toList, e.key = κ x ∧ e.val = v

section
variable {K : Type} {k : TypeId} {κ : K → Value} {w w' : World} {b : Nat} {f : K → Option Value}
theorem GMap.lt (h : GMap k κ w b f) : b < w.heap.size := by
  obtain ⟨E, c, h1, _⟩ := h
  exact (Array.getElem?_eq_some_iff.1 h1).1
theorem GMap.same (h : GMap k κ w b f) (hb : w'.heap[b]? = w.heap[b]?) : GMap k κ w' b f := by
  obtain ⟨E, c, h1, h2⟩ := h
  exact ⟨E, c, hb.trans h1, h2⟩
theorem GMap.gr (h : GMap k κ w b f) (hg : Gr w w') : GMap k κ w' b f := h.same (hg.block b h.lt)
theorem GMap.kp {C : Nat → Prop} (h : GMap k κ w b f) (hg : Kp C w w') (hb : ¬ C b) : GMap k κ w' b f := h.same (hg.block b h.lt hb)
theorem GMap.made (k : TypeId) (κ : K → Value) (w : World) : GMap k κ (w.alloc (.map #[] 0)) w.heap.size fun _ => none :=
  ⟨#[], 0, heap_alloc_new _ _, (fun _ h => by cases h), List.nodup_nil, fun x v => ⟨(fun h => by cases h), fun ⟨e, he, _⟩ => by cases he⟩⟩
theorem GMap.ext {g : K → Option Value} (h : GMap k κ w b f) (hfg : ∀ x, f x = g x) : GMap k κ w b g := (funext hfg : f = g) ▸ h

set_option maxRecDepth 100000 in
theorem GMap.run (h : GMap k κ w b f) (KK : Keyed Try.prog k) {t e : TypeId} (ht : Try.prog.underlying t = some (.map k e)) {z : Value} (hz : (zeroValue e).run Try.prog w = .ok z w) {x : K} {l : Lit} (hx : keyOf Try.prog k (κ x) = some l) :
    (Instr.lookup t (.map (some b)) (κ x) false).run Try.prog w = .ok ((f x).getD z) w ∧ (Instr.lookup t (.map (some b)) (κ x) true).run Try.prog w = .ok (.tuple #[(f x).getD z, .bool (f x).isSome]) w := by
  obtain ⟨E, c, hb, hk, hn, hf⟩ := h
  rcases KK.find w hx E.toList hk with ⟨h1, h2⟩ | ⟨j, e0, h1, h2, h3⟩
  · have hfx : f x = none := by
      cases hv : f x with
      | none => rfl
      | some v =>
        obtain ⟨e, he, hek, _⟩ := (hf x v).1 hv
        exact absurd hek (h2 e he)
    rw [hfx]
    constructor
    · simp [Instr.lookup, run_underlying ht, MapKept.run_getObj_map hb, KK.check w _ hx, h1, hz, Result.andThen]
    · simp [Instr.lookup, run_underlying ht, MapKept.run_getObj_map hb, KK.check w _ hx, h1, hz, Result.andThen]
  · have hfx : f x = some e0.val := (hf x e0.val).2 ⟨e0, List.mem_of_getElem? h2, h3, rfl⟩
    rw [hfx]
    constructor
    · simp [Instr.lookup, run_underlying ht, MapKept.run_getObj_map hb, KK.check w _ hx, h1, Result.andThen]
    · simp [Instr.lookup, run_underlying ht, MapKept.run_getObj_map hb, KK.check w _ hx, h1, Result.andThen]

theorem setBlock_grown {E : Array MapEntry} {c : Nat} (hb : w.heap[b]? = some (.map E c)) (o : Obj) : w.grownBy (ChangeMaps.setBlock w b o) (some b) :=
  ⟨rfl, rfl, rfl, by simp [ChangeMaps.setBlock], fun i _ hi => ChangeMaps.heap_setBlock_other hb _ (fun e => hi (by rw [e]))⟩

set_option maxRecDepth 100000 in
theorem GMap.update (h : GMap k κ w b f) (KK : Keyed Try.prog k) {t e : TypeId} (ht : Try.prog.underlying t = some (.map k e)) {x : K} {l : Lit} (hx : keyOf Try.prog k (κ x) = some l) (hinj : ∀ y, κ y = κ x → y = x) (v : Value)
    {g : K → Option Value} (hg1 : g x = some v) (hg2 : ∀ y, y ≠ x → g y = f y) :
    ∃ w', (Instr.mapUpdate t (.map (some b)) (κ x) v).run Try.prog w = .ok () w' ∧ GMap k κ w' b g ∧ w.grownBy w' (some b) := by
  obtain ⟨E, c, hb, hk, hn, hf⟩ := h
  rcases KK.find w hx E.toList hk with ⟨h1, h2⟩ | ⟨j, e0, h1, h2, h3⟩
  · refine ⟨ChangeMaps.setBlock w b (.map (E.push ⟨κ x, v, c⟩) (c + 1)), ?_, ⟨E.push ⟨κ x, v, c⟩, c + 1, ChangeMaps.heap_setBlock_same hb _, ?_, ?_, ?_⟩, setBlock_grown hb _⟩
    · simp [Instr.mapUpdate, run_underlying ht, MapKept.run_getObj_map hb, KK.check w false hx, h1, MapKept.run_setObj_map _ hb, Result.andThen, ChangeMaps.setBlock]
    · intro e he
      rw [Array.toList_push, List.mem_append, List.mem_singleton] at he
      rcases he with he | rfl
      · exact hk e he
      · exact ⟨l, hx⟩
    · rw [Array.toList_push, List.map_append, List.nodup_append]
      refine ⟨hn, by simp, ?_⟩
      intro a ha d hd
      obtain ⟨e, he, rfl⟩ := List.mem_map.1 ha
      simp only [List.map_cons, List.map_nil, List.mem_singleton] at hd
      subst hd
      exact h2 e he
    · intro y v'
      rw [Array.toList_push]
      by_cases hy : y = x
      · subst hy
        rw [hg1]
        constructor
        · intro h; cases h; exact ⟨⟨κ y, v, c⟩, by simp, rfl, rfl⟩
        · rintro ⟨e, he, he2, rfl⟩
          rcases List.mem_append.1 he with he | he
          · exact absurd he2 (h2 e he)
          · rw [List.mem_singleton.1 he]
      · rw [hg2 y hy, hf y v']
        constructor
        · rintro ⟨e, he, h3⟩; exact ⟨e, List.mem_append_left _ he, h3⟩
        · rintro ⟨e, he, he2, he3⟩
          rcases List.mem_append.1 he with he | he
          · exact ⟨e, he, he2, he3⟩
          · rw [List.mem_singleton.1 he] at he2
            exact absurd (hinj y he2.symm) hy
  · have hj : E[j]? = some e0 := by simpa using h2
    obtain ⟨hjl, hj0⟩ := List.getElem?_eq_some_iff.1 h2
    obtain ⟨A, a, B, hE, hA, hM⟩ := List.exists_of_modify (fun e : MapEntry => { e with key := κ x, val := v }) hjl
    have ha : a = e0 := by
      rw [hE, List.getElem?_append_right (by omega), hA, Nat.sub_self] at h2
      exact Option.some.inj h2
    subst ha
    have hM' : (E.modify j fun e => { e with key := κ x, val := v }).toList = A ++ { a with key := κ x, val := v } :: B := by rw [Array.toList_modify]; exact hM
    have hn2 := hn
    rw [hE, List.map_append, List.map_cons, h3, List.nodup_append, List.nodup_cons] at hn2
    obtain ⟨n1, ⟨n2, n3⟩, n4⟩ := hn2
    refine ⟨ChangeMaps.setBlock w b (.map (E.modify j fun e => { e with key := κ x, val := v }) c), ?_, ⟨E.modify j fun e => { e with key := κ x, val := v }, c, ChangeMaps.heap_setBlock_same hb _, ?_, ?_, ?_⟩, setBlock_grown hb _⟩
    · simp [Instr.mapUpdate, run_underlying ht, MapKept.run_getObj_map hb, KK.check w false hx, h1, hj, h3, KK.stays w hx, MapKept.run_setObj_map _ hb, Result.andThen, ChangeMaps.setBlock]
    · rw [hM']
      intro e he
      rcases List.mem_append.1 he with he | he
      · exact hk e (by rw [hE]; exact List.mem_append_left _ he)
      · rcases List.mem_cons.1 he with rfl | he
        · exact ⟨l, hx⟩
        · exact hk e (by rw [hE]; exact List.mem_append_right _ (List.mem_cons_of_mem _ he))
    · rw [hM', List.map_append, List.map_cons, List.nodup_append, List.nodup_cons]
      exact ⟨n1, ⟨n2, n3⟩, n4⟩
    · intro y v'
      rw [hM']
      by_cases hy : y = x
      · subst hy
        rw [hg1]
        constructor
        · intro h; cases h; exact ⟨{ a with key := κ y, val := v }, by simp, rfl, rfl⟩
        · rintro ⟨e, he, he2, rfl⟩
          rcases List.mem_append.1 he with he | he
          · exact absurd he2 (n4 e.key (List.mem_map_of_mem he) (κ y) (by simp))
          · rcases List.mem_cons.1 he with rfl | he
            · rfl
            · exact absurd (List.mem_map_of_mem (f := (·.key)) he) (by simp only [he2]; exact n2)
      · rw [hg2 y hy, hf y v', hE]
        have hne : κ x ≠ κ y := fun e => hy (hinj y e.symm)
        constructor
        · rintro ⟨e, he, he2, he3⟩
          rcases List.mem_append.1 he with he | he
          · exact ⟨e, List.mem_append_left _ he, he2, he3⟩
          · rcases List.mem_cons.1 he with rfl | he
            · exact absurd (h3.symm.trans he2) hne
            · exact ⟨e, List.mem_append_right _ (List.mem_cons_of_mem _ he), he2, he3⟩
        · rintro ⟨e, he, he2, he3⟩
          rcases List.mem_append.1 he with he | he
          · exact ⟨e, List.mem_append_left _ he, he2, he3⟩
          · rcases List.mem_cons.1 he with rfl | he
            · exact absurd he2 hne
            · exact ⟨e, List.mem_append_right _ (List.mem_cons_of_mem _ he), he2, he3⟩
end
end Go.Proofs.Ythncdmijledpnaa

namespace Go.Proofs.Ythncdmijledpnaa
open Go.RowKit Go.Maps Go.Lib

/-- A new slice of one term. -/
theorem one_new {t : Tm} {w w' : World} (ht : t.In w) (hg : Gr (w.alloc (.cells #[.int .i64 t.k, .int .i64 t.n, .string t.s, .slice t.p t.l.length t.c] 25)) w') : Tm.Sl w' (some ⟨w.heap.size, 0, none⟩) 1 [t] := by
  obtain ⟨⟨y0, y1, y2, y3⟩, _, _⟩ := ((Blk4.new w (.int .i64 t.k) (.int .i64 t.n) (.string t.s) (.slice t.p t.l.length t.c)).gr hg).parts
  exact one_row (Tm.In_below (below_step hg (by go_grown)) ht) y0 y1 y2 y3

theorem tm_val (k n : Int) (s : ByteArray) (p : Option Addr) (c : Nat) (l : List Tm) : (Tm.mk k n s p c l).val = .agg #[.int .i64 k, .int .i64 n, .string s, .slice p l.length c] := rfl

/-- A new slice of two terms. -/
theorem two_new {t u : Tm} {w w' : World} (ht : t.In w) (hu : u.In w)
    (hg : Gr (w.alloc (.cells #[.int .i64 t.k, .int .i64 t.n, .string t.s, .slice t.p t.l.length t.c, .int .i64 u.k, .int .i64 u.n, .string u.s, .slice u.p u.l.length u.c] 25)) w') : Tm.Sl w' (some ⟨w.heap.size, 0, none⟩) 2 [t, u] := by
  have hb : w'.heap[w.heap.size]? = some (.cells #[.int .i64 t.k, .int .i64 t.n, .string t.s, .slice t.p t.l.length t.c, .int .i64 u.k, .int .i64 u.n, .string u.s, .slice u.p u.l.length u.c] 25) :=
    (hg.block w.heap.size (by simp)).trans (heap_alloc_new w _)
  have hw : Gr w w' := below_step hg (by go_grown)
  exact two_row (Tm.In_below hw ht) (Tm.In_below hw hu) (cell_of_row _ _ 0 _ _ _ hb) (cell_of_row _ _ 1 _ _ _ hb) (cell_of_row _ _ 2 _ _ _ hb) (cell_of_row _ _ 3 _ _ _ hb) (cell_of_row _ _ 4 _ _ _ hb) (cell_of_row _ _ 5 _ _ _ hb) (cell_of_row _ _ 6 _ _ _ hb) (cell_of_row _ _ 7 _ _ _ hb)

theorem Blk4.set4 {w : World} {b : Nat} {v0 v1 v2 v3 : Value} (h : Blk4 w b v0 v1 v2 v3) (u0 u1 u2 u3 : Value) : Blk4 ((((w.setCell ⟨b, 0, none⟩ u0).setCell ⟨b, 1, none⟩ u1).setCell ⟨b, 2, none⟩ u2).setCell ⟨b, 3, none⟩ u3) b u0 u1 u2 u3 := by
  have h1 := heap_setCell_same _ b 0 _ _ u0 h
  have h2 := heap_setCell_same _ b 1 _ _ u1 h1
  have h3 := heap_setCell_same _ b 2 _ _ u2 h2
  have h4 := heap_setCell_same _ b 3 _ _ u3 h3
  exact h4

/-- A block that is just these cells. -/
def BlkT (w : World) (b : Nat) (t : TypeId) (vs : Array Value) : Prop := w.heap[b]? = some (.cells vs t)
section
variable {w w' : World} {b : Nat} {t : TypeId} {vs : Array Value}
theorem BlkT.lt (h : BlkT w b t vs) : b < w.heap.size := (Array.getElem?_eq_some_iff.1 h).1
theorem BlkT.gr (h : BlkT w b t vs) (hg : Gr w w') : BlkT w' b t vs := (hg.block b h.lt).trans h
theorem BlkT.kp {C : Nat → Prop} (h : BlkT w b t vs) (hg : Kp C w w') (hb : ¬ C b) : BlkT w' b t vs := (hg.block b h.lt hb).trans h
theorem BlkT.new (w : World) (t : TypeId) (vs : Array Value) : BlkT (w.alloc (.cells vs t)) w.heap.size t vs := heap_alloc_new w _
theorem BlkT.cell (h : BlkT w b t vs) (i : Nat) {v : Value} (hi : vs[i]? = some v) : w.cell? ⟨b, i, none⟩ = some v := by rw [cell_of_row w b i _ _ _ h, hi]
theorem BlkT.open_ (h : BlkT w b t vs) (i : Nat) : w.frozen? ⟨b, i, none⟩ = false := frozen_of_row w b i _ _ h
theorem BlkT.set (h : BlkT w b t vs) (i : Nat) (v : Value) : BlkT (w.setCell ⟨b, i, none⟩ v) b t (vs.setIfInBounds i v) := heap_setCell_same _ b i _ _ v h
end

/-- append of nothing. -/
theorem run_append_empty {P : Program} (w : World) (t ty e : TypeId) (i : TypeInfo) (ht : P.underlying t = some (.slice e)) (hi : P.info? e = some i) (q : Option Addr) (k cp : Nat) (p : Option Addr) (c : Nat) (hk : k ≤ cp) :
    (Builtin.append_ #[t, t] ty #[.slice q k cp, .slice p 0 c]).run P w = .ok (.slice q k cp) w := by
  have h0 : (Builtin.firstCells i.size 0 (.slice p 0 c)).run P w = .ok #[] w := by
    cases p with
    | none => exact run_firstCells_none w _ _ _ _
    | some a => exact run_firstCells_some w i.size 0 a 0 c [] (by simp) (by simp)
  cases q <;> simp [Builtin.append_, run_underlying ht, Go.sizeOf, typeInfo, hi, hk, h0, Builtin.lenOf, storeCells]
end Go.Proofs.Ythncdmijledpnaa
