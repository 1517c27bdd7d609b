/-
  term.Order, slices.CompareFunc by it
  term.Check, term.Compare
  A map from numbers to numbers that renames; what it keeps while it grows; term.Renamed's function.
-/
import Derived.Test.YtjdoflfdlhpbmaaGreatBF01
import Derived.Test.YtjdoflfdlhpbmaaGreatBF04
import Derived.Maps.OwnSet
import Derived.Deep.LoopGhost
import Derived.Deep.CutRange
import Derived.Deep.CutBlock
namespace Go.Proofs.YtjdoflfdlhpbmaaGreat
open Go.RowKit

mutual
/-- The order of terms. -/
def T.order : T → T → Int
  | .mk k n s l, .mk k' n' s' l' =>
    if k = k' then
      if k = 3 then Lib.compareBytes s s'
      else if k = 4 then
        (if (if cmpI l.length l'.length = 0 then Lib.compareBytes s s' else cmpI l.length l'.length) = 0 then T.orderL l l'
         else (if cmpI l.length l'.length = 0 then Lib.compareBytes s s' else cmpI l.length l'.length))
      else cmpI n n'
    else cmpI k k'
def T.orderL : List T → List T → Int
  | [], [] => 0
  | [], _ :: _ => -1
  | _ :: _, [] => 1
  | x :: xs, y :: ys => if T.order x y = 0 then T.orderL xs ys else T.order x y
end

/-- What Order's contract says of two terms, up to a size. -/
def OrderUpto (N : Nat) : Prop := ∀ (t u : Tm) (w : World), SizeOf.sizeOf t ≤ N → t.In w → u.In w →
    Calls Tryz.prog 52 #[t.val, u.val] w (Ret (.int .i64 (T.order t.erase u.erase)) w)

theorem ret_int' {a b : Int} {w w' : World} (h : a = b) (hb : Gr w w') : Ret (.int .i64 b) w (.returned (.int .i64 a)) w' := ⟨by rw [h], hb⟩

set_option maxHeartbeats 400000 in
theorem compareFunc_calls {N : Nat} (hO : OrderUpto N) {p p' : Option Addr} {c c' : Nat} {l l' : List Tm} {w : World} (h : Tm.Sl w p c l) (h' : Tm.Sl w p' c' l') (hN : ∀ x ∈ l, SizeOf.sizeOf x ≤ N) :
    Calls Tryz.prog 73 #[.slice p l.length c, .slice p' l'.length c', .func (.func 52) #[] #[]] w (Ret (.int .i64 (T.orderL (Tm.eraseL l) (Tm.eraseL l'))) w) := by
  have H := Lib.hid h
  have H' := Lib.hid h'
  have HO := Lib.hid hO
  have HN := Lib.hid hN
  have hlc := h.1
  have hcb := h.2.1
  have hlc' := h'.1
  have hcb' := h'.2.1
  clear h h' hO hN
  generalize hr : T.orderL (Tm.eraseL l) (Tm.eraseL l') = r
  have Hr := Lib.hid hr
  clear hr
  go_enter Tryz.func73, Tryz.ntmps73
  go_wp2_with fail
  go_loopw [13] (fun i wr => ∃ k : Nat, k ≤ l.length ∧ k ≤ l'.length ∧ i = .int .i64 k ∧ Hid (T.orderL (Tm.eraseL (l.drop k)) (Tm.eraseL (l'.drop k)) = r) ∧ Gr w wr)
    (fun i _ => l.length - (intOf i).toNat)
  case atStart => exact ⟨0, Nat.zero_le _, Nat.zero_le _, rfl, Hr.out, by go_grown⟩
  case round =>
    obtain ⟨k, hk, hk', rfl, hpre, hb⟩ := hrel
    have hbs := hb.size
    by_cases hlt : k < l.length
    · have hS := H.out.mono hb
      obtain ⟨b, o, rfl⟩ := hS.ptr (by omega)
      obtain ⟨⟨c0, c1, c2, c3⟩, hx, _⟩ := hS.elem k hlt
      have Hx := Lib.hid hx
      have hmem : l[k] ∈ l := List.getElem_mem hlt
      have Hz := Lib.hid (HN.out _ hmem)
      clear hS hx
      have hdr : Tm.eraseL (l.drop k) = l[k].erase :: Tm.eraseL (l.drop (k + 1)) := by
        rw [List.drop_eq_getElem_cons hlt, Tm.eraseL]
      by_cases hlt' : k < l'.length
      · have hS' := H'.out.mono hb
        obtain ⟨b', o', rfl⟩ := hS'.ptr (by omega)
        obtain ⟨⟨d0, d1, d2, d3⟩, hx', _⟩ := hS'.elem k hlt'
        have Hx' := Lib.hid hx'
        clear hS' hx'
        have hdr' : Tm.eraseL (l'.drop k) = l'[k].erase :: Tm.eraseL (l'.drop (k + 1)) := by
          rw [List.drop_eq_getElem_cons hlt', Tm.eraseL]
        have hst : Hid ((if T.order l[k].erase l'[k].erase = 0 then T.orderL (Tm.eraseL (l.drop (k + 1))) (Tm.eraseL (l'.drop (k + 1))) else T.order l[k].erase l'[k].erase) = r) := by
          have h9 := hpre.out
          rw [hdr, hdr', T.orderL] at h9
          exact h9
        clear hdr hdr' hpre
        generalize hxe : l[k] = x at *
        generalize hxe' : l'[k] = x' at *
        go_wp2_with fail
        refine (HO.out x x' _ Hz.out (Tm.In_below (by go_grown) Hx.out) (Tm.In_below (by go_grown) Hx'.out)).mono ?_
        rintro e w1 ⟨rfl, hb1⟩
        generalize hxf : T.order x.erase x'.erase = ox
        rw [hxf] at hst
        clear hxf
        by_cases ho : ox = 0
        · have Hst : Hid (T.orderL (Tm.eraseL (l.drop (k + 1))) (Tm.eraseL (l'.drop (k + 1))) = r) := (if_pos ho).symm.trans hst.out
          subst ho
          go_wp2_with fail
          go_roundw
          case rel => exact ⟨k + 1, by omega, by omega, by go_num, Hst, below_step hb1 (by go_grown)⟩
          case measure => simp [intOf]; omega
        · have ho' : (ox != 0) = true := by simp [ho]
          go_wp2_with fail
          go_ret
          refine ret_int' ?_ (below_step hb1 (by go_grown))
          rw [← hst.out, if_neg ho]
      · go_wp2_with fail
        go_ret
        refine ret_int' ?_ (by go_grown)
        rw [← hpre.out, hdr, show l'.drop k = [] from List.drop_eq_nil_of_le (by omega), Tm.eraseL, T.orderL]
    · by_cases hlt' : k < l'.length
      · go_wp2_with fail
        go_ret
        refine ret_int' ?_ (by go_grown)
        rw [← hpre.out, show l.drop k = [] from List.drop_eq_nil_of_le (by omega), List.drop_eq_getElem_cons hlt', Tm.eraseL, Tm.eraseL, T.orderL]
      · go_wp2_with fail
        go_ret
        refine ret_int' ?_ (by go_grown)
        rw [← hpre.out, show l.drop k = [] from List.drop_eq_nil_of_le (by omega), show l'.drop k = [] from List.drop_eq_nil_of_le (by omega), Tm.eraseL, T.orderL]

def pairAt (x y : Int) : VP := fun v w => ∃ b : Nat, v = .slice (some ⟨b, 0, none⟩) 2 2 ∧ w.cell? ⟨b, 0, none⟩ = some (.int .i64 x) ∧ w.cell? ⟨b, 1, none⟩ = some (.int .i64 y)
theorem pairAt_mk {x y : Int} {b : Nat} {w : World} (h0 : w.cell? ⟨b, 0, none⟩ = some (.int .i64 x)) (h1 : w.cell? ⟨b, 1, none⟩ = some (.int .i64 y)) : pairAt x y (.slice (some ⟨b, 0, none⟩) 2 2) w := ⟨b, rfl, h0, h1⟩
theorem pairAt_stable {x y : Int} : ∀ v w w', pairAt x y v w → Gr w w' → pairAt x y v w' :=
  fun _ _ _ ⟨b, h1, h2, h3⟩ hg => ⟨b, h1, Gr.at hg h2, Gr.at hg h3⟩

set_option maxHeartbeats 1000000 in
set_option maxRecDepth 100000 in
theorem order_upto (N : Nat) : OrderUpto N := by
  induction N with
  | zero => intro t u w h; cases t; simp at h
  | succ N ih =>
    intro t u w hN h hu
    obtain ⟨k, n, s, p, c, l⟩ := t
    obtain ⟨k', n', s', p', c', l'⟩ := u
    have hsz := fun x (hx : x ∈ l) => Tm.sizeOf_mem hx k n s p c
    have H := Lib.hid h.sl
    have H' := Lib.hid hu.sl
    rw [Tm.In] at h hu
    obtain ⟨_, _, hs, hl, hc, _, _⟩ := h
    obtain ⟨_, _, hs', hl', hc', _, _⟩ := hu
    have Hsz : Hid (∀ x ∈ l, SizeOf.sizeOf x ≤ N) := fun x hx => by have := hsz x hx; omega
    have Hih := Lib.hid ih
    clear hsz ih
    simp only [Tm.val, Tm.k, Tm.n, Tm.s, Tm.p, Tm.c, Tm.l, Tm.erase, T.order, Tm.eraseL_length]
    by_cases hk : k = k'
    · subst hk
      rw [if_pos rfl]
      by_cases hk3 : k = 3
      · subst hk3
        rw [if_pos rfl]
        go_enter Tryz.func52, Tryz.ntmps52
        go_wp2_with (go_at_call 71; refine (strings_compare _ _ _).mono ?_; rintro e w' ⟨rfl, rfl⟩)
        go_ret
        exact ret_int' rfl (by go_grown)
      rw [if_neg hk3]
      by_cases hk4 : k = 4
      · subst hk4
        rw [if_pos rfl]
        generalize hz : (if cmpI l.length l'.length = 0 then Lib.compareBytes s.toList s'.toList else cmpI l.length l'.length) = z
        have Hz := Lib.hid hz
        clear hz
        generalize hr : (if z = 0 then _ else z) = r
        have Hr := Lib.hid hr
        clear hr
        go_enter Tryz.func52, Tryz.ntmps52
        go_wp2_with fail
        refine wp_region_rely [fx (.pointer (some ⟨w.heap.size, 3, none⟩)), fx (.slice p l.length c), fx (.int .i64 l.length), fx (.pointer (some ⟨w.heap.size + 1, 3, none⟩)), fx (.slice p' l'.length c'), fx (.int .i64 l'.length),
            fx (.int .i64 (cmpI l.length l'.length)), fx (.pointer (some ⟨w.heap.size, 2, none⟩)), fx (.string s), fx (.pointer (some ⟨w.heap.size + 1, 2, none⟩)), fx (.string s'),
            fx (.int .i64 (Lib.compareBytes s.toList s'.toList)), pairAt (cmpI l.length l'.length) (Lib.compareBytes s.toList s'.toList), fx (.int .i64 z), fx (.int .i64 z)]
            (by kernel_rfl) (by kernel_rfl) (by repeat (first | exact Stable.nil | refine Stable.fix ?_ | refine Stable.cons pairAt_stable ?_)) ?_ ?_
        · refine ⟨?_, ?_, ?_, ?_, ?_, ?_, ?_, ?_, ?_, ?_, ?_, ?_, ?a12, ?a13, ?_, trivial⟩
          all_goals
            intro a w1 hg hold
            have h2 : a.tmps[2]?.getD undef = .pointer (some ⟨w.heap.size, 0, none⟩) := hold 2 rfl
            have h3 : a.tmps[3]?.getD undef = .pointer (some ⟨w.heap.size + 1, 0, none⟩) := hold 3 rfl
            clear hold
            have z1 : w1.cell? ⟨w.heap.size, 3, none⟩ = some (.slice p l.length c) := Gr.at hg (by go_cell)
            have z2 : w1.cell? ⟨w.heap.size + 1, 3, none⟩ = some (.slice p' l'.length c') := Gr.at hg (by go_cell)
            have z3 : w1.cell? ⟨w.heap.size, 2, none⟩ = some (.string s) := Gr.at hg (by go_cell)
            have z4 : w1.cell? ⟨w.heap.size + 1, 2, none⟩ = some (.string s') := Gr.at hg (by go_cell)
            simp [predsImp, Region.binds, dstAt, fx]
            intros
            rename_i K hK
            go_simp
          case a12 => exact hK _ _ (pairAt_mk (by go_cell) (by go_cell)) (by go_grown)
          case a13 =>
            have hp : pairAt (cmpI l.length l'.length) (Lib.compareBytes s.toList s'.toList) (a.tmps[39]?.getD undef) w1 := by assumption
            obtain ⟨b, hb, hb0, hb1⟩ := hp
            rw [hb]
            refine (or_two _ _ b 0 _ hb0 hb1).mono ?_
            rintro e w2 ⟨rfl, rfl⟩
            rw [Hz.out]
            exact hK _ _ rfl (Gr.rfl' _)
          all_goals first
            | exact hK _ _ rfl (Gr.rfl' _)
            | (refine (compare_int _ _ _).mono ?_
               rintro e w2 ⟨rfl, rfl⟩
               exact hK _ _ rfl (Gr.rfl' _))
            | (refine (strings_compare _ _ _).mono ?_
               rintro e w2 ⟨rfl, rfl⟩
               exact hK _ _ rfl (Gr.rfl' _))
        · intro w1 hg
          have z1 : w1.cell? ⟨w.heap.size, 3, none⟩ = some (.slice p l.length c) := Gr.at hg (by go_cell)
          have z2 : w1.cell? ⟨w.heap.size + 1, 3, none⟩ = some (.slice p' l'.length c') := Gr.at hg (by go_cell)
          have hg0 : Gr w w1 := below_step hg (by go_grown)
          clear hg
          rintro _ rfl _ rfl _ rfl _ rfl _ rfl _ rfl _ rfl _ rfl _ rfl _ rfl _ rfl _ rfl _ ⟨b, rfl, _, _⟩ _ rfl _ rfl
          simp only [finAll, Act.put, Exit.then, List.setIfInBounds_toArray, List.set_cons_succ, List.set_cons_zero]
          by_cases hz0 : z = 0
          · have hz' : (z != 0) = false := by simp [hz0]
            have HR : Hid (r = T.orderL (Tm.eraseL l) (Tm.eraseL l')) := Hr.out.symm.trans (if_pos hz0)
            clear hz0
            go_wp2_with fail
            refine (compareFunc_calls (N := N) Hih.out (H.out.mono hg0) (H'.out.mono hg0) Hsz.out).mono ?_
            rintro e w2 ⟨rfl, hb2⟩
            go_wp2_with fail
            go_ret
            exact ret_int' HR.out.symm (hg0.trans hb2)
          · have hz' : (z != 0) = true := by simp [hz0]
            have HR : Hid (r = z) := Hr.out.symm.trans (if_neg hz0)
            clear hz0
            go_wp2_with fail
            go_ret
            exact ret_int' HR.out.symm hg0
      · rw [if_neg hk4]
        have hk3' : (k == 3) = false := by simp [hk3]
        have hk4' : (k == 4) = false := by simp [hk4]
        clear hk3 hk4
        go_enter Tryz.func52, Tryz.ntmps52
        go_wp2_with (go_at_call 74; refine (compare_int64 _ _ _).mono ?_; rintro e w' ⟨rfl, rfl⟩)
        go_ret
        exact ret_int' rfl (by go_grown)
    · rw [if_neg hk]
      have hk' : (k != k') = true := by simp [hk]
      go_enter Tryz.func52, Tryz.ntmps52
      go_wp2_with (go_at_call 70; refine (compare_int _ _ _).mono ?_; rintro e w' ⟨rfl, rfl⟩)
      go_ret
      exact ret_int' rfl (by go_grown)

theorem order_calls {t u : Tm} {w : World} (h : t.In w) (hu : u.In w) : Calls Tryz.prog 52 #[t.val, u.val] w (Ret (.int .i64 (T.order t.erase u.erase)) w) :=
  order_upto _ t u w (Nat.le_refl _) h hu
end Go.Proofs.YtjdoflfdlhpbmaaGreat

namespace Go.Proofs.YtjdoflfdlhpbmaaGreat
open Go.RowKit

def T.check (t : T) : Int := if t.formed then 0 else 2


/-- A block that holds a term. -/
def Boxed (w : World) (b : Nat) (t : Tm) : Prop :=
  w.cell? ⟨b, 0, none⟩ = some (.int .i64 t.k) ∧ w.cell? ⟨b, 1, none⟩ = some (.int .i64 t.n) ∧ w.cell? ⟨b, 2, none⟩ = some (.string t.s) ∧ w.cell? ⟨b, 3, none⟩ = some (.slice t.p t.l.length t.c)
theorem Boxed.gr {w w' : World} {b : Nat} {t : Tm} (hg : Gr w w') (h : Boxed w b t) : Boxed w' b t :=
  ⟨Gr.at hg h.1, Gr.at hg h.2.1, Gr.at hg h.2.2.1, Gr.at hg h.2.2.2⟩

theorem two_row {t u : Tm} {w : World} {b : Nat} (ht : t.In w) (hu : u.In w)
    (c0 : w.cell? ⟨b, 0, none⟩ = some (.int .i64 t.k)) (c1 : w.cell? ⟨b, 1, none⟩ = some (.int .i64 t.n)) (c2 : w.cell? ⟨b, 2, none⟩ = some (.string t.s)) (c3 : w.cell? ⟨b, 3, none⟩ = some (.slice t.p t.l.length t.c))
    (d0 : w.cell? ⟨b, 4, none⟩ = some (.int .i64 u.k)) (d1 : w.cell? ⟨b, 5, none⟩ = some (.int .i64 u.n)) (d2 : w.cell? ⟨b, 6, none⟩ = some (.string u.s)) (d3 : w.cell? ⟨b, 7, none⟩ = some (.slice u.p u.l.length u.c)) :
    Tm.Sl w (some ⟨b, 0, none⟩) 2 [t, u] := by
  refine ⟨Nat.le_refl _, ⟨by simp, by simp⟩, .inr ⟨b, 0, rfl, ?_⟩, Tm.InL_of fun x hx => ?_⟩
  · intro i x hx
    match i, hx with
    | 0, hx => cases hx; exact ⟨c0, c1, c2, c3⟩
    | 1, hx => cases hx; exact ⟨d0, d1, d2, d3⟩
  · simp only [List.mem_cons, List.mem_nil_iff, or_false] at hx
    rcases hx with rfl | rfl
    · exact ht
    · exact hu

end Go.Proofs.YtjdoflfdlhpbmaaGreat

namespace Go.Proofs.YtjdoflfdlhpbmaaGreat
open Go.RowKit Go.Maps

/-- Nothing that was there has turned but on such blocks. -/
structure Kp (C : Nat → Prop) (w w' : World) : Prop where
  os : w'.os = w.os
  tape : w'.tape = w.tape
  output : w'.output = w.output
  size : w.heap.size ≤ w'.heap.size
  block : ∀ k, k < w.heap.size → ¬ C k → w'.heap[k]? = w.heap[k]?

section
variable {C C' : Nat → Prop} {w w' w'' : World}
theorem Kp.refl (C : Nat → Prop) (w : World) : Kp C w w := ⟨rfl, rfl, rfl, Nat.le_refl _, fun _ _ _ => rfl⟩
theorem Kp.trans (h : Kp C w w') (k : Kp C w' w'') : Kp C w w'' :=
  ⟨k.os.trans h.os, k.tape.trans h.tape, k.output.trans h.output, Nat.le_trans h.size k.size, fun i hi hc => (k.block i (Nat.lt_of_lt_of_le hi h.size) hc).trans (h.block i hi hc)⟩
theorem Kp.of_gr (h : Gr w w') : Kp C w w' := ⟨h.os, h.tape, h.output, h.size, fun i hi _ => h.block i hi⟩
theorem Kp.mono (hC : ∀ b, C b → C' b) (h : Kp C w w') : Kp C' w w' := ⟨h.os, h.tape, h.output, h.size, fun i hi hc => h.block i hi fun h => hc (hC i h)⟩
theorem Kp.weaken (hC : ∀ b, b < w.heap.size → C b → C' b) (h : Kp C w w') : Kp C' w w' := ⟨h.os, h.tape, h.output, h.size, fun i hi hc => h.block i hi fun h => hc (hC i hi h)⟩
theorem Kp.below {B : Nat} (h : Kp C w w') (hC : ∀ b, C b → B ≤ b) (hB : B ≤ w.heap.size) : Below B w w' :=
  ⟨h.os, h.tape, h.output, h.size, fun i hi => h.block i (by omega) fun hc => by have := hC i hc; omega⟩
theorem Kp.cell {p : Addr} {v : Value} (h : Kp C w w') (hc : w.cell? p = some v) (hn : ¬ C p.block) : w'.cell? p = some v :=
  (World.cell?_of_block (h.block p.block (World.block_lt_of_cell? _ _ hc) hn)).trans hc
theorem Kp.set {b o : Nat} {v : Value} (hb : C b) : Kp C w (w.setCell ⟨b, o, none⟩ v) :=
  ⟨rfl, rfl, rfl, by simp, fun i _ hc => Below.heap_setCell w ⟨b, o, none⟩ v i fun e => hc (by rw [e]; exact hb)⟩
theorem Kp.of_grownBy {r : Nat} (h : w.grownBy w' (some r)) (hr : C r) : Kp C w w' :=
  ⟨h.os, h.tape, h.output, h.size, fun i hi hc => h.block i hi fun e => hc (by cases e; exact hr)⟩
end

/-- Block b is a map: the i-th number of V has the value d + i; no other is there. -/
def NumMap (w : World) (b : Nat) (d : Int) (V : List Int) : Prop :=
  ∃ D : DataW Unit, w.ownsMap Tryz.prog 2 (plainElem Tryz.prog 2) b V.length D ∧ IsMap D ∧
    ∀ n, In64 n → (n ∈ V → has D (.int .i64 n) = true ∧ D.atKey (.int .i64 n) (.lit (.int .i64 0)) = .lit (.int .i64 (d + (V.idxOf n : Int)))) ∧ (n ∉ V → has D (.int .i64 n) = false)

theorem wf_64 {c : Int} (h : In64 c) : (Lit.int .i64 c).wf = true := WalkArith.wf_i64 h

section
variable {w w' : World} {b : Nat} {d : Int} {V : List Int}
theorem NumMap.lt (h : NumMap w b d V) : b < w.heap.size := by
  obtain ⟨D, h1, _⟩ := h
  exact h1.lt
theorem NumMap.same (h : NumMap w b d V) (hb : w'.heap[b]? = w.heap[b]?) : NumMap w' b d V := by
  obtain ⟨D, ⟨es, clock, hb0, h2⟩, h3⟩ := h
  exact ⟨D, ⟨es, clock, hb.trans hb0, h2⟩, h3⟩
theorem NumMap.made (w : World) (d : Int) : NumMap (w.alloc (.map #[] 0)) w.heap.size d [] :=
  ⟨.map [], World.ownsMap_made w _ _ _, isMap_empty, fun n _ => ⟨fun h => (by cases h), fun _ => rfl⟩⟩
theorem zero_int64 (w : World) : (zeroValue 2).run Tryz.prog w = .ok (.int .i64 0) w := by kernel_rfl

set_option maxRecDepth 100000 in
theorem NumMap.run (h : NumMap w b d V) {n : Int} (hn : In64 n) :
    (n ∈ V → (Instr.lookup 100 (.map (some b)) (.int .i64 n) true).run Tryz.prog w = .ok (.tuple #[.int .i64 (d + (V.idxOf n : Int)), .bool true]) w) ∧
    (n ∉ V → (Instr.lookup 100 (.map (some b)) (.int .i64 n) true).run Tryz.prog w = .ok (.tuple #[.int .i64 0, .bool false]) w) := by
  obtain ⟨D, h1, _, h3⟩ := h
  obtain ⟨v, ps, hrun, hv⟩ := h1.look_ok (t := 100) (int_keyed Tryz.underlying2) Tryz.underlying100 (zero_int64 w) (plainElem_int Tryz.underlying2 (wf_64 (c := 0) ⟨by omega, by omega⟩)) (keyOf_int_mk Tryz.underlying2 (wf_64 hn))
  obtain ⟨c, rfl, hc, _⟩ := plainElem_int_inv Tryz.underlying2 hv
  simp only [Prod.mk.injEq] at hc
  obtain ⟨h4, h5⟩ := h3 n hn
  refine ⟨fun hm => ?_, fun hm => ?_⟩
  · obtain ⟨h6, h7⟩ := h4 hm
    rw [h7] at hc
    have hc1 := hc.1
    injection hc1 with hc1
    injection hc1 with _ hc1
    rw [hrun, h6, hc1]
  · rw [atKey_of_not_has (h5 hm)] at hc
    have hc1 := hc.1
    injection hc1 with hc1
    injection hc1 with _ hc1
    rw [hrun, h5 hm, hc1]

theorem wpList_update_num {P : Program} {ops : Array Oper} {rest : List Oper} {o : Oper} {a : Act} {Q : Exit → Act → World → Prop} (hg : o.guard = none) (m x v : Operand)
    (hop : o.op = Op.mapUpdate 100 m x v) (hP : P = Tryz.prog) (b : Nat) (d : Int) (V : List Int) (n : Int)
    (hm : a.eval m = .map (some b)) (hx : a.eval x = .int .i64 n) (hv : a.eval v = .int .i64 (d + (V.length : Int))) (h : NumMap w b d V) (hn : In64 n) (hno : n ∉ V) (hl : V.length < maxLen) (hc : In64 (d + (V.length : Int)))
    (hK : ∀ w', NumMap w' b d (V ++ [n]) → w.grownBy w' (some b) → wpList P ops Q rest (a.put o.dst undef) w') : wpList P ops Q (o :: rest) a w := by
  subst hP
  obtain ⟨D, h1, h2, h3⟩ := h
  refine wpList_mapUpdate_own w hg m x v 100 hop 2 2 (int_keyed Tryz.underlying2) Tryz.underlying100 (plainElem Tryz.prog 2) b V.length D hm h1 hl _ _ (.int .i64 n) hx hv
    (keyOf_int_mk Tryz.underlying2 (wf_64 hn)) (.lit (.int .i64 (d + (V.length : Int)))) [] (plainElem_int Tryz.underlying2 (wf_64 hc)) ?_
  intro w' h4 h5
  refine hK w' ⟨_, by rw [List.length_append]; exact h4, h2.put _ _, fun t ht => ?_⟩ h5
  by_cases e : t = n
  · subst e
    refine ⟨fun _ => ⟨has_put_same h2 (by simp [WideAt.IsKeyLit]) _, ?_⟩, fun hm => absurd (List.mem_append_right _ (List.mem_singleton.2 rfl)) hm⟩
    rw [atKey_put_same h2 (by simp [WideAt.IsKeyLit]), List.idxOf_append, if_neg hno]
    simp
  · have hne : (Lit.int .i64 t : Lit) ≠ .int .i64 n := fun e2 => e (by injection e2)
    rw [has_put_other hne, atKey_put_other hne]
    refine ⟨fun hm => ?_, fun hm => (h3 t ht).2 fun h => hm (List.mem_append_left _ h)⟩
    have hm' : t ∈ V := by
      rcases List.mem_append.1 hm with h | h
      · exact h
      · exact absurd (List.mem_singleton.1 h) e
    rw [List.idxOf_append, if_pos hm']
    exact (h3 t ht).1 hm'
end

/-- The state of a renaming: the box of its map, its map, the box of its next number. -/
structure RenSt (d : Int) (V : List Int) (N M F : Nat) (w : World) : Prop where
  box : w.heap[N]? = some (.cells #[.map (some M)] 100)
  next : w.heap[F]? = some (.cells #[.int .i64 (d + (V.length : Int))] 2)
  map : NumMap w M d V
  apart : N ≠ M ∧ N ≠ F ∧ M ≠ F

theorem RenSt.gr {d : Int} {V : List Int} {N M F : Nat} {w w' : World} (h : RenSt d V N M F w) (hg : Gr w w') : RenSt d V N M F w' :=
  ⟨(hg.block N (Array.getElem?_eq_some_iff.1 h.box).1).trans h.box, (hg.block F (Array.getElem?_eq_some_iff.1 h.next).1).trans h.next, h.map.same (hg.block M h.map.lt), h.apart⟩
theorem RenSt.kp {C : Nat → Prop} {d : Int} {V : List Int} {N M F : Nat} {w w' : World} (h : RenSt d V N M F w) (hg : Kp C w w') (hN : ¬ C N) (hM : ¬ C M) (hF : ¬ C F) : RenSt d V N M F w' :=
  ⟨(hg.block N (Array.getElem?_eq_some_iff.1 h.box).1 hN).trans h.box, (hg.block F (Array.getElem?_eq_some_iff.1 h.next).1 hF).trans h.next, h.map.same (hg.block M h.map.lt hM), h.apart⟩
theorem RenSt.lts {d : Int} {V : List Int} {N M F : Nat} {w : World} (h : RenSt d V N M F w) : N < w.heap.size ∧ M < w.heap.size ∧ F < w.heap.size :=
  ⟨(Array.getElem?_eq_some_iff.1 h.box).1, h.map.lt, (Array.getElem?_eq_some_iff.1 h.next).1⟩

theorem vV_calls (n : Int) (w : World) : Calls Tryz.prog 45 #[.int .i64 n] w (Ret (.agg #[.int .i64 1, .int .i64 n, .string ⟨#[]⟩, .slice none 0 0]) w) := by
  go_enter Tryz.func45, Tryz.ntmps45
  go_wp2_with fail
  exact bodyPost_ret (v := .agg #[.int .i64 1, .int .i64 n, .string ⟨#[]⟩, .slice none 0 0]) (by simp [results, Tryz.results45, go_sem]) rfl ⟨rfl, by go_grown⟩

def withVar (V : List Int) (n : Int) : List Int := if n ∈ V then V else V ++ [n]

theorem set_next {d : Int} {V : List Int} {N M F : Nat} {n : Int} {w w1 : World} (h : RenSt d V N M F w) (hg : w.grownBy w1 (some M)) (hm : NumMap w1 M d (V ++ [n])) (hF : w1.heap[F]? = some (.cells #[.int .i64 (d + (V.length : Int))] 2)) :
    RenSt d (V ++ [n]) N M F (w1.setCell ⟨F, 0, none⟩ (.int .i64 (d + (V.length : Int) + 1))) ∧ Kp (fun b => b = M ∨ b = F) w (w1.setCell ⟨F, 0, none⟩ (.int .i64 (d + (V.length : Int) + 1))) ∧
      ∀ {R : Nat} {v0 v1 v2 v3 : Value}, Blk4 w R v0 v1 v2 v3 → R ≠ M → R ≠ F → Blk4 (w1.setCell ⟨F, 0, none⟩ (.int .i64 (d + (V.length : Int) + 1))) R v0 v1 v2 v3 := by
  obtain ⟨hNM, hNF, hMF⟩ := h.apart
  have hK : Kp (fun b => b = M ∨ b = F) w (w1.setCell ⟨F, 0, none⟩ (.int .i64 (d + (V.length : Int) + 1))) := (Kp.of_grownBy hg (.inl rfl)).trans (Kp.set (.inr rfl))
  refine ⟨⟨?_, ?_, hm.same (Below.heap_setCell w1 ⟨F, 0, none⟩ _ M hMF), h.apart⟩, hK, fun hB h1 h2 => ?_⟩
  · exact (hK.block N (Array.getElem?_eq_some_iff.1 h.box).1 (fun h => h.elim hNM hNF)).trans h.box
  · rw [heap_setCell_same _ F _ _ _ _ hF]
    simp only [List.setIfInBounds_toArray, List.set_cons_zero, List.length_append, List.length_cons, List.length_nil]
    rw [show d + ((V.length + (0 + 1) : Nat) : Int) = d + (V.length : Int) + 1 by omega]
  · exact (hK.block _ (Array.getElem?_eq_some_iff.1 hB).1 (fun h => h.elim h1 h2)).trans hB

set_option maxHeartbeats 1000000 in
set_option maxRecDepth 100000 in
theorem rename1_calls (d : Int) (V : List Int) (N M F : Nat) (n : Int) (w : World) (h : RenSt d V N M F w) (hn : In64 n) (hd : In64 d ∧ In64 (d + V.length + 1)) (hl : V.length < maxLen) :
    Calls Tryz.prog 50 #[.int .i64 n, .pointer (some ⟨N, 0, none⟩), .pointer (some ⟨F, 0, none⟩)] w fun e w' =>
      e = .returned (varTm (d + ((withVar V n).idxOf n : Int))).val ∧ RenSt d (withVar V n) N M F w' ∧ Kp (fun b => b = M ∨ b = F) w w' := by
  generalize hQ : (fun (e : Ending) (w' : World) => e = .returned (varTm (d + ((withVar V n).idxOf n : Int))).val ∧ RenSt d (withVar V n) N M F w' ∧ Kp (fun b => b = M ∨ b = F) w w') = Q
  have hR : Hid (∀ k w', d + ((withVar V n).idxOf n : Int) = k → RenSt d (withVar V n) N M F w' → Kp (fun b => b = M ∨ b = F) w w' → Q (.returned (varTm k).val) w') := fun k w' hk h1 h2 => by rw [← hQ, ← hk]; exact ⟨rfl, h1, h2⟩
  clear hQ
  obtain ⟨⟨hd1, hd2⟩, hd3, hd4⟩ := hd
  have HS := Lib.hid h
  obtain ⟨hlN, hlM, hlF⟩ := h.lts
  obtain ⟨hNM, hNF, hMF⟩ := h.apart
  have cN := cell_of_row w N 0 _ _ _ h.box
  have cF := cell_of_row w F 0 _ _ _ h.next
  have fF := frozen_of_row w F 0 _ _ h.next
  simp only [List.getElem?_toArray, List.getElem?_cons_zero] at cN cF
  go_enter Tryz.func50, Tryz.ntmps50
  try simp only [List.append_eq, List.cons_append, List.nil_append]
  go_upto_region 1 with fail
  have hB := Blk4.new w (.int .i64 0) (.int .i64 0) (.string ⟨#[]⟩) (.slice none 0 0)
  have gA : Gr w (w.alloc (.cells #[.int .i64 0, .int .i64 0, .string ⟨#[]⟩, .slice none 0 0] 24)) := by go_grown
  have hsz : (w.alloc (.cells #[.int .i64 0, .int .i64 0, .string ⟨#[]⟩, .slice none 0 0] 24)).heap.size = w.heap.size + 1 := by simp
  generalize w.alloc (.cells #[.int .i64 0, .int .i64 0, .string ⟨#[]⟩, .slice none 0 0] 24) = wA at *
  have HSA := Lib.hid (h.gr gA)
  have HB := Lib.hid hB
  replace cN := Gr.at gA cN
  clear h hB cF fF
  by_cases hm : n ∈ V
  · have hV : Hid (withVar V n = V) := if_pos hm
    have hrun := (HSA.out.map.run hn).1 hm
    clear hm
    rw [hV.out] at hR
    go_wp2_with (first
      | (go_at_call 45; refine (vV_calls _ _).mono ?_; rintro e w' ⟨rfl, hb⟩; obtain ⟨⟨y0, y1, y2, y3⟩, ⟨f0, f1, f2, f3⟩, hlt⟩ := (HB.out.gr hb).parts; have g2 := gA.trans hb; clear hb)
      | fail)
    refine bodyPost_ret (v := (varTm (d + (V.idxOf n : Int))).val) (by simp [results, Tryz.results50, go_sem, varTm, Tm.val, Tm.k, Tm.n, Tm.s, Tm.p, Tm.c, Tm.l, y0, y1, y2, y3]) rfl ?_
    have g3 := g2
    exact hR.out _ _ rfl (HS.out.gr (by go_grown)) (Kp.of_gr (by go_grown))
  · have hV : Hid (withVar V n = V ++ [n]) := if_neg hm
    have hidx : Hid (d + ((V ++ [n]).idxOf n : Int) = d + (V.length : Int)) := by show _ = _; rw [List.idxOf_append, if_neg hm]; simp
    have hrun := (HSA.out.map.run hn).2 hm
    have Hm := Lib.hid hm
    clear hm
    rw [hV.out] at hR
    have cF := cell_of_row wA F 0 _ _ _ HSA.out.next
    simp only [List.getElem?_toArray, List.getElem?_cons_zero] at cF
    have hw1 : IntKind.i64.wrap (d + (V.length : Int) + 1) = d + (V.length : Int) + 1 := IntWalk.i64_in _ (by omega)
    go_wp2_with (first
      | (at_mapUpdate; refine wpList_update_num rfl _ _ _ rfl rfl _ d V n rfl rfl rfl HSA.out.map hn Hm.out hl ⟨by omega, by omega⟩ ?_; intro w1 n1 hg1; have HN1 := Lib.hid n1; have HG1 := Lib.hid hg1; have hF1 : w1.heap[F]? = some (.cells #[.int .i64 (d + (V.length : Int))] 2) := (hg1.block F (Array.getElem?_eq_some_iff.1 HSA.out.next).1 (fun e => hMF (by cases e; rfl))).trans HSA.out.next; have cF1 := cell_of_row w1 F 0 _ _ _ hF1; have fF1 := frozen_of_row w1 F 0 _ _ hF1; simp only [List.getElem?_toArray, List.getElem?_cons_zero] at cF1; clear n1 hg1 cF)
      | (go_at_call 45; have X := set_next HSA.out HG1.out HN1.out hF1; refine (vV_calls _ _).mono ?_; rintro e w' ⟨rfl, hb⟩; have HS2 := Lib.hid (X.1.gr hb); have HK2 := Lib.hid (((Kp.of_gr gA).trans X.2.1).trans (Kp.of_gr hb)); obtain ⟨⟨y0, y1, y2, y3⟩, ⟨f0, f1, f2, f3⟩, hlt⟩ := ((X.2.2 HB.out (by omega) (by omega)).gr hb).parts; clear hb X cF1 fF1 hF1)
      | fail)
    refine bodyPost_ret (v := (varTm (d + (V.length : Int))).val) (by simp [results, Tryz.results50, go_sem, varTm, Tm.val, Tm.k, Tm.n, Tm.s, Tm.p, Tm.c, Tm.l, y0, y1, y2, y3]) rfl ?_
    have hK4 : ∀ a b c e : Value, Kp (fun b => b = w.heap.size) w' ((((w'.setCell ⟨w.heap.size, 0, none⟩ a).setCell ⟨w.heap.size, 1, none⟩ b).setCell ⟨w.heap.size, 2, none⟩ c).setCell ⟨w.heap.size, 3, none⟩ e) := fun a b c e =>
      (((Kp.set (C := fun b => b = w.heap.size) rfl).trans (Kp.set rfl)).trans (Kp.set rfl)).trans (Kp.set rfl)
    exact hR.out _ _ hidx.out (HS2.out.kp (hK4 _ _ _ _) (by omega) (by omega) (by omega)) (((HK2.out.mono (C' := fun b => (b = M ∨ b = F) ∨ b = w.heap.size) fun _ h => .inl h).trans ((hK4 _ _ _ _).mono fun _ h => .inr h)).weaken fun b hb hc => hc.resolve_right (by omega))
end Go.Proofs.YtjdoflfdlhpbmaaGreat
