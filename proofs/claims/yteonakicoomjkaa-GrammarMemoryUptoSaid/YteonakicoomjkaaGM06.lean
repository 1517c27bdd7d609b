/-
  term.Order, slices.CompareFunc by it
  term.Check, term.Compare
  base.body
  hornkeep's own: a term in new memory, with spare room in which marks stand.
-/
import Derived.Test.YteonakicoomjkaaGM01
import Derived.Test.YteonakicoomjkaaGM05
import Derived.Deep.LoopGhost
import Derived.Deep.CutRange
import Derived.Deep.CutBlock
import Derived.Deep.Light
namespace Go.Proofs.Yteonakicoomjkaa
open Go.RowKit

mutual
/-- The order of terms. -/
def T.order : T → T → Int
  | .mk k n s l, .mk k' n' s' l' =>
    if k = k' then
      if k = 3 then Lib.compareBytes s s'
      else if k = 4 then
        (if (if cmpI l.length l'.length = 0 then Lib.compareBytes s s' else cmpI l.length l'.length) = 0 then T.orderL l l'
         else (if cmpI l.length l'.length = 0 then Lib.compareBytes s s' else cmpI l.length l'.length))
      else cmpI n n'
    else cmpI k k'
def T.orderL : List T → List T → Int
  | [], [] => 0
  | [], _ :: _ => -1
  | _ :: _, [] => 1
  | x :: xs, y :: ys => if T.order x y = 0 then T.orderL xs ys else T.order x y
end

/-- What Order's contract says of two terms, up to a size. -/
def OrderUpto (N : Nat) : Prop := ∀ (t u : Tm) (w : World), SizeOf.sizeOf t ≤ N → t.In w → u.In w →
    Calls Try.prog 97 #[t.val, u.val] w (Ret (.int .i64 (T.order t.erase u.erase)) w)

theorem ret_int' {a b : Int} {w w' : World} (h : a = b) (hb : Gr w w') : Ret (.int .i64 b) w (.returned (.int .i64 a)) w' := ⟨by rw [h], hb⟩

set_option maxHeartbeats 400000 in
theorem compareFunc_calls {N : Nat} (hO : OrderUpto N) {p p' : Option Addr} {c c' : Nat} {l l' : List Tm} {w : World} (h : Tm.Sl w p c l) (h' : Tm.Sl w p' c' l') (hN : ∀ x ∈ l, SizeOf.sizeOf x ≤ N) :
    Calls Try.prog 154 #[.slice p l.length c, .slice p' l'.length c', .func (.func 97) #[] #[]] w (Ret (.int .i64 (T.orderL (Tm.eraseL l) (Tm.eraseL l'))) w) := by
  have H := Lib.hid h
  have H' := Lib.hid h'
  have HO := Lib.hid hO
  have HN := Lib.hid hN
  have hlc := h.1
  have hcb := h.2.1
  have hlc' := h'.1
  have hcb' := h'.2.1
  clear h h' hO hN
  generalize hr : T.orderL (Tm.eraseL l) (Tm.eraseL l') = r
  have Hr := Lib.hid hr
  clear hr
  go_enter Try.func154, Try.ntmps154
  go_wp2_with fail
  go_loopw [13] (fun i wr => ∃ k : Nat, k ≤ l.length ∧ k ≤ l'.length ∧ i = .int .i64 k ∧ Hid (T.orderL (Tm.eraseL (l.drop k)) (Tm.eraseL (l'.drop k)) = r) ∧ Gr w wr)
    (fun i _ => l.length - (intOf i).toNat)
  case atStart => exact ⟨0, Nat.zero_le _, Nat.zero_le _, rfl, Hr.out, by go_grown⟩
  case round =>
    obtain ⟨k, hk, hk', rfl, hpre, hb⟩ := hrel
    have hbs := hb.size
    by_cases hlt : k < l.length
    · have hS := H.out.mono hb
      obtain ⟨b, o, rfl⟩ := hS.ptr (by omega)
      obtain ⟨⟨c0, c1, c2, c3⟩, hx, _⟩ := hS.elem k hlt
      have Hx := Lib.hid hx
      have hmem : l[k] ∈ l := List.getElem_mem hlt
      have Hz := Lib.hid (HN.out _ hmem)
      clear hS hx
      have hdr : Tm.eraseL (l.drop k) = l[k].erase :: Tm.eraseL (l.drop (k + 1)) := by
        rw [List.drop_eq_getElem_cons hlt, Tm.eraseL]
      by_cases hlt' : k < l'.length
      · have hS' := H'.out.mono hb
        obtain ⟨b', o', rfl⟩ := hS'.ptr (by omega)
        obtain ⟨⟨d0, d1, d2, d3⟩, hx', _⟩ := hS'.elem k hlt'
        have Hx' := Lib.hid hx'
        clear hS' hx'
        have hdr' : Tm.eraseL (l'.drop k) = l'[k].erase :: Tm.eraseL (l'.drop (k + 1)) := by
          rw [List.drop_eq_getElem_cons hlt', Tm.eraseL]
        have hst : Hid ((if T.order l[k].erase l'[k].erase = 0 then T.orderL (Tm.eraseL (l.drop (k + 1))) (Tm.eraseL (l'.drop (k + 1))) else T.order l[k].erase l'[k].erase) = r) := by
          have h9 := hpre.out
          rw [hdr, hdr', T.orderL] at h9
          exact h9
        clear hdr hdr' hpre
        generalize hxe : l[k] = x at *
        generalize hxe' : l'[k] = x' at *
        go_wp2_with fail
        refine (HO.out x x' _ Hz.out (Tm.In_below (by go_grown) Hx.out) (Tm.In_below (by go_grown) Hx'.out)).mono ?_
        rintro e w1 ⟨rfl, hb1⟩
        generalize hxf : T.order x.erase x'.erase = ox
        rw [hxf] at hst
        clear hxf
        by_cases ho : ox = 0
        · have Hst : Hid (T.orderL (Tm.eraseL (l.drop (k + 1))) (Tm.eraseL (l'.drop (k + 1))) = r) := (if_pos ho).symm.trans hst.out
          subst ho
          go_wp2_with fail
          go_roundw
          case rel => exact ⟨k + 1, by omega, by omega, by go_num, Hst, below_step hb1 (by go_grown)⟩
          case measure => simp [intOf]; omega
        · have ho' : (ox != 0) = true := by simp [ho]
          go_wp2_with fail
          go_ret
          refine ret_int' ?_ (below_step hb1 (by go_grown))
          rw [← hst.out, if_neg ho]
      · go_wp2_with fail
        go_ret
        refine ret_int' ?_ (by go_grown)
        rw [← hpre.out, hdr, show l'.drop k = [] from List.drop_eq_nil_of_le (by omega), Tm.eraseL, T.orderL]
    · by_cases hlt' : k < l'.length
      · go_wp2_with fail
        go_ret
        refine ret_int' ?_ (by go_grown)
        rw [← hpre.out, show l.drop k = [] from List.drop_eq_nil_of_le (by omega), List.drop_eq_getElem_cons hlt', Tm.eraseL, Tm.eraseL, T.orderL]
      · go_wp2_with fail
        go_ret
        refine ret_int' ?_ (by go_grown)
        rw [← hpre.out, show l.drop k = [] from List.drop_eq_nil_of_le (by omega), show l'.drop k = [] from List.drop_eq_nil_of_le (by omega), Tm.eraseL, T.orderL]

def pairAt (x y : Int) : VP := fun v w => ∃ b : Nat, v = .slice (some ⟨b, 0, none⟩) 2 2 ∧ w.cell? ⟨b, 0, none⟩ = some (.int .i64 x) ∧ w.cell? ⟨b, 1, none⟩ = some (.int .i64 y)
theorem pairAt_mk {x y : Int} {b : Nat} {w : World} (h0 : w.cell? ⟨b, 0, none⟩ = some (.int .i64 x)) (h1 : w.cell? ⟨b, 1, none⟩ = some (.int .i64 y)) : pairAt x y (.slice (some ⟨b, 0, none⟩) 2 2) w := ⟨b, rfl, h0, h1⟩
theorem pairAt_stable {x y : Int} : ∀ v w w', pairAt x y v w → Gr w w' → pairAt x y v w' :=
  fun _ _ _ ⟨b, h1, h2, h3⟩ hg => ⟨b, h1, Gr.at hg h2, Gr.at hg h3⟩

set_option maxHeartbeats 1000000 in
set_option maxRecDepth 100000 in
theorem order_upto (N : Nat) : OrderUpto N := by
  induction N with
  | zero => intro t u w h; cases t; simp at h
  | succ N ih =>
    intro t u w hN h hu
    obtain ⟨k, n, s, p, c, l⟩ := t
    obtain ⟨k', n', s', p', c', l'⟩ := u
    have hsz := fun x (hx : x ∈ l) => Tm.sizeOf_mem hx k n s p c
    have H := Lib.hid h.sl
    have H' := Lib.hid hu.sl
    rw [Tm.In] at h hu
    obtain ⟨_, _, hs, hl, hc, _, _⟩ := h
    obtain ⟨_, _, hs', hl', hc', _, _⟩ := hu
    have Hsz : Hid (∀ x ∈ l, SizeOf.sizeOf x ≤ N) := fun x hx => by have := hsz x hx; omega
    have Hih := Lib.hid ih
    clear hsz ih
    simp only [Tm.val, Tm.k, Tm.n, Tm.s, Tm.p, Tm.c, Tm.l, Tm.erase, T.order, Tm.eraseL_length]
    by_cases hk : k = k'
    · subst hk
      rw [if_pos rfl]
      by_cases hk3 : k = 3
      · subst hk3
        rw [if_pos rfl]
        go_enter Try.func97, Try.ntmps97
        go_wp2_with (go_at_call 152; refine (strings_compare _ _ _).mono ?_; rintro e w' ⟨rfl, rfl⟩)
        go_ret
        exact ret_int' rfl (by go_grown)
      rw [if_neg hk3]
      by_cases hk4 : k = 4
      · subst hk4
        rw [if_pos rfl]
        generalize hz : (if cmpI l.length l'.length = 0 then Lib.compareBytes s.toList s'.toList else cmpI l.length l'.length) = z
        have Hz := Lib.hid hz
        clear hz
        generalize hr : (if z = 0 then _ else z) = r
        have Hr := Lib.hid hr
        clear hr
        go_enter Try.func97, Try.ntmps97
        go_wp2_with fail
        refine wp_region_rely [fx (.pointer (some ⟨w.heap.size, 3, none⟩)), fx (.slice p l.length c), fx (.int .i64 l.length), fx (.pointer (some ⟨w.heap.size + 1, 3, none⟩)), fx (.slice p' l'.length c'), fx (.int .i64 l'.length),
            fx (.int .i64 (cmpI l.length l'.length)), fx (.pointer (some ⟨w.heap.size, 2, none⟩)), fx (.string s), fx (.pointer (some ⟨w.heap.size + 1, 2, none⟩)), fx (.string s'),
            fx (.int .i64 (Lib.compareBytes s.toList s'.toList)), pairAt (cmpI l.length l'.length) (Lib.compareBytes s.toList s'.toList), fx (.int .i64 z), fx (.int .i64 z)]
            (by kernel_rfl) (by kernel_rfl) (by repeat (first | exact Stable.nil | refine Stable.fix ?_ | refine Stable.cons pairAt_stable ?_)) ?_ ?_
        · refine ⟨?_, ?_, ?_, ?_, ?_, ?_, ?_, ?_, ?_, ?_, ?_, ?_, ?a12, ?a13, ?_, trivial⟩
          all_goals
            intro a w1 hg hold
            have h2 : a.tmps[2]?.getD undef = .pointer (some ⟨w.heap.size, 0, none⟩) := hold 2 rfl
            have h3 : a.tmps[3]?.getD undef = .pointer (some ⟨w.heap.size + 1, 0, none⟩) := hold 3 rfl
            clear hold
            have z1 : w1.cell? ⟨w.heap.size, 3, none⟩ = some (.slice p l.length c) := Gr.at hg (by go_cell)
            have z2 : w1.cell? ⟨w.heap.size + 1, 3, none⟩ = some (.slice p' l'.length c') := Gr.at hg (by go_cell)
            have z3 : w1.cell? ⟨w.heap.size, 2, none⟩ = some (.string s) := Gr.at hg (by go_cell)
            have z4 : w1.cell? ⟨w.heap.size + 1, 2, none⟩ = some (.string s') := Gr.at hg (by go_cell)
            simp [predsImp, Region.binds, dstAt, fx]
            intros
            rename_i K hK
            go_simp
          case a12 => exact hK _ _ (pairAt_mk (by go_cell) (by go_cell)) (by go_grown)
          case a13 =>
            have hp : pairAt (cmpI l.length l'.length) (Lib.compareBytes s.toList s'.toList) (a.tmps[39]?.getD undef) w1 := by assumption
            obtain ⟨b, hb, hb0, hb1⟩ := hp
            rw [hb]
            refine (or_two _ _ b 0 _ hb0 hb1).mono ?_
            rintro e w2 ⟨rfl, rfl⟩
            rw [Hz.out]
            exact hK _ _ rfl (Gr.rfl' _)
          all_goals first
            | exact hK _ _ rfl (Gr.rfl' _)
            | (refine (compare_int _ _ _).mono ?_
               rintro e w2 ⟨rfl, rfl⟩
               exact hK _ _ rfl (Gr.rfl' _))
            | (refine (strings_compare _ _ _).mono ?_
               rintro e w2 ⟨rfl, rfl⟩
               exact hK _ _ rfl (Gr.rfl' _))
        · intro w1 hg
          have z1 : w1.cell? ⟨w.heap.size, 3, none⟩ = some (.slice p l.length c) := Gr.at hg (by go_cell)
          have z2 : w1.cell? ⟨w.heap.size + 1, 3, none⟩ = some (.slice p' l'.length c') := Gr.at hg (by go_cell)
          have hg0 : Gr w w1 := below_step hg (by go_grown)
          clear hg
          rintro _ rfl _ rfl _ rfl _ rfl _ rfl _ rfl _ rfl _ rfl _ rfl _ rfl _ rfl _ rfl _ ⟨b, rfl, _, _⟩ _ rfl _ rfl
          simp only [finAll, Act.put, Exit.then, List.setIfInBounds_toArray, List.set_cons_succ, List.set_cons_zero]
          by_cases hz0 : z = 0
          · have hz' : (z != 0) = false := by simp [hz0]
            have HR : Hid (r = T.orderL (Tm.eraseL l) (Tm.eraseL l')) := Hr.out.symm.trans (if_pos hz0)
            clear hz0
            go_wp2_with fail
            refine (compareFunc_calls (N := N) Hih.out (H.out.mono hg0) (H'.out.mono hg0) Hsz.out).mono ?_
            rintro e w2 ⟨rfl, hb2⟩
            go_wp2_with fail
            go_ret
            exact ret_int' HR.out.symm (hg0.trans hb2)
          · have hz' : (z != 0) = true := by simp [hz0]
            have HR : Hid (r = z) := Hr.out.symm.trans (if_neg hz0)
            clear hz0
            go_wp2_with fail
            go_ret
            exact ret_int' HR.out.symm hg0
      · rw [if_neg hk4]
        have hk3' : (k == 3) = false := by simp [hk3]
        have hk4' : (k == 4) = false := by simp [hk4]
        clear hk3 hk4
        go_enter Try.func97, Try.ntmps97
        go_wp2_with (go_at_call 155; refine (compare_int64 _ _ _).mono ?_; rintro e w' ⟨rfl, rfl⟩)
        go_ret
        exact ret_int' rfl (by go_grown)
    · rw [if_neg hk]
      have hk' : (k != k') = true := by simp [hk]
      go_enter Try.func97, Try.ntmps97
      go_wp2_with (go_at_call 151; refine (compare_int _ _ _).mono ?_; rintro e w' ⟨rfl, rfl⟩)
      go_ret
      exact ret_int' rfl (by go_grown)

theorem order_calls {t u : Tm} {w : World} (h : t.In w) (hu : u.In w) : Calls Try.prog 97 #[t.val, u.val] w (Ret (.int .i64 (T.order t.erase u.erase)) w) :=
  order_upto _ t u w (Nat.le_refl _) h hu
end Go.Proofs.Yteonakicoomjkaa

namespace Go.Proofs.Yteonakicoomjkaa
open Go.RowKit

def T.check (t : T) : Int := if t.formed then 0 else 2


/-- A block that holds a term. -/
def Boxed (w : World) (b : Nat) (t : Tm) : Prop :=
  w.cell? ⟨b, 0, none⟩ = some (.int .i64 t.k) ∧ w.cell? ⟨b, 1, none⟩ = some (.int .i64 t.n) ∧ w.cell? ⟨b, 2, none⟩ = some (.string t.s) ∧ w.cell? ⟨b, 3, none⟩ = some (.slice t.p t.l.length t.c)
theorem Boxed.gr {w w' : World} {b : Nat} {t : Tm} (hg : Gr w w') (h : Boxed w b t) : Boxed w' b t :=
  ⟨Gr.at hg h.1, Gr.at hg h.2.1, Gr.at hg h.2.2.1, Gr.at hg h.2.2.2⟩

/-- Two results. -/
def Ret2 (u v : Value) (w : World) (e : Ending) (w' : World) : Prop := e = .returned (.tuple #[u, v]) ∧ Gr w w'

theorem two_row {t u : Tm} {w : World} {b : Nat} (ht : t.In w) (hu : u.In w)
    (c0 : w.cell? ⟨b, 0, none⟩ = some (.int .i64 t.k)) (c1 : w.cell? ⟨b, 1, none⟩ = some (.int .i64 t.n)) (c2 : w.cell? ⟨b, 2, none⟩ = some (.string t.s)) (c3 : w.cell? ⟨b, 3, none⟩ = some (.slice t.p t.l.length t.c))
    (d0 : w.cell? ⟨b, 4, none⟩ = some (.int .i64 u.k)) (d1 : w.cell? ⟨b, 5, none⟩ = some (.int .i64 u.n)) (d2 : w.cell? ⟨b, 6, none⟩ = some (.string u.s)) (d3 : w.cell? ⟨b, 7, none⟩ = some (.slice u.p u.l.length u.c)) :
    Tm.Sl w (some ⟨b, 0, none⟩) 2 [t, u] := by
  refine ⟨Nat.le_refl _, ⟨by simp, by simp⟩, .inr ⟨b, 0, rfl, ?_⟩, Tm.InL_of fun x hx => ?_⟩
  · intro i x hx
    match i, hx with
    | 0, hx => cases hx; exact ⟨c0, c1, c2, c3⟩
    | 1, hx => cases hx; exact ⟨d0, d1, d2, d3⟩
  · simp only [List.mem_cons, List.mem_nil_iff, or_false] at hx
    rcases hx with rfl | rfl
    · exact ht
    · exact hu

end Go.Proofs.Yteonakicoomjkaa

namespace Go.Proofs.Yteonakicoomjkaa
open Go.RowKit

/-- A body is handed back, and whether there is one. -/
def RetBody (S : Nat → Prop) (r : Option T) (w : World) (e : Ending) (w' : World) : Prop :=
  ∃ (bm : Tm) (ok : Bool), e = .returned (.tuple #[bm.val, .bool ok]) ∧ bm.In w' ∧ ok = r.isSome ∧ (∀ u, r = some u → bm.erase = u) ∧ Gr w w' ∧ bm.On fun b => S b ∨ w.heap.size ≤ b

theorem bl44 : (ByteArray.mk #[44]).toList = [44] := by rw [ByteArray.toList_mk]
theorem bl59 : (ByteArray.mk #[59]).toList = [59] := by rw [ByteArray.toList_mk]
theorem bl4562 : (ByteArray.mk #[45, 62]).toList = [45, 62] := by rw [ByteArray.toList_mk]
theorem blCall : (ByteArray.mk #[99, 97, 108, 108]).toList = sCallT := by rw [ByteArray.toList_mk]; rfl
theorem blTrue : (ByteArray.mk #[116, 114, 117, 101]).toList = sTrue := by rw [ByteArray.toList_mk]; rfl
theorem blNeck : (ByteArray.mk #[58, 45]).toList = sNeck := by rw [ByteArray.toList_mk]; rfl

/-- A new slice of one term. -/
theorem one_new {t : Tm} {w w' : World} (ht : t.In w) (hg : Gr (w.alloc (.cells #[.int .i64 t.k, .int .i64 t.n, .string t.s, .slice t.p t.l.length t.c] 24)) w') : Tm.Sl w' (some ⟨w.heap.size, 0, none⟩) 1 [t] := by
  obtain ⟨⟨y0, y1, y2, y3⟩, _, _⟩ := ((Blk4.new w (.int .i64 t.k) (.int .i64 t.n) (.string t.s) (.slice t.p t.l.length t.c)).gr hg).parts
  exact one_row (Tm.In_below (below_step hg (by go_grown)) ht) y0 y1 y2 y3

def bodyOf (t : Tm) : Prop := ∀ (S : Nat → Prop) (w : World), t.In w → t.erase.formed = true → t.On S → (∀ b, S b → b < w.heap.size) → Calls Try.prog 93 #[t.val] w (RetBody S (T.body t.erase) w)

theorem tm_val (k n : Int) (s : ByteArray) (p : Option Addr) (c : Nat) (l : List Tm) : (Tm.mk k n s p c l).val = .agg #[.int .i64 k, .int .i64 n, .string s, .slice p l.length c] := rfl

set_option maxHeartbeats 2000000 in
set_option maxRecDepth 100000 in
theorem body_walk_var (n : Int) (s : ByteArray) (p : Option Addr) (c : Nat) (l : List Tm) (S : Nat → Prop) (w : World) (hin : (Tm.mk 1 n s p c l).In w) (hon : (Tm.mk 1 n s p c l).On S) (hS : ∀ b, S b → b < w.heap.size) :
    Calls Try.prog 93 #[(Tm.mk 1 n s p c l).val] w (RetBody S (some (compT sCallT [(Tm.mk 1 n s p c l).erase])) w) := by
  generalize hQ : RetBody S (some (compT sCallT [(Tm.mk 1 n s p c l).erase])) w = Q
  have HQ := Lib.hid hQ
  have Hin := Lib.hid hin
  have Hon := Lib.hid hon
  have HS := Lib.hid hS
  clear hQ hin hon hS
  simp only [tm_val]
  go_enter Try.func93, Try.ntmps93
  try simp only [List.append_eq, List.cons_append, List.nil_append]
  go_upto_region 1 with fail
  obtain ⟨HB, HR, gA⟩ := two_blocks w (.int .i64 1) (.int .i64 n) (.string s) (.slice p l.length c) (.int .i64 0) (.int .i64 0) (.string ⟨#[]⟩) (.slice none 0 0)
  generalize (w.alloc (.cells #[.int .i64 1, .int .i64 n, .string s, .slice p l.length c] 24)).alloc (.cells #[.int .i64 0, .int .i64 0, .string ⟨#[]⟩, .slice none 0 0] 24) = wA at *
  obtain ⟨⟨b0, b1, b2, b3⟩, _, _⟩ := HB.out.parts
  go_wp2_with (first
    | (go_at_call 84; refine (comp_calls _ _ _ _ _).mono ?_; rintro e w' ⟨rfl, hb⟩; have HB2 := Lib.hid (one_new (t := .mk 1 n s p c l) (Tm.In_below gA Hin.out) hb); have g2 : Gr wA w' := below_step hb (by go_grown); obtain ⟨⟨y0, y1, y2, y3⟩, ⟨f0, f1, f2, f3⟩, hlt⟩ := (HR.out.gr g2).parts; clear hb b0 b1 b2 b3)
    | fail)
  refine bodyPost_ret (v := .tuple #[(compTm ⟨#[99, 97, 108, 108]⟩ (some ⟨wA.heap.size, 0, none⟩) 1 [.mk 1 n s p c l]).val, .bool true]) (by simp (maxDischargeDepth := 9) [results, Try.results93, go_sem, compTm, Tm.val, Tm.k, Tm.n, Tm.s, Tm.p, Tm.c, Tm.l, y0, y1, y2, y3]) rfl ?_
  rw [← HQ.out]
  have hg : Gr w w' := gA.trans g2
  have hs := gA.size
  refine ⟨compTm ⟨#[99, 97, 108, 108]⟩ (some ⟨wA.heap.size, 0, none⟩) 1 [.mk 1 n s p c l], true, rfl, ?_, rfl, fun u hu => ?_, by go_grown, ?_⟩
  · refine in_after' (S := fun b => b ≠ w.heap.size + 1) (compTm_in (by decide) HB2.out) ?_ fun b h1 h2 o => by rw [cell_set_ne h1, cell_set_ne h1, cell_set_ne h1, cell_set_ne h1]
    rw [compTm, Tm.On, Tm.OnL, Tm.OnL]
    have := HR.out.parts.2.2
    exact ⟨.inr ⟨_, _, rfl, by omega⟩, Hon.out.mono fun b hb => by have := HS.out b hb; omega, trivial⟩
  · cases hu
    rw [compTm, Tm.erase, Tm.eraseL, Tm.eraseL, blCall]
    rfl
  · rw [compTm, Tm.On, Tm.OnL, Tm.OnL]
    exact ⟨.inr ⟨_, _, rfl, .inr hs⟩, Hon.out.mono fun b hb => .inl hb, trivial⟩

end Go.Proofs.Yteonakicoomjkaa

namespace Go.Proofs.Yteonakicoomjkaa
open Go.RowKit Go.Lib

mutual
/-- Behind all Args of the term there is room for three, in which marks stand. -/
def Tm.Roomy (w : World) : Tm → Prop
  | .mk _ _ _ p c l => (l = [] ∨ ∃ b, p = some ⟨b, 0, none⟩ ∧ c = l.length + 3 ∧ ∀ j, j < 12 → w.cell? ⟨b, l.length * 4 + j, none⟩ = marks[j]?) ∧ Tm.RoomyL w l
def Tm.RoomyL (w : World) : List Tm → Prop
  | [] => True
  | x :: xs => Tm.Roomy w x ∧ Tm.RoomyL w xs
end

mutual
theorem Tm.Roomy.same {w w' : World} {S : Nat → Prop} (hS : ∀ b, S b → ∀ o, w'.cell? ⟨b, o, none⟩ = w.cell? ⟨b, o, none⟩) : ∀ {t : Tm}, t.On S → t.Roomy w → t.Roomy w'
  | .mk k n s p c l, ho, h => by
    rw [Tm.On] at ho
    rw [Tm.Roomy] at h ⊢
    refine ⟨?_, Tm.RoomyL.same hS ho.2 h.2⟩
    rcases ho.1 with h1 | ⟨b, o, hp, hb⟩
    · exact .inl h1
    · refine h.1.imp id ?_
      rintro ⟨b', hp', hc, hm⟩
      rw [hp] at hp'
      cases hp'
      exact ⟨b, hp, hc, fun j hj => (hS b hb _).trans (hm j hj)⟩
theorem Tm.RoomyL.same {w w' : World} {S : Nat → Prop} (hS : ∀ b, S b → ∀ o, w'.cell? ⟨b, o, none⟩ = w.cell? ⟨b, o, none⟩) : ∀ {l : List Tm}, Tm.OnL S l → Tm.RoomyL w l → Tm.RoomyL w' l
  | [], _, _ => by rw [Tm.RoomyL]; trivial
  | x :: xs, ho, h => by
    rw [Tm.OnL] at ho
    rw [Tm.RoomyL] at h ⊢
    exact ⟨Tm.Roomy.same hS ho.1 h.1, Tm.RoomyL.same hS ho.2 h.2⟩
end
theorem Tm.RoomyL_append {w : World} : ∀ {l l' : List Tm}, Tm.RoomyL w l → Tm.RoomyL w l' → Tm.RoomyL w (l ++ l')
  | [], _, _, h => h
  | x :: xs, _, h, h' => by
    rw [Tm.RoomyL] at h
    rw [List.cons_append, Tm.RoomyL]
    exact ⟨h.1, Tm.RoomyL_append h.2 h'⟩
theorem Tm.RoomyL_mem {w : World} : ∀ {l : List Tm}, Tm.RoomyL w l → ∀ x ∈ l, Tm.Roomy w x
  | _ :: _, h, x, hx => by
    rw [Tm.RoomyL] at h
    rcases List.mem_cons.1 hx with rfl | hx
    · exact h.1
    · exact Tm.RoomyL_mem h.2 x hx
theorem Tm.Roomy.gr {w w' : World} {t : Tm} (h : t.Roomy w) (hi : t.In w) (hg : Gr w w') : t.Roomy w' :=
  Tm.Roomy.same (S := (· < w.heap.size)) (fun b hb _ => World.cell?_of_block (hg.block b hb)) hi.on h
theorem Tm.In.onL {w : World} : ∀ {l : List Tm}, Tm.InL w l → Tm.OnL (· < w.heap.size) l
  | [], _ => by rw [Tm.OnL]; trivial
  | x :: xs, h => by
    rw [Tm.InL] at h
    rw [Tm.OnL]
    exact ⟨h.1.on, Tm.In.onL h.2⟩

/-- A term of one's own is handed back. -/
def RetOwn (u : T) (w : World) (e : Ending) (w' : World) : Prop := ∃ x : Tm, e = .returned x.val ∧ x.In w' ∧ x.erase = u ∧ x.On (w.heap.size ≤ ·) ∧ x.Roomy w' ∧ Gr w w'
def ownOf (t : Tm) : Prop := ∀ w : World, t.In w → Calls Try.prog 21 #[t.val] w (RetOwn t.erase w)

theorem eraseL_take (l : List Tm) (k : Nat) (hk : k < l.length) : Tm.eraseL (l.take (k + 1)) = Tm.eraseL (l.take k) ++ [l[k].erase] := by
  rw [List.take_succ_eq_append_getElem hk, eraseL_append, Tm.eraseL, Tm.eraseL]

set_option maxHeartbeats 4000000 in
set_option maxRecDepth 100000 in
theorem own_step (k0 n : Int) (s : ByteArray) (p' : Option Addr) (c' : Nat) (l : List Tm) (ih : ∀ x ∈ l, ownOf x) (w : World) (hin : (Tm.mk k0 n s p' c' l).In w) :
    Calls Try.prog 21 #[(Tm.mk k0 n s p' c' l).val] w (RetOwn (Tm.mk k0 n s p' c' l).erase w) := by
  have HSl := Lib.hid hin.sl
  rw [Tm.In] at hin
  have hlc : l.length ≤ c' := hin.2.2.2.1
  have hc : c' ≤ 9223372036854775807 := hin.2.2.2.2.1.2
  have hl56 : l.length * 56 ≤ 140737488351232 := hin.2.2.2.2.1.1
  have Hk := Lib.hid hin.1
  have Hn := Lib.hid hin.2.1
  have Hs := Lib.hid hin.2.2.1
  have Hih := Lib.hid ih
  clear hin ih
  have hR : Hid (∀ (x : Tm) (w' : World), x.In w' → x.erase = (Tm.mk k0 n s p' c' l).erase → x.On (w.heap.size ≤ ·) → x.Roomy w' → Gr w w' → RetOwn (Tm.mk k0 n s p' c' l).erase w (.returned x.val) w') := fun x w' h1 h2 h3 h4 h5 => ⟨x, rfl, h1, h2, h3, h4, h5⟩
  generalize hQ : RetOwn (Tm.mk k0 n s p' c' l).erase w = Q at hR ⊢
  clear hQ
  simp only [tm_val]
  go_enter Try.func21, Try.ntmps21
  try simp only [List.append_eq, List.cons_append, List.nil_append]
  go_upto_region 1 with fail
  obtain ⟨HB, HR, gA⟩ := two_blocks w (.int .i64 k0) (.int .i64 n) (.string s) (.slice p' l.length c') (.int .i64 0) (.int .i64 0) (.string ⟨#[]⟩) (.slice none 0 0)
  have hszA : ((w.alloc (.cells #[.int .i64 k0, .int .i64 n, .string s, .slice p' l.length c'] 24)).alloc (.cells #[.int .i64 0, .int .i64 0, .string ⟨#[]⟩, .slice none 0 0] 24)).heap.size = w.heap.size + 2 := by simp
  generalize (w.alloc (.cells #[.int .i64 k0, .int .i64 n, .string s, .slice p' l.length c'] 24)).alloc (.cells #[.int .i64 0, .int .i64 0, .string ⟨#[]⟩, .slice none 0 0] 24) = wA at *
  obtain ⟨⟨b0, b1, b2, b3⟩, _, _⟩ := HB.out.parts
  go_wp2_with fail
  clear b0 b1 b2 b3
  go_loopg [3, 8] l.length (fun m u i wr => ∃ k : Nat, k ≤ l.length ∧ m = l.length - k ∧ i = .int .i64 k ∧
    Hid (∃ lm : List Tm, lm.length = k ∧ Tm.eraseL lm = Tm.eraseL (l.take k) ∧ Built wr (w.heap.size + 2) (fun _ => False) u lm ∧ Tm.RoomyL wr lm) ∧
    Hid (Blk4 wr w.heap.size (.int .i64 k0) (.int .i64 n) (.string s) (.slice p' l.length c') ∧ Blk4 wr (w.heap.size + 1) (.int .i64 0) (.int .i64 0) (.string ⟨#[]⟩) (.slice none 0 0)) ∧ Gr w wr ∧ w.heap.size + 2 ≤ wr.heap.size)
  case atStart => exact ⟨0, Nat.zero_le _, rfl, rfl, ⟨[], rfl, by simp [Tm.eraseL], Built.nil _ _ _, by rw [Tm.RoomyL]; trivial⟩, ⟨HB.out, HR.out⟩, gA, by omega⟩
  case round =>
    obtain ⟨k, hk, rfl, rfl, hlm, HBR, gr, hws⟩ := hrel
    obtain ⟨⟨b0, b1, b2, b3⟩, ⟨e0, e1, e2, e3⟩, _⟩ := HBR.out.1.parts
    by_cases hkl : k < l.length
    · obtain ⟨b, o, rfl⟩ := HSl.out.ptr (by omega)
      obtain ⟨⟨c0, c1, c2, c3⟩, hxi, _⟩ := (HSl.out.mono gr).elem k hkl
      have hmem : l[k] ∈ l := List.getElem_mem hkl
      have Hx := Lib.hid hxi
      have Hix := Lib.hid (Hih.out _ hmem)
      have Htk := Lib.hid (eraseL_take l k hkl)
      clear hmem hxi
      generalize l[k] = x at *
      have Hxv := Lib.hid (show x.val = .agg #[.int .i64 x.k, .int .i64 x.n, .string x.s, .slice x.p x.l.length x.c] from rfl)
      go_wp2_with fail
      clear b0 b1 b2 b3 e0 e1 e2 e3
      rw [← Hxv.out]
      refine (Hix.out wr Hx.out).mono ?_
      rintro e w2 ⟨xm, rfl, hin, he, hon, hro, hb2⟩
      obtain ⟨lm, hl0, he0, hF, hRo⟩ := hlm.out
      have hRo2 : Tm.RoomyL w2 lm := Tm.RoomyL.same (S := (· < wr.heap.size)) (fun b hb o => World.cell?_of_block (hb2.block b hb)) (hF.2.2.mono fun b hb => hb.2.1) hRo
      have HOn := Lib.hid hF.2.2
      have HF2 := Lib.hid (hF.gr hb2)
      have Hvf := Lib.hid hF.1.lt
      have hs2 := hb2.size
      have Hl0 := Lib.hid hl0
      have He0 := Lib.hid he0
      have Hin := Lib.hid hin
      have Hon := Lib.hid hon
      have He := Lib.hid he
      have Hro := Lib.hid hro
      have HRo2 := Lib.hid hRo2
      have HB2 := Lib.hid (And.intro (HBR.out.1.gr hb2) (HBR.out.2.gr hb2))
      have g2 : Gr w w2 := gr.trans hb2
      clear hF hl0 he0 hin hon he hb2 hlm c0 c1 c2 c3 hro hRo2 hRo
      obtain ⟨k', n', s', p2, c2, l2⟩ := xm
      simp only [Tm.val, Tm.k, Tm.n, Tm.s, Tm.p, Tm.c, Tm.l]
      go_wp2_with
        (at_builtin
         refine wpList_append_term rfl _ _ rfl rfl (w.heap.size + 2) (fun _ => False) _ lm (.mk k' n' s' p2 c2 l2) w2.heap.size 1 rfl rfl (HF2.out.gr (by go_grown)) (by simp; omega) (Tm.In_below (by go_grown) Hin.out) (Hon.out.mono fun b hb => ⟨.inr (by omega), fun e => by have := Hvf.out b e; omega⟩) (by have := Hl0.out; omega) (by show _ = some (Value.int .i64 k'); go_cell) (by show _ = some (Value.int .i64 n'); go_cell) (by show _ = some (Value.string s'); go_cell) (by show _ = some (Value.slice p2 l2.length c2); go_cell) ?_
         intro v' w4 hbt hbel hcl
         have hsame : ∀ b, b < w2.heap.size → ∀ o, (w2.alloc (.cells #[.int .i64 k', .int .i64 n', .string s', .slice p2 l2.length c2] 24)).cell? ⟨b, o, none⟩ = w2.cell? ⟨b, o, none⟩ := fun b hb o => World.cell?_of_block (heap_alloc_old w2 _ hb)
         have hro1 : Tm.RoomyL w4 lm := Tm.RoomyL.same (fun b hb o => (hcl ⟨b, o, none⟩ (by simp only [World.size_alloc]; have := hb.2.1; omega) hb.2.2).trans (hsame b (by have := hb.2.1; omega) o)) HOn.out HRo2.out
         have hro2 : (Tm.mk k' n' s' p2 c2 l2).Roomy w4 := Tm.Roomy.same (fun b hb o => (hcl ⟨b, o, none⟩ (by simp only [World.size_alloc]; have := hb.2; omega) (fun e => by have := Hvf.out b e; have := hb.1; omega)).trans (hsame b hb.2 o)) (Tm.On.and Hon.out Hin.out.on) Hro.out
         have HRo4 := Lib.hid (Tm.RoomyL_append hro1 (by rw [Tm.RoomyL, Tm.RoomyL]; exact ⟨hro2, trivial⟩ : Tm.RoomyL w4 [Tm.mk k' n' s' p2 c2 l2]))
         clear hcl hsame hro1 hro2)
      go_roundg (l.length - (k + 1))
      case measure => omega
      case rel =>
        have hg4 : Below (w.heap.size + 2) w2 w4 := Below.trans (show Below (w.heap.size + 2) w2 _ by go_grown) hbel
        exact ⟨k + 1, by omega, rfl, by go_num, ⟨_, by rw [List.length_append, Hl0.out]; rfl, by rw [eraseL_append, He0.out, Htk.out, ← He.out]; simp [Tm.eraseL], hbt, HRo4.out⟩, ⟨HB2.out.1.below hg4 (by omega), HB2.out.2.below hg4 (by omega)⟩, Below.trans g2 (hg4.mono (by omega)), by have := hg4.size; omega⟩
    · obtain rfl : k = l.length := by omega
      obtain ⟨lm, hl0, he0, hF, hRo⟩ := hlm.out
      rw [List.take_length] at he0
      obtain ⟨pv, cv, rfl, hcv1, hcv2⟩ := hF.form
      have HF := Lib.hid hF
      have Hl0 := Lib.hid hl0
      have He0 := Lib.hid he0
      have HRo := Lib.hid hRo
      have hll : (lm.length : Int) = l.length := by rw [hl0]
      clear hF hl0 he0 hlm hRo
      have Hsl := Lib.hid (HF.out.sl (by have := Hl0.out; omega))
      by_cases h0 : 0 < lm.length
      · go_upto_region 9 with (first
          | (go_at_call 75; refine (mark_calls _).mono ?_; rintro e w5 ⟨rfl, hb⟩; have g5 := gr.trans hb; have HS5 := Lib.hid (Hsl.out.2.1.mono hb); have HRo5 := Lib.hid (Tm.RoomyL.same (S := (· < wr.heap.size)) (fun b hb' o => World.cell?_of_block (hb.block b hb')) (Tm.In.onL Hsl.out.2.1.2.2.2) HRo.out); have HBR5 := Lib.hid (And.intro (HBR.out.1.gr hb) (HBR.out.2.gr hb)); have hs5 := hb.size; clear hb)
          | (go_at_call 74; refine (roomy_calls pv cv lm _ HS5.out h0).mono ?_; rintro e w6 ⟨g, rfl, hgs, hgc, hb⟩; have g6 := g5.trans hb; have HBR6 := Lib.hid (And.intro (HBR5.out.1.gr hb) (HBR5.out.2.gr hb)); have HS6 := Lib.hid (HS5.out.mono hb); have HRo6 := Lib.hid (Tm.RoomyL.same (S := (· < w5.heap.size)) (fun b hb' o => World.cell?_of_block (hb.block b hb')) (Tm.In.onL HS5.out.2.2.2) HRo5.out); have Hgc := Lib.hid hgc; have hs6 := hb.size; clear hb hgc b0 b1 b2 b3 e0 e1 e2 e3)
          | fail)
        obtain ⟨⟨b0, b1, b2, b3⟩, ⟨e0, e1, e2, e3⟩, hb6⟩ := HBR6.out.1.parts
        obtain ⟨⟨y0, y1, y2, y3⟩, ⟨f0, f1, f2, f3⟩, hbs2⟩ := HBR6.out.2.parts
        have hat : ∀ (i : Nat) (y : Tm), lm[i]? = some y → ∀ j, j < 4 → w6.cell? ⟨g, 0 + i * 4 + j, none⟩ = y.cells[j]? := by
          intro i y hy j hj
          have hi : i < lm.length := (List.getElem?_eq_some_iff.1 hy).1
          rw [Nat.zero_add, cell_of_row w6 g _ _ _ _ Hgc.out, List.getElem?_toArray, List.getElem?_append_left (by rw [cells_len]; omega)]
          exact cells_at hy j hj
        have hmk : ∀ j, j < 12 → w6.cell? ⟨g, lm.length * 4 + j, none⟩ = marks[j]? := by
          intro j hj
          rw [cell_of_row w6 g _ _ _ _ Hgc.out, List.getElem?_toArray, List.getElem?_append_right (by rw [cells_len]; omega), cells_len, Nat.add_sub_cancel_left]
        have hxin : (Tm.mk k0 n s (some ⟨g, 0, none⟩) (lm.length + 3) lm).In w6 := by
          rw [Tm.In]
          exact ⟨Hk.out, Hn.out, Hs.out, by omega, ⟨by omega, by omega⟩, .inr ⟨g, 0, rfl, fun i y hy => ⟨hat i y hy 0 (by omega), hat i y hy 1 (by omega), hat i y hy 2 (by omega), hat i y hy 3 (by omega)⟩⟩, HS6.out.2.2.2⟩
        have hxon : (Tm.mk k0 n s (some ⟨g, 0, none⟩) (lm.length + 3) lm).On (w.heap.size + 2 ≤ ·) := by
          rw [Tm.On]
          exact ⟨.inr ⟨g, 0, rfl, by omega⟩, Hsl.out.2.2.2.mono fun b hb => hb.elim (fun h => h.elim) id⟩
        have hxro : (Tm.mk k0 n s (some ⟨g, 0, none⟩) (lm.length + 3) lm).Roomy w6 := by
          rw [Tm.Roomy]
          exact ⟨.inr ⟨g, rfl, rfl, hmk⟩, HRo6.out⟩
        have hxe : (Tm.mk k0 n s (some ⟨g, 0, none⟩) (lm.length + 3) lm).erase = (Tm.mk k0 n s p' c' l).erase := by rw [Tm.erase, Tm.erase, He0.out]
        have hfin : Hid (∀ W, Kp (fun b => b = w.heap.size ∨ b = w.heap.size + 1) w6 W → Q (.returned (Tm.mk k0 n s (some ⟨g, 0, none⟩) (lm.length + 3) lm).val) W) := fun W hK =>
          hR.out _ W (in_after' hxin hxon fun b h1 h2 o => World.cell?_of_block (hK.block b h2 (by omega))) hxe (hxon.mono fun b hb => by omega)
            (Tm.Roomy.same (fun b hb o => World.cell?_of_block (hK.block b hb.2 (by have := hb.1; omega))) (Tm.On.and hxon hxin.on) hxro) (Below.trans g6 (hK.below (B := w.heap.size) (fun b hb => by omega) (by omega)))
        clear hat hmk hxin hxon hxro hxe
        go_wp2_with fail
        refine bodyPost_ret (v := (Tm.mk k0 n s (some ⟨g, 0, none⟩) (lm.length + 3) lm).val) (by simp (maxDischargeDepth := 9) [results, Try.results21, go_sem, Tm.val, Tm.k, Tm.n, Tm.s, Tm.p, Tm.c, Tm.l, y0, y1, y2, y3]) rfl ?_
        exact hfin.out _ ((Kp.set (C := fun b => b = w.heap.size ∨ b = w.heap.size + 1) (.inl rfl)).trans (Kp.set4 (C := fun b => b = w.heap.size ∨ b = w.heap.size + 1) (.inr rfl)))
      · obtain rfl : lm = [] := List.eq_nil_of_length_eq_zero (by omega)
        have hxe : (Tm.mk k0 n s pv cv []).erase = (Tm.mk k0 n s p' c' l).erase := by rw [Tm.erase, Tm.erase, He0.out]
        have hxin : ∀ W, (Tm.mk k0 n s pv cv []).In W := fun W => by
          rw [Tm.In]
          exact ⟨Hk.out, Hn.out, Hs.out, by simp, ⟨by simp, by simpa using hcv2⟩, .inl rfl, by rw [Tm.InL]; trivial⟩
        have hxon : ∀ S, (Tm.mk k0 n s pv cv []).On S := fun S => by rw [Tm.On, Tm.OnL]; exact ⟨.inl rfl, trivial⟩
        have hxro : ∀ W, (Tm.mk k0 n s pv cv []).Roomy W := fun W => by rw [Tm.Roomy, Tm.RoomyL]; exact ⟨.inl rfl, trivial⟩
        have hfin : Hid (∀ W, Kp (fun b => b = w.heap.size ∨ b = w.heap.size + 1) wr W → Q (.returned (Tm.mk k0 n s pv cv []).val) W) := fun W hK =>
          hR.out _ W (hxin _) hxe (hxon _) (hxro _) (Below.trans gr (hK.below (B := w.heap.size) (fun b hb => by omega) (by omega)))
        obtain ⟨⟨y0, y1, y2, y3⟩, ⟨f0, f1, f2, f3⟩, hbs2⟩ := HBR.out.2.parts
        clear hxe hxin hxon hxro
        simp only [List.length_nil] at *
        go_wp2_with fail
        refine bodyPost_ret (v := (Tm.mk k0 n s pv cv []).val) (by simp (maxDischargeDepth := 9) [results, Try.results21, go_sem, Tm.val, Tm.k, Tm.n, Tm.s, Tm.p, Tm.c, Tm.l, y0, y1, y2, y3]) rfl ?_
        exact hfin.out _ ((Kp.set (C := fun b => b = w.heap.size ∨ b = w.heap.size + 1) (.inl rfl)).trans (Kp.set4 (C := fun b => b = w.heap.size ∨ b = w.heap.size + 1) (.inr rfl)))

theorem own_any (N : Nat) : ∀ t : Tm, SizeOf.sizeOf t ≤ N → ownOf t := by
  induction N with
  | zero => intro t h; cases t; simp at h
  | succ N ih =>
    intro t h w hin
    obtain ⟨k, n, s, p, c, l⟩ := t
    exact own_step k n s p c l (fun x hx => ih x (by have := Tm.sizeOf_mem hx k n s p c; omega)) w hin
theorem own_calls {t : Tm} {w : World} (h : t.In w) : Calls Try.prog 21 #[t.val] w (RetOwn t.erase w) := own_any _ t (Nat.le_refl _) w h
end Go.Proofs.Yteonakicoomjkaa
