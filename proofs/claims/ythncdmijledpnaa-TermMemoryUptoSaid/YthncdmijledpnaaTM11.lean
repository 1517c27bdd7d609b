/-
  Substitutions: whether it is one (term.CheckBinds).
  slices.BinarySearchFunc at substitutions, by the variable.
  term.to, term.Applied
  term.Applied, term.Apply
  term.Apply
  Maps that are ranged over: when each entry was laid, how many there are; what is met in a range.
  term.Binds: the range over the map.
  term.Binds: what a range over the map has collected.
  Slices of binds that a call makes by append; an iterator's step turns one block.
-/
import Derived.Test.YthncdmijledpnaaTM10
import Derived.Test.YthncdmijledpnaaTM05
import Derived.Deep.LoopGhost
import Derived.Maps.RangeRun
import Derived.Test.YthncdmijledpnaaTM04
import Derived.Test.YthncdmijledpnaaTM02
namespace Go.Proofs.Ythncdmijledpnaa
open Go.RowKit Go.Lib

/-- The variables rise. -/
def ascB (last : Int) : List Bd → Bool
  | [] => true
  | x :: xs => decide (last < x.v) && (decide (x.v ≤ 1099511627776) && ascB x.v xs)
/-- P4: is it a substitution? -/
def bindsErr (l : List Bd) : Int := if (l.all fun y => y.t.erase.formed) = true then (if ascB (-1) l = true then 0 else 1) else 2

theorem all_take_snoc {l : List Bd} {k : Nat} (hk : k < l.length) (h : ((l.take k).all fun y => y.t.erase.formed) = true) (hx : l[k].t.erase.formed = true) : ((l.take (k + 1)).all fun y => y.t.erase.formed) = true := by
  rw [List.take_succ_eq_append_getElem hk, List.all_append, h]
  simp [hx]
theorem all_false {l : List Bd} {k : Nat} (hk : k < l.length) (hx : l[k].t.erase.formed = false) : bindsErr l = 2 := by
  refine if_neg fun h => ?_
  have := List.all_eq_true.1 h l[k] (List.getElem_mem hk)
  rw [hx] at this
  cases this
theorem asc_drop {l : List Bd} {k : Nat} (hk : k < l.length) (last : Int) : ascB last (l.drop k) = (decide (last < l[k].v) && (decide (l[k].v ≤ 1099511627776) && ascB l[k].v (l.drop (k + 1)))) := by
  rw [List.drop_eq_getElem_cons hk, ascB]

def bdCells (y : Bd) : Array Value := #[.int .i64 y.v, .int .i64 y.t.k, .int .i64 y.t.n, .string y.t.s, .slice y.t.p y.t.l.length y.t.c]

set_option maxHeartbeats 4000000 in
set_option maxRecDepth 100000 in
theorem checkBinds_calls (p : Option Addr) (c : Nat) (l : List Bd) (w : World) (hx : (Bds.mk p c l).In w) : Calls Try.prog 112 #[.slice p l.length c] w (Ret (.int .i64 (bindsErr l)) w) := by
  have HX := Lib.hid hx
  obtain ⟨hlc, ⟨hl64, hc⟩, _, _⟩ := hx
  simp only at hlc hl64 hc
  have hR : Hid (∀ n, bindsErr l = n → ∀ w', Gr w w' → Ret (.int .i64 (bindsErr l)) w (.returned (.int .i64 n)) w') := fun n h w' hg => ⟨by rw [h], hg⟩
  generalize hQ : Ret (.int .i64 (bindsErr l)) w = Q at hR ⊢
  clear hQ
  go_enter Try.func112, Try.ntmps112
  try simp only [List.append_eq, List.cons_append, List.nil_append]
  go_wp2_with fail
  go_loopg [10] l.length (fun m i wr => ∃ k : Nat, k ≤ l.length ∧ m = l.length - k ∧ i = .int .i64 k ∧ Hid (((l.take k).all fun y => y.t.erase.formed) = true) ∧ Gr w wr)
  case atStart => exact ⟨0, Nat.zero_le _, rfl, rfl, rfl, Gr.rfl' _⟩
  case round =>
    obtain ⟨k, hk, rfl, rfl, hpre, gr⟩ := hrel
    by_cases hlt : k < l.length
    · obtain ⟨b, o, rfl⟩ := HX.out.ptr (by omega)
      obtain ⟨⟨c0, c1, c2, c3, c4⟩, hti, ⟨hv1, hv2⟩, hbl⟩ := (HX.out.mono gr).elem k hlt
      have Hti := Lib.hid hti
      have Hst : Hid (l[k].t.erase.formed = true → ((l.take (k + 1)).all fun y => y.t.erase.formed) = true) := fun h => all_take_snoc hlt hpre.out h
      have Hbad : Hid (l[k].t.erase.formed = false → bindsErr l = 2) := fun h => all_false hlt h
      clear hti
      generalize l[k] = y at *
      go_upto_region 4 with fail
      have hB := BlkT.new wr 115 (bdCells y)
      have gB : Gr wr (wr.alloc (.cells (bdCells y) 115)) := by go_grown
      simp only [bdCells] at hB gB
      generalize wr.alloc (.cells #[.int .i64 y.v, .int .i64 y.t.k, .int .i64 y.t.n, .string y.t.s, .slice y.t.p y.t.l.length y.t.c] 115) = wB at *
      have HB := Lib.hid hB
      have grB : Gr w wB := gr.trans gB
      clear hB c0 c1 c2 c3 c4
      have d1 := HB.out.cell 1 (v := .int .i64 y.t.k) rfl
      have d2 := HB.out.cell 2 (v := .int .i64 y.t.n) rfl
      have d3 := HB.out.cell 3 (v := .string y.t.s) rfl
      have d4 := HB.out.cell 4 (v := .slice y.t.p y.t.l.length y.t.c) rfl
      have Htv := Lib.hid (show y.t.val = .agg #[.int .i64 y.t.k, .int .i64 y.t.n, .string y.t.s, .slice y.t.p y.t.l.length y.t.c] from rfl)
      cases hf : y.t.erase.formed with
      | false =>
        have Hf := Lib.hid hf
        clear hf
        go_wp2_with (first
          | (go_at_call 96; rewrite [← Htv.out]; refine (formed_calls (t := y.t) (Tm.In_below gB Hti.out)).mono ?_; rw [Hf.out]; rintro e w1 ⟨rfl, hb1⟩; have g1 : Gr w w1 := grB.trans hb1; clear hb1 d1 d2 d3 d4)
          | fail)
        exact hR.out _ (Hbad.out Hf.out) _ g1
      | true =>
        have Hf := Lib.hid hf
        clear hf
        go_wp2_with (first
          | (go_at_call 96; rewrite [← Htv.out]; refine (formed_calls (t := y.t) (Tm.In_below gB Hti.out)).mono ?_; rw [Hf.out]; rintro e w1 ⟨rfl, hb1⟩; have g1 : Gr w w1 := grB.trans hb1; clear hb1 d1 d2 d3 d4)
          | fail)
        go_roundg (l.length - (k + 1))
        case measure => omega
        case rel => exact ⟨k + 1, by omega, rfl, by go_num, Hst.out Hf.out, g1⟩
    · obtain rfl : k = l.length := by omega
      have Hall : Hid ((l.all fun y => y.t.erase.formed) = true) := by
        show _ = _
        have := hpre.out
        rwa [List.take_length] at this
      clear hpre
      go_wp2_with fail
      go_loopg [5, 21] l.length (fun m v i wx => ∃ (k : Nat) (last : Int), v = .int .i64 last ∧ In64 last ∧ k ≤ l.length ∧ m = l.length - k ∧ i = .int .i64 k ∧ Hid (ascB last (l.drop k) = ascB (-1) l) ∧ Gr w wx)
      case atStart => exact ⟨0, -1, rfl, ⟨by omega, by omega⟩, Nat.zero_le _, rfl, rfl, rfl, gr⟩
      case round =>
        obtain ⟨k, last, rfl, hla, hk, rfl, rfl, hpre, gr2⟩ := hrel
        by_cases hlt : k < l.length
        · obtain ⟨b, o, rfl⟩ := HX.out.ptr (by omega)
          obtain ⟨⟨c0, c1, c2, c3, c4⟩, hti, ⟨hv1, hv2⟩, hbl⟩ := (HX.out.mono gr2).elem k hlt
          have hst := hpre.out.symm.trans (asc_drop hlt last)
          clear hti
          generalize l[k] = y at *
          have Hst := Lib.hid hst
          clear hst hpre
          go_upto_region 11 with fail
          have hB := BlkT.new wr 115 (bdCells y)
          have gB : Gr wr (wr.alloc (.cells (bdCells y) 115)) := by go_grown
          simp only [bdCells] at hB gB
          generalize wr.alloc (.cells #[.int .i64 y.v, .int .i64 y.t.k, .int .i64 y.t.n, .string y.t.s, .slice y.t.p y.t.l.length y.t.c] 115) = wB at *
          have HB := Lib.hid hB
          have grB : Gr w wB := gr2.trans gB
          clear hB c0 c1 c2 c3 c4
          have d0 := HB.out.cell 0 (v := .int .i64 y.v) rfl
          by_cases h1 : last < y.v
          · by_cases h2 : y.v ≤ 1099511627776
            · have h1' : decide (y.v ≤ last) = false := decide_eq_false (by omega)
              have h2' : decide (1099511627776 < y.v) = false := decide_eq_false (by omega)
              have Hst2 : Hid (ascB y.v (l.drop (k + 1)) = ascB (-1) l) := by
                show _ = _
                rw [Hst.out, decide_eq_true h1, decide_eq_true h2]; rfl
              clear h1 h2
              go_wp2_with fail
              go_roundg (l.length - (k + 1))
              case measure => omega
              case rel => exact ⟨k + 1, y.v, rfl, ⟨hv1, hv2⟩, by omega, rfl, by go_num, Hst2.out, grB⟩
            · have h1' : decide (y.v ≤ last) = false := decide_eq_false (by omega)
              have h2' : decide (1099511627776 < y.v) = true := decide_eq_true (by omega)
              have Hst2 : Hid (bindsErr l = 1) := by
                show _ = _
                rw [bindsErr, if_pos Hall.out, if_neg (by rw [Hst.out, decide_eq_false h2]; simp)]
              clear h1 h2
              go_wp2_with fail
              exact hR.out _ Hst2.out _ grB
          · have h1' : decide (y.v ≤ last) = true := decide_eq_true (by omega)
            have Hst2 : Hid (bindsErr l = 1) := by
              show _ = _
              rw [bindsErr, if_pos Hall.out, if_neg (by rw [Hst.out, decide_eq_false h1]; simp)]
            clear h1
            go_wp2_with fail
            exact hR.out _ Hst2.out _ grB
        · obtain rfl : k = l.length := by omega
          have Hst2 : Hid (bindsErr l = 0) := by
            show _ = _
            rw [bindsErr, if_pos Hall.out, if_pos (by rw [← hpre.out, List.drop_length, ascB])]
          go_wp2_with fail
          exact hR.out _ Hst2.out _ gr2
end Go.Proofs.Ythncdmijledpnaa

namespace Go.Proofs.Ythncdmijledpnaa
open Go.RowKit Go.Lib

set_option maxHeartbeats 1000000 in
set_option maxRecDepth 100000 in
theorem to1_calls (y : Bd) (n : Int) (w : World) : Calls Try.prog 209 #[.agg (bdCells y), .int .i64 n] w (Ret (.int .i64 (cmpI y.v n)) w) := by
  have hR : Hid (∀ m, cmpI y.v n = m → ∀ w', Gr w w' → Ret (.int .i64 (cmpI y.v n)) w (.returned (.int .i64 m)) w') := fun m h w' hg => ⟨by rw [h], hg⟩
  generalize hQ : Ret (.int .i64 (cmpI y.v n)) w = Q at hR ⊢
  clear hQ
  simp only [bdCells]
  go_enter Try.func209, Try.ntmps209
  try simp only [List.append_eq, List.cons_append, List.nil_append]
  go_upto_region 1 with fail
  have hB := BlkT.new w 115 #[.int .i64 y.v, .int .i64 y.t.k, .int .i64 y.t.n, .string y.t.s, .slice y.t.p y.t.l.length y.t.c]
  have gB : Gr w (w.alloc (.cells #[.int .i64 y.v, .int .i64 y.t.k, .int .i64 y.t.n, .string y.t.s, .slice y.t.p y.t.l.length y.t.c] 115)) := by go_grown
  generalize w.alloc (.cells #[.int .i64 y.v, .int .i64 y.t.k, .int .i64 y.t.n, .string y.t.s, .slice y.t.p y.t.l.length y.t.c] 115) = wB at *
  have d0 := hB.cell 0 (v := .int .i64 y.v) rfl
  go_wp2_with (first
    | (go_at_call 93; refine (compare_int64 _ _ _).mono ?_; rintro e w1 ⟨rfl, rfl⟩)
    | fail)
  exact hR.out _ rfl _ gB

/-- Is it bound there? -/
def fnd (l : List Bd) (i : Nat) (n : Int) : Bool := match l[i]? with
  | some y => decide (y.v = n)
  | none => false

/-- Where a variable is, or would be. -/
def RetBS (l : List Bd) (n : Int) (w : World) (e : Ending) (w' : World) : Prop :=
  ∃ i : Nat, i ≤ l.length ∧ (∀ (t : Nat) (h : t < l.length), t < i → l[t].v < n) ∧ (∀ (t : Nat) (h : t < l.length), i ≤ t → n ≤ l[t].v) ∧ e = .returned (.tuple #[.int .i64 i, .bool (fnd l i n)]) ∧ Gr w w'

theorem cmpI_negD (a b : Int) : (cmpI a b < 0) ↔ a < b := by
  by_cases h : a < b
  · rw [cmpI_lt h]; simp [h]
  · by_cases h2 : b < a
    · rw [cmpI_gt h2]; simp [h]
    · rw [cmpI_eq (by omega) (by omega)]; simp [h]
theorem cmpI_zeroD (a b : Int) : (cmpI a b = 0) ↔ a = b := by
  by_cases h : a < b
  · rw [cmpI_lt h]; constructor <;> intro h <;> omega
  · by_cases h2 : b < a
    · rw [cmpI_gt h2]; constructor <;> intro h <;> omega
    · rw [cmpI_eq (by omega) (by omega)]; constructor <;> intro _ <;> omega

set_option maxHeartbeats 4000000 in
set_option maxRecDepth 100000 in
theorem bs_calls (p : Option Addr) (c : Nat) (l : List Bd) (n : Int) (w : World) (hx : (Bds.mk p c l).In w) (hs : ∀ (a b : Nat) (ha : a < l.length) (hb : b < l.length), a ≤ b → l[a].v ≤ l[b].v) :
    Calls Try.prog 208 #[.slice p l.length c, .int .i64 n, .func (.func 209) #[] #[]] w (RetBS l n w) := by
  have HX := Lib.hid hx
  have HS := Lib.hid hs
  obtain ⟨hlc, ⟨hl64, hc⟩, _, _⟩ := hx
  simp only at hlc hl64 hc
  have hR : Hid (∀ (i : Nat) (b : Bool), fnd l i n = b → i ≤ l.length → ((∀ (t : Nat) (h : t < l.length), t < i → l[t].v < n) ∧ (∀ (t : Nat) (h : t < l.length), i ≤ t → n ≤ l[t].v)) → ∀ w', Gr w w' → RetBS l n w (.returned (.tuple #[.int .i64 i, .bool b])) w') := fun i b hb hi h w' hg => ⟨i, hi, h.1, h.2, by rw [hb], hg⟩
  generalize hQ : RetBS l n w = Q at hR ⊢
  have eg : ∀ args w, (callFunc 209 args).run Try.prog w = .ok (.enter 209 args) w := fun args w => by kernel_rfl
  clear hQ hs
  go_enter Try.func208, Try.ntmps208
  try simp only [List.append_eq, List.cons_append, List.nil_append]
  go_wp2_with fail
  go_loopg [9, 10] l.length (fun kx s9 s10 wr => ∃ lo hi : Nat, s9 = .int .i64 lo ∧ s10 = .int .i64 hi ∧ lo ≤ hi ∧ hi ≤ l.length ∧ hi - lo ≤ kx ∧ Hid ((∀ (t : Nat) (h : t < l.length), t < lo → l[t].v < n) ∧ (∀ (t : Nat) (h : t < l.length), hi ≤ t → n ≤ l[t].v)) ∧ Gr w wr)
  case atStart => exact ⟨0, l.length, rfl, rfl, Nat.zero_le _, Nat.le_refl _, by omega, ⟨fun t _ ht => absurd ht (Nat.not_lt_zero _), fun t h1 h2 => by omega⟩, Gr.rfl' _⟩
  case round =>
    obtain ⟨lo, hi, rfl, rfl, hlh, hin, hg, I, gr⟩ := hrel
    by_cases hlt : lo < hi
    · obtain ⟨b, o, rfl⟩ := HX.out.ptr (by omega)
      obtain ⟨⟨c0, c1, c2, c3, c4⟩, _, _, _⟩ := (HX.out.mono gr).elem ((lo + hi) / 2) (by omega)
      have hm : (lo + hi) / 2 < l.length := by omega
      have hy : l[(lo + hi) / 2]? = some l[(lo + hi) / 2] := List.getElem?_eq_getElem hm
      have hlow : Hid (l[(lo + hi) / 2].v < n → ∀ (t : Nat) (h : t < l.length), t < (lo + hi) / 2 + 1 → l[t].v < n) := fun h1 t h ht => by have := HS.out t _ h hm (by omega); omega
      have hupp : Hid (n ≤ l[(lo + hi) / 2].v → ∀ (t : Nat) (h : t < l.length), (lo + hi) / 2 ≤ t → n ≤ l[t].v) := fun h1 t h ht => by have := HS.out _ t hm h ht; omega
      clear hy
      generalize l[(lo + hi) / 2] = y at *
      have hcall := Lib.hid (to1_calls y n wr)
      have Hbc := Lib.hid (show Value.agg (bdCells y) = .agg #[.int .i64 y.v, .int .i64 y.t.k, .int .i64 y.t.n, .string y.t.s, .slice y.t.p y.t.l.length y.t.c] from rfl)
      by_cases hlt2 : y.v < n
      · have hyx : cmpI y.v n < 0 := (cmpI_negD _ _).2 hlt2
        have Hl := Lib.hid (hlow.out hlt2)
        clear hlow hupp hlt2
        go_wp2_with (first
          | (go_at_call 209; rewrite [← Hbc.out]; refine hcall.out.mono ?_; rintro e w' ⟨rfl, hb⟩; have gr2 := gr.trans hb; clear hb c0 c1 c2 c3 c4)
          | fail)
        go_roundg (hi - ((lo + hi) / 2 + 1))
        case measure => omega
        case rel => exact ⟨(lo + hi) / 2 + 1, hi, by rw [show ((lo : Int) + (hi : Int)) / 2 + 1 = (((lo + hi) / 2 + 1 : Nat) : Int) by omega], rfl, by omega, hin, Nat.le_refl _, ⟨Hl.out, I.out.2⟩, gr2⟩
      · have hyx : ¬ cmpI y.v n < 0 := fun h => hlt2 ((cmpI_negD _ _).1 h)
        have Hl := Lib.hid (hupp.out (by omega))
        clear hlow hupp hlt2
        go_wp2_with (first
          | (go_at_call 209; rewrite [← Hbc.out]; refine hcall.out.mono ?_; rintro e w' ⟨rfl, hb⟩; have gr2 := gr.trans hb; clear hb c0 c1 c2 c3 c4)
          | fail)
        go_roundg ((lo + hi) / 2 - lo)
        case measure => omega
        case rel => exact ⟨lo, (lo + hi) / 2, rfl, by rw [show ((lo : Int) + (hi : Int)) / 2 = (((lo + hi) / 2 : Nat) : Int) by omega], by omega, by omega, Nat.le_refl _, ⟨I.out.1, Hl.out⟩, gr2⟩
    · obtain rfl : hi = lo := by omega
      by_cases hn : hi < l.length
      · obtain ⟨b, o, rfl⟩ := HX.out.ptr (by omega)
        obtain ⟨⟨c0, c1, c2, c3, c4⟩, _, _, _⟩ := (HX.out.mono gr).elem hi hn
        have Hf := Lib.hid (show fnd l hi n = decide (l[hi].v = n) by rw [fnd, List.getElem?_eq_getElem hn])
        generalize l[hi] = y at *
        have hcall := Lib.hid (to1_calls y n wr)
        have Hbc := Lib.hid (show Value.agg (bdCells y) = .agg #[.int .i64 y.v, .int .i64 y.t.k, .int .i64 y.t.n, .string y.t.s, .slice y.t.p y.t.l.length y.t.c] from rfl)
        by_cases he : y.v = n
        · have hz : (cmpI y.v n == 0) = true := beq_iff_eq.2 ((cmpI_zeroD _ _).2 he)
          have Hf2 := Lib.hid (show fnd l hi n = true by rw [Hf.out]; exact decide_eq_true he)
          clear he
          go_wp2_with (first
            | (go_at_call 209; rewrite [← Hbc.out]; refine hcall.out.mono ?_; rintro e w' ⟨rfl, hb⟩; have gr2 := gr.trans hb; clear hb c0 c1 c2 c3 c4)
            | fail)
          exact hR.out hi _ Hf2.out hin I.out _ gr2
        · have hz : (cmpI y.v n == 0) = false := beq_eq_false_iff_ne.2 fun h => he ((cmpI_zeroD _ _).1 h)
          have Hf2 := Lib.hid (show fnd l hi n = false by rw [Hf.out]; exact decide_eq_false he)
          clear he
          go_wp2_with (first
            | (go_at_call 209; rewrite [← Hbc.out]; refine hcall.out.mono ?_; rintro e w' ⟨rfl, hb⟩; have gr2 := gr.trans hb; clear hb c0 c1 c2 c3 c4)
            | fail)
          exact hR.out hi _ Hf2.out hin I.out _ gr2
      · have Hf2 := Lib.hid (show fnd l hi n = false by rw [fnd, List.getElem?_eq_none (by omega)])
        go_wp2_with fail
        exact hR.out hi _ Hf2.out hin I.out _ gr
end Go.Proofs.Ythncdmijledpnaa

namespace Go.Proofs.Ythncdmijledpnaa
open Go.RowKit Go.Lib

theorem asc_spec : ∀ (l : List Bd) (last : Int), ascB last l = true → (∀ (a : Nat) (h : a < l.length), last < l[a].v ∧ l[a].v ≤ 1099511627776) ∧ ∀ (a b : Nat) (ha : a < l.length) (hb : b < l.length), a < b → l[a].v < l[b].v
  | [], _, _ => ⟨fun a h => absurd h (by simp), fun a b h => absurd h (by simp)⟩
  | x :: xs, last, h => by
    rw [ascB, Bool.and_eq_true, Bool.and_eq_true, decide_eq_true_eq, decide_eq_true_eq] at h
    obtain ⟨h1, h2, h3⟩ := h
    obtain ⟨i1, i2⟩ := asc_spec xs x.v h3
    refine ⟨fun a ha => ?_, fun a b ha hb hab => ?_⟩
    · cases a with
      | zero => exact ⟨h1, h2⟩
      | succ a => have := i1 a (by simpa using ha); simp only [List.getElem_cons_succ]; exact ⟨by omega, this.2⟩
    · cases b with
      | zero => omega
      | succ b =>
        cases a with
        | zero => exact (i1 b (by simpa using hb)).1
        | succ a => exact i2 a b (by simpa using ha) (by simpa using hb) (by omega)
theorem lookup_at (l : List Bd) (n : Int) : ∀ (i : Nat) (h : i < l.length), (∀ (t : Nat) (ht : t < l.length), t < i → l[t].v ≠ n) → l[i].v = n → lookupT l n = l[i].t.erase := by
  induction l with
  | nil => intro i h; simp at h
  | cons x xs ih =>
    intro i h hlt hv
    rw [lookupT]
    cases i with
    | zero => exact if_pos (show x.v = n from hv)
    | succ i =>
      rw [if_neg (show ¬ x.v = n from hlt 0 (by simp) (by omega))]
      exact ih i (by simpa using h) (fun t ht hti => hlt (t + 1) (by simpa using ht) (by omega)) hv
theorem lookup_no (l : List Bd) (n : Int) : (∀ (t : Nat) (ht : t < l.length), l[t].v ≠ n) → lookupT l n = varT n := by
  induction l with
  | nil => intro _; rfl
  | cons x xs ih =>
    intro h
    rw [lookupT, if_neg (show ¬ x.v = n from h 0 (by simp))]
    exact ih fun t ht => h (t + 1) (by simpa using ht)

end Go.Proofs.Ythncdmijledpnaa

namespace Go.Proofs.Ythncdmijledpnaa
open Go.RowKit Go.Lib

/-- What term.Apply tells. -/
def applyErr (t : T) (l : List Bd) : Int := if t.formed = true then bindsErr l else 2
theorem bindsErr_cases (l : List Bd) : (bindsErr l = 0 ∧ ascB (-1) l = true ∧ (l.all fun y => y.t.erase.formed) = true) ∨ bindsErr l = 1 ∨ bindsErr l = 2 := by
  unfold bindsErr
  by_cases h1 : (l.all fun y => y.t.erase.formed) = true
  · rw [if_pos h1]
    by_cases h2 : ascB (-1) l = true
    · rw [if_pos h2]; exact .inl ⟨rfl, h2, h1⟩
    · rw [if_neg h2]; exact .inr (.inl rfl)
  · rw [if_neg h1]; exact .inr (.inr rfl)
end Go.Proofs.Ythncdmijledpnaa

namespace Go.Proofs.Ythncdmijledpnaa
open Go.RowKit Go.Lib

end Go.Proofs.Ythncdmijledpnaa

namespace Go.Proofs.Ythncdmijledpnaa
open Go.RowKit Go.Maps

/-- Block b is a map all of whose keys are such; when each entry was laid. -/
def Stm {K : Type} (κ : K → Value) (w : World) (b : Nat) : Prop :=
  ∃ (E : Array MapEntry) (c : Nat), w.heap[b]? = some (.map E c) ∧ (∀ e ∈ E.toList, (∃ x, e.key = κ x) ∧ e.born < c) ∧ (E.toList.map (·.born)).Nodup

section
variable {K : Type} {k : TypeId} {κ : K → Value} {w w' : World} {b : Nat} {f : K → Option Value}
theorem Stm.kp {C : Nat → Prop} (h : Stm κ w b) (hg : Kp C w w') (hb : ¬ C b) : Stm κ w' b := by
  obtain ⟨E, c, h1, h2⟩ := h
  exact ⟨E, c, (hg.block b (Array.getElem?_eq_some_iff.1 h1).1 hb).trans h1, h2⟩
theorem Stm.gr (h : Stm κ w b) (hg : Gr w w') : Stm κ w' b := h.kp (C := fun _ => False) (Kp.of_gr hg) id
theorem Stm.made (κ : K → Value) (w : World) : Stm κ (w.alloc (.map #[] 0)) w.heap.size := ⟨#[], 0, heap_alloc_new _ _, (fun _ h => by cases h), List.nodup_nil⟩

set_option maxRecDepth 100000 in
/-- A store keeps both. -/
theorem GMap.updateS (h : GMap k κ w b f) (hs : Stm κ w b) (KK : Keyed Try.prog k) {t e : TypeId} (ht : Try.prog.underlying t = some (.map k e)) {x : K} {l : Lit} (hx : keyOf Try.prog k (κ x) = some l) (hinj : ∀ y, κ y = κ x → y = x) (v : Value)
    {g : K → Option Value} (hg1 : g x = some v) (hg2 : ∀ y, y ≠ x → g y = f y) :
    ∃ w', (Instr.mapUpdate t (.map (some b)) (κ x) v).run Try.prog w = .ok () w' ∧ GMap k κ w' b g ∧ w.grownBy w' (some b) ∧ Stm κ w' b := by
  obtain ⟨w1, hr1, hg, hgb⟩ := h.update KK ht hx hinj v hg1 hg2
  refine ⟨w1, hr1, hg, hgb, ?_⟩
  obtain ⟨E, c, hb, hk, hn, hf⟩ := h
  obtain ⟨E', c', hb', hst, hbn⟩ := hs
  rw [hb] at hb'
  cases hb'
  rcases KK.find w hx E.toList hk with ⟨h1, h2⟩ | ⟨j, e0, h1, h2, h3⟩
  · have hrun : (Instr.mapUpdate t (.map (some b)) (κ x) v).run Try.prog w = .ok () (ChangeMaps.setBlock w b (.map (E.push ⟨κ x, v, c⟩) (c + 1))) := by
      simp [Instr.mapUpdate, run_underlying ht, MapKept.run_getObj_map hb, KK.check w false hx, h1, MapKept.run_setObj_map _ hb, Result.andThen, ChangeMaps.setBlock]
    rw [hr1] at hrun
    have hw := (Result.ok.inj hrun).2
    rw [hw]
    refine ⟨_, _, ChangeMaps.heap_setBlock_same hb _, fun e he => ?_, ?_⟩
    · rw [Array.toList_push, List.mem_append, List.mem_singleton] at he
      rcases he with he | rfl
      · exact ⟨(hst e he).1, by have := (hst e he).2; omega⟩
      · exact ⟨⟨x, rfl⟩, Nat.lt_succ_self _⟩
    · rw [Array.toList_push, List.map_append, List.nodup_append]
      refine ⟨hbn, by simp, ?_⟩
      intro a ha d hd
      obtain ⟨e, he, rfl⟩ := List.mem_map.1 ha
      simp only [List.map_cons, List.map_nil, List.mem_singleton] at hd
      subst hd
      exact Nat.ne_of_lt (hst e he).2
  · have hj : E[j]? = some e0 := by simpa using h2
    have hrun : (Instr.mapUpdate t (.map (some b)) (κ x) v).run Try.prog w = .ok () (ChangeMaps.setBlock w b (.map (E.modify j fun e => { e with key := κ x, val := v }) c)) := by
      simp [Instr.mapUpdate, run_underlying ht, MapKept.run_getObj_map hb, KK.check w false hx, h1, hj, h3, KK.stays w hx, MapKept.run_setObj_map _ hb, Result.andThen, ChangeMaps.setBlock]
    rw [hr1] at hrun
    have hw := (Result.ok.inj hrun).2
    rw [hw]
    have hM : (E.modify j fun e => { e with key := κ x, val := v }).toList = E.toList.modify j fun e => { e with key := κ x, val := v } := Array.toList_modify ..
    refine ⟨_, _, ChangeMaps.heap_setBlock_same hb _, fun e he => ?_, ?_⟩
    · rw [hM] at he
      obtain ⟨i, hi, hie⟩ := List.getElem_of_mem he
      rw [List.getElem_modify] at hie
      have hil : i < E.toList.length := by simpa using hi
      by_cases hji : j = i
      · rw [if_pos hji] at hie
        rw [← hie]
        exact ⟨⟨x, rfl⟩, (hst _ (List.getElem_mem hil)).2⟩
      · rw [if_neg hji] at hie
        rw [← hie]
        exact hst _ (List.getElem_mem hil)
    · rw [hM]
      have : (E.toList.modify j fun e => { e with key := κ x, val := v }).map (·.born) = E.toList.map (·.born) := by
        apply List.ext_getElem (by simp)
        intro i h1 h2
        simp only [List.getElem_map, List.getElem_modify]
        split <;> rfl
      rw [this]
      exact hbn
end

/-- A list of numbers below M, each once, is no longer than M. -/
theorem nodup_le : ∀ (M : Nat) (l : List Int), l.Nodup → (∀ x ∈ l, 0 ≤ x ∧ x < M) → l.length ≤ M
  | 0, l, _, h => by
    cases l with
    | nil => exact Nat.le_refl _
    | cons x xs => have := h x (by simp); omega
  | M + 1, l, hn, h => by
    by_cases hm : (M : Int) ∈ l
    · have h1 := nodup_le M (l.erase M) (hn.erase _) fun x hx => by
        have h2 := h x (List.mem_of_mem_erase hx)
        have h3 : x ≠ M := fun e => by subst e; exact (List.Nodup.not_mem_erase hn) hx
        omega
      rw [List.length_erase_of_mem hm] at h1
      omega
    · have h1 := nodup_le M l hn fun x hx => by
        have h2 := h x hx
        have h3 : x ≠ M := fun e => hm (e ▸ hx)
        omega
      omega
end Go.Proofs.Ythncdmijledpnaa

namespace Go.Proofs.Ythncdmijledpnaa
open Go.RowKit Go.Maps Go.Lib

def kI64 (n : Int) : Value := .int .i64 n
theorem kI64_inj {x y : Int} (h : kI64 y = kI64 x) : y = x := by simpa [kI64] using h

/-- A map from variables to terms that lie on S. -/
def TMap (S : Nat → Prop) (w : World) (b : Nat) (f : Int → Option T) : Prop :=
  (∃ g, GMap 2 kI64 w b g ∧ ∀ n, match f n with
    | none => g n = none
    | some t => ∃ tm : Tm, g n = some tm.val ∧ tm.In w ∧ tm.erase = t ∧ t.formed = true ∧ tm.On S) ∧ Stm kI64 w b ∧ ∀ n, f n ≠ none → 0 ≤ n ∧ n ≤ 1099511627776

theorem infoBd : (Try.prog.info? 115).map (fun i => (i.zero, i.size, i.bytes)) = some (some (.agg #[.int .i64 0, .int .i64 0, .int .i64 0, .string ⟨#[]⟩, .slice none 0 0]), 5, 64) := by kernel_rfl

theorem TMap.kp {S C : Nat → Prop} {w w' : World} {b : Nat} {f : Int → Option T} (h : TMap S w b f) (hk : Kp C w w') (hb : ¬ C b) (hS : ∀ x, S x → ¬ C x) : TMap S w' b f := by
  obtain ⟨⟨g, h1, h2⟩, h3, h4⟩ := h
  refine ⟨⟨g, h1.kp hk hb, fun n => ?_⟩, h3.kp hk hb, h4⟩
  have := h2 n
  cases hf : f n with
  | none => rw [hf] at this; exact this
  | some t =>
    rw [hf] at this
    obtain ⟨tm, i1, i2, i3, i4, i5⟩ := this
    exact ⟨tm, i1, in_after' i2 i5 fun x hx hl _ => World.cell?_of_block (hk.block x hl (hS x hx)), i3, i4, i5⟩

/-- What lies in a map: each entry's key and value. -/
theorem TMap.entries {S : Nat → Prop} {w : World} {b : Nat} {f : Int → Option T} (h : TMap S w b f) : ∃ (E : Array MapEntry) (c : Nat), w.heap[b]? = some (.map E c) ∧ (∀ e ∈ E.toList, e.born < c) ∧ (E.toList.map (·.born)).Nodup ∧ (E.toList.map (·.key)).Nodup ∧
    (∀ e ∈ E.toList, ∃ (n : Int) (tm : Tm), e.key = kI64 n ∧ e.val = tm.val ∧ f n = some tm.erase ∧ tm.In w ∧ tm.erase.formed = true ∧ tm.On S ∧ 0 ≤ n ∧ n ≤ 1099511627776) ∧
    ∀ n t, f n = some t → ∃ e ∈ E.toList, e.key = kI64 n := by
  obtain ⟨⟨g, ⟨E, c, hb, hk, hn, hf⟩, h2⟩, ⟨E', c', hb', hst, hbn⟩, h4⟩ := h
  rw [hb] at hb'
  cases hb'
  refine ⟨E, _, hb, fun e he => (hst e he).2, hbn, hn, fun e he => ?_, fun n t ht => ?_⟩
  · obtain ⟨n, hkey⟩ := (hst e he).1
    have hg : g n = some e.val := (hf n e.val).2 ⟨e, he, hkey, rfl⟩
    have h5 := h2 n
    cases hfn : f n with
    | none => rw [hfn] at h5; simp only at h5; rw [hg] at h5; cases h5
    | some t =>
      rw [hfn] at h5
      obtain ⟨tm, i1, i2, i3, i4, i5⟩ := h5
      rw [hg] at i1
      have h6 := h4 n (by rw [hfn]; simp)
      exact ⟨n, tm, hkey, Option.some.inj i1, by rw [hfn, i3], i2, by rw [i3]; exact i4, i5, h6.1, h6.2⟩
  · have h5 := h2 n
    rw [ht] at h5
    obtain ⟨tm, i1, _⟩ := h5
    obtain ⟨e, he, hek, _⟩ := (hf n tm.val).1 i1
    exact ⟨e, he, hek⟩
end Go.Proofs.Ythncdmijledpnaa

namespace Go.Proofs.Ythncdmijledpnaa
open Go.RowKit Go.Maps Go.Lib

/-- What has been collected of a map when these have been seen. -/
def Col (f : Int → Option T) (E : Array MapEntry) (seen : Array Nat) (lo : List Bd) : Prop :=
  (lo.map Bd.v).Nodup ∧ (∀ y ∈ lo, f y.v = some y.t.erase ∧ y.t.erase ≠ varT y.v ∧ ∃ e ∈ E.toList, seen.contains e.born = true ∧ e.key = kI64 y.v) ∧
  ∀ e ∈ E.toList, seen.contains e.born = true → ∀ n t, e.key = kI64 n → f n = some t → t ≠ varT n → ∃ y ∈ lo, y.v = n

/-- What a list holds once, it holds in one place. -/
theorem one_of {α β : Type} (g : α → β) : ∀ {l : List α}, (l.map g).Nodup → ∀ {e e' : α}, e ∈ l → e' ∈ l → g e = g e' → e = e'
  | [], _, _, _, he, _, _ => nomatch he
  | x :: xs, hn, e, e', he, he', h => by
    rw [List.map_cons, List.nodup_cons] at hn
    rcases List.mem_cons.1 he with h1 | h1
    · rcases List.mem_cons.1 he' with h2 | h2
      · rw [h1, h2]
      · exact absurd (List.mem_map.2 ⟨e', h2, h.symm.trans (by rw [h1])⟩) hn.1
    · rcases List.mem_cons.1 he' with h2 | h2
      · exact absurd (List.mem_map.2 ⟨e, h1, h.trans (by rw [h2])⟩) hn.1
      · exact one_of g hn.2 h1 h2 h

section
variable {f : Int → Option T} {E : Array MapEntry} {seen : Array Nat} {lo : List Bd}
theorem seen_push (seen : Array Nat) (a x : Nat) : (seen.push a).contains x = true ↔ seen.contains x = true ∨ x = a := by
  rw [Array.contains_iff_mem, Array.mem_push, Array.contains_iff_mem]
theorem Col.start : Col f E #[] [] := ⟨List.nodup_nil, (fun y hy => nomatch hy), fun e _ h => by simp at h⟩
theorem Col.skip (h : Col f E seen lo) (hbn : (E.toList.map (·.born)).Nodup) {e : MapEntry} {n : Int} (he : e ∈ E.toList) (hkey : e.key = kI64 n) (hv : f n = some (varT n)) : Col f E (seen.push e.born) lo := by
  refine ⟨h.1, fun y hy => ?_, fun e' he' hs n' t' hk' hf' ht' => ?_⟩
  · obtain ⟨h1, h2, e', h3, h4, h5⟩ := h.2.1 y hy
    exact ⟨h1, h2, e', h3, (seen_push _ _ _).2 (.inl h4), h5⟩
  · rcases (seen_push _ _ _).1 hs with hs | hs
    · exact h.2.2 e' he' hs n' t' hk' hf' ht'
    · have := one_of (·.born) hbn he' he hs
      subst this
      have := kI64_inj (hk'.symm.trans hkey)
      subst this
      rw [hv] at hf'
      exact absurd (Option.some.inj hf').symm ht'
theorem Col.snoc (h : Col f E seen lo) (hbn : (E.toList.map (·.born)).Nodup) (hk : (E.toList.map (·.key)).Nodup) {e : MapEntry} {n : Int} {tm : Tm} (he : e ∈ E.toList) (hs : seen.contains e.born = false) (hkey : e.key = kI64 n) (hv : f n = some tm.erase) (hne : tm.erase ≠ varT n) : Col f E (seen.push e.born) (lo ++ [⟨n, tm⟩]) := by
  refine ⟨?_, fun y hy => ?_, fun e' he' hs' n' t' hk' hf' ht' => ?_⟩
  · rw [List.map_append, List.nodup_append]
    refine ⟨h.1, by simp, ?_⟩
    intro a ha d hd
    obtain ⟨y, hy, rfl⟩ := List.mem_map.1 ha
    simp only [List.map_cons, List.map_nil, List.mem_singleton] at hd
    subst hd
    intro hyn
    obtain ⟨_, _, e', h3, h4, h5⟩ := h.2.1 y hy
    have := one_of (·.key) hk h3 he (by rw [h5, hkey, hyn])
    subst this
    rw [hs] at h4
    cases h4
  · rcases List.mem_append.1 hy with hy | hy
    · obtain ⟨h1, h2, e', h3, h4, h5⟩ := h.2.1 y hy
      exact ⟨h1, h2, e', h3, (seen_push _ _ _).2 (.inl h4), h5⟩
    · rw [List.mem_singleton] at hy
      subst hy
      exact ⟨hv, hne, e, he, (seen_push _ _ _).2 (.inr rfl), hkey⟩
  · rcases (seen_push _ _ _).1 hs' with hs' | hs'
    · obtain ⟨y, hy, hyn⟩ := h.2.2 e' he' hs' n' t' hk' hf' ht'
      exact ⟨y, List.mem_append_left _ hy, hyn⟩
    · have := one_of (·.born) hbn he' he hs'
      subst this
      have := kI64_inj (hk'.symm.trans hkey)
      subst this
      exact ⟨⟨n', tm⟩, List.mem_append_right _ (List.mem_singleton.2 rfl), rfl⟩
/-- When all have been seen, all that is bound to something else has been collected. -/
theorem Col.all (h : Col f E seen lo) (hall : ∀ e ∈ E.toList, seen.contains e.born = true) (hin : ∀ n t, f n = some t → ∃ e ∈ E.toList, e.key = kI64 n) (n : Int) (t : T) : (∃ y ∈ lo, y.v = n ∧ y.t.erase = t) ↔ (f n = some t ∧ t ≠ varT n) := by
  constructor
  · rintro ⟨y, hy, rfl, rfl⟩
    exact ⟨(h.2.1 y hy).1, (h.2.1 y hy).2.1⟩
  · rintro ⟨h1, h2⟩
    obtain ⟨e, he, hk⟩ := hin n t h1
    obtain ⟨y, hy, hyn⟩ := h.2.2 e he (hall e he) n t hk h1 h2
    refine ⟨y, hy, hyn, ?_⟩
    have := (h.2.1 y hy).1
    rw [hyn, h1] at this
    exact (Option.some.inj this).symm
theorem Col.len (h : Col f E seen lo) (hr : ∀ n, f n ≠ none → 0 ≤ n ∧ n ≤ 1099511627776) : lo.length ≤ 1099511627777 := by
  have := nodup_le 1099511627777 (lo.map Bd.v) h.1 fun x hx => by
    obtain ⟨y, hy, rfl⟩ := List.mem_map.1 hx
    have := hr y.v (by rw [(h.2.1 y hy).1]; simp)
    exact ⟨this.1, by omega⟩
  simpa using this
end
end Go.Proofs.Ythncdmijledpnaa

namespace Go.Proofs.Ythncdmijledpnaa
open Go.RowKit Go.Maps Go.Lib
open Go.ChangeMaps (setBlock)

/-- The slice v of the call's own (blocks from B on) holds the binds l. -/
def BuiltBds (w : World) (B : Nat) (v : Value) (l : List Bd) : Prop := w.ownsRow B 115 5 v l.length (l.flatMap Bd.cells)

/-- append of one bind. -/
theorem wpList_append_bd {P : Program} {w : World} {ops : Array Oper} {rest : List Oper} {o : Oper} {a : Act} {Q : Exit → Act → World → Prop} (hgd : o.guard = none) (s y : Operand)
    (ho : o.op = .call { callee := .builtin .append, args := #[s, y], argTypes := #[44, 44] }) (hP : P = Try.prog)
    (B : Nat) (v : Value) (l : List Bd) (x : Bd) (b c : Nat) (hs : a.eval s = v) (hy : a.eval y = .slice (some ⟨b, 0, none⟩) 1 c) (h : BuiltBds w B v l) (hB : B ≤ w.heap.size) (hl : (l.length + 1) * 64 ≤ 140737488351232)
    (hX : BlkT w b 115 (bdCells x))
    (hK : ∀ v' w', BuiltBds w' B v' (l ++ [x]) → w.grownBy w' v.ownBlock → (v'.ownBlock = v.ownBlock ∨ v'.ownBlock = some w.heap.size) → wpList P ops Q rest (a.put o.dst v') w') : wpList P ops Q (o :: rest) a w := by
  subst hP
  refine wpList_append_one hgd s y 44 115 ho Try.underlying44 infoBd rfl (by decide) B v l.length (l.flatMap Bd.cells) b c x.cells hs hy h hB rfl ?_ ?_ (by simp only [maxLen]; omega) (by omega) ?_
  · intro j u hu
    match j, hu with
    | 0, hu => cases hu; exact hX.cell 0 rfl
    | 1, hu => cases hu; exact hX.cell 1 rfl
    | 2, hu => cases hu; exact hX.cell 2 rfl
    | 3, hu => cases hu; exact hX.cell 3 rfl
    | 4, hu => cases hu; exact hX.cell 4 rfl
    | j + 5, hu => simp [Bd.cells, Tm.cells] at hu
  · intro u hu
    simp only [Bd.cells, Tm.cells, List.mem_cons, List.mem_nil_iff, or_false] at hu
    rcases hu with rfl | rfl | rfl | rfl | rfl <;> rfl
  · intro v' w' h2 h3 h4
    refine hK v' w' ?_ h3 h4
    show w'.ownsRow B _ 5 v' _ _
    rw [List.length_append, List.flatMap_append]
    simpa using h2

theorem kp_step {w w1 : World} {r : Nat} {o o' : Obj} (hr : w.heap[r]? = some o) (h1 : w1 = w ∨ w1 = w.drew) : Kp (· = r) w (setBlock w1 r o') ∧ (setBlock w1 r o').heap[r]? = some o' := by
  have hr1 : w1.heap[r]? = some o := by rcases h1 with rfl | rfl <;> exact hr
  obtain ⟨hs, h2⟩ := MapKept.heap_set (o' := o') hr1
  refine ⟨?_, hs⟩
  rcases h1 with rfl | rfl
  · exact ⟨rfl, rfl, rfl, by simp [setBlock], fun k _ hk => h2 k hk⟩
  · exact ⟨rfl, rfl, rfl, by simp [setBlock], fun k _ hk => h2 k hk⟩
/-- What turns but one block of the call's own is growth. -/
theorem Kp.gr_at {w w1 w2 : World} {r : Nat} (h : Gr w w1) (hk : Kp (· = r) w1 w2) (hr : w.heap.size ≤ r) : Gr w w2 :=
  Below.trans h (⟨hk.os, hk.tape, hk.output, hk.size, fun k h1 => hk.block k (Nat.lt_of_lt_of_le h1 h.size) (by omega)⟩ : Below w.heap.size w1 w2)
theorem BuiltBds.kp {C : Nat → Prop} {w w' : World} {B : Nat} {v : Value} {l : List Bd} (h : BuiltBds w B v l) (hK : Kp C w w') (hC : ∀ b, B ≤ b → ¬ C b) : BuiltBds w' B v l := by
  refine ⟨h.1, h.2.imp id ?_⟩
  rintro ⟨g, cap, cur, rfl, h2, h3, h4⟩
  exact ⟨g, cap, cur, rfl, h2, by rw [hK.block g (Array.getElem?_eq_some_iff.1 h3).1 (hC g h2)]; exact h3, h4⟩
theorem BuiltBds.ge {w : World} {B : Nat} {v : Value} {l : List Bd} (h : BuiltBds w B v l) {b : Nat} (hb : v.ownBlock = some b) : B ≤ b := by
  rcases h.2 with ⟨rfl, _⟩ | ⟨g, cap, cur, rfl, h2, _⟩
  · cases hb
  · cases hb; exact h2
theorem var_iff {t : Tm} (hf : t.erase.formed = true) (n : Int) : t.erase = varT n ↔ t.k = 1 ∧ t.n = n := by
  cases t with
  | mk k m s p c l =>
    simp only [Tm.k, Tm.n]
    constructor
    · intro h
      rw [Tm.erase, varT] at h
      injection h with h1 h2
      exact ⟨h1, h2⟩
    · rintro ⟨rfl, rfl⟩
      rcases formed_cases2 hf with ⟨n, h, _⟩ | ⟨n, h⟩ | ⟨s', h, _⟩ | ⟨s', l', h, _⟩
      all_goals
        rw [Tm.erase] at h ⊢
        first
          | (injection h with h1 h2 h3 h4; rw [varT, h3, h4]; done)
          | (injection h with h1; exact absurd h1 (by decide))
theorem BuiltBds.gr {w w' : World} {B : Nat} {v : Value} {l : List Bd} (h : BuiltBds w B v l) (hg : Gr w w') : BuiltBds w' B v l := ownsRow_gr h hg
end Go.Proofs.Ythncdmijledpnaa
