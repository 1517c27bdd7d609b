/-
  Is an instruction of a code not right? machine.Check$1, and the library's search with it.
-/
import Derived.Test.YtgaijgadeodoeaaDoorU7
namespace Go.Proofs.YtgaijgadeodoeaaDoor
open Go.RowKit

theorem ins_cells {w : World} {b o c : Nat} {l : List Ins} (h : InsSl w (some ⟨b, o, none⟩) c l) {k : Nat} {x : Ins} (hx : l[k]? = some x) :
    w.cell? ⟨b, o + k * 6, none⟩ = some (.int .i64 x.op) ∧ w.cell? ⟨b, o + k * 6 + 1, none⟩ = some (.int .i64 x.a) ∧ w.cell? ⟨b, o + k * 6 + 2, none⟩ = some (.int .i64 x.b) ∧
    w.cell? ⟨b, o + k * 6 + 3, none⟩ = some (.int .i64 x.c.k) ∧ w.cell? ⟨b, o + k * 6 + 4, none⟩ = some (.string x.c.s) ∧ w.cell? ⟨b, o + k * 6 + 5, none⟩ = some (.int .i64 x.c.n) := by
  obtain ⟨b', o', hp, _, hr⟩ := h.ptr (by have := (List.getElem?_eq_some_iff.1 hx).1; omega)
  injection hp with hp
  injection hp with h1 h2 _
  subst h1 h2
  exact ⟨hr k x hx 0 _ rfl, hr k x hx 1 _ rfl, hr k x hx 2 _ rfl, hr k x hx 3 _ rfl, hr k x hx 4 _ rfl, hr k x hx 5 _ rfl⟩

theorem ent_cells {w : World} {b o c : Nat} {l : List Ent} (h : EntSl w (some ⟨b, o, none⟩) c l) {k : Nat} {x : Ent} (hx : l[k]? = some x) :
    w.cell? ⟨b, o + k * 3, none⟩ = some (.string x.s) ∧ w.cell? ⟨b, o + k * 3 + 1, none⟩ = some (.int .i64 x.n) ∧ w.cell? ⟨b, o + k * 3 + 2, none⟩ = some (.int .i64 x.at_) := by
  obtain ⟨b', o', hp, _, hr⟩ := h.ptr (by have := (List.getElem?_eq_some_iff.1 hx).1; omega)
  injection hp with hp
  injection hp with h1 h2 _
  subst h1 h2
  exact ⟨hr k x hx 0 _ rfl, hr k x hx 1 _ rfl, hr k x hx 2 _ rfl⟩

set_option maxHeartbeats 1000000 in
set_option maxRecDepth 100000 in
theorem wrongIns_calls (x : Ins) (size : Int) (B : Nat) (w : World) (hs : w.cell? ⟨B, 0, none⟩ = some (.int .i64 size)) :
    Calls Tryd.prog 28 #[x.val, .pointer (some ⟨B, 0, none⟩)] w (Ret (.bool (!insOk x size)) w) := by
  have hR : Hid (∀ b, (!insOk x size) = b → ∀ w', Gr w w' → Ret (.bool (!insOk x size)) w (.returned (.bool b)) w') := fun b hb w' hg => ⟨by rw [hb], hg⟩
  generalize hQ : Ret (.bool (!insOk x size)) w = Q at hR ⊢
  clear hQ
  have hc := Lib.hid (iformed_calls x size)
  have hv : x.val = .agg #[.int .i64 x.op, .int .i64 x.a, .int .i64 x.b, .int .i64 x.c.k, .string x.c.s, .int .i64 x.c.n] := rfl
  have HV := Lib.hid hv
  rewrite [hv]
  clear hv
  go_enter Tryd.func28, Tryd.ntmps28
  try simp only [List.append_eq, List.cons_append, List.nil_append]
  go_upto_region 1 with fail
  obtain ⟨c0, c1, c2, c3, c4, c5⟩ := cells6 w (.int .i64 x.op) (.int .i64 x.a) (.int .i64 x.b) (.int .i64 x.c.k) (.string x.c.s) (.int .i64 x.c.n) 63
  have gA : Gr w (w.alloc (.cells #[.int .i64 x.op, .int .i64 x.a, .int .i64 x.b, .int .i64 x.c.k, .string x.c.s, .int .i64 x.c.n] 63)) := by go_grown
  generalize w.alloc (.cells #[.int .i64 x.op, .int .i64 x.a, .int .i64 x.b, .int .i64 x.c.k, .string x.c.s, .int .i64 x.c.n] 63) = wA at *
  replace hs := Gr.at gA hs
  go_wp2_with (first | (go_at_call 29; rewrite [← HV.out]; refine (hc.out _).mono ?_; rintro e w' ⟨rfl, hb⟩) | fail)
  exact hR.out _ rfl _ (gA.trans hb)

/-- The first k are right. -/
def fineTo (l : List Ins) (size : Int) (k : Nat) : Prop := (l.take k).all (insOk · size) = true
theorem fineTo_zero (l : List Ins) (size : Int) : fineTo l size 0 := rfl
theorem fineTo_succ {l : List Ins} {size : Int} {k : Nat} {x : Ins} (h : fineTo l size k) (hx : l[k]? = some x) (hb : insOk x size = true) : fineTo l size (k + 1) := by
  obtain ⟨hk, rfl⟩ := List.getElem?_eq_some_iff.1 hx
  rw [fineTo, List.take_succ_eq_append_getElem hk, List.all_append, h]
  simp [hb]
theorem fineTo_all {l : List Ins} {size : Int} (h : fineTo l size l.length) : l.all (insOk · size) = true := by rw [fineTo, List.take_length] at h; exact h
theorem wrong_all {l : List Ins} {size : Int} {k : Nat} {x : Ins} (hx : l[k]? = some x) (hb : insOk x size = false) : l.all (insOk · size) = false := by
  rw [List.all_eq_false]
  exact ⟨x, List.mem_of_getElem? hx, by rw [hb]; decide⟩

set_option maxHeartbeats 1000000 in
set_option maxRecDepth 100000 in
theorem indexIns_calls (p : Option Addr) (c : Nat) (l : List Ins) (size : Int) (B : Nat) (w : World) (hx : InsSl w p c l) (hs : w.cell? ⟨B, 0, none⟩ = some (.int .i64 size)) :
    Calls Tryd.prog 47 #[.slice p l.length c, .func (Fn.func 28) #[] #[.pointer (some ⟨B, 0, none⟩)]] w
      fun e w' => (∃ r : Int, e = .returned (.int .i64 r) ∧ decide (0 ≤ r) = !l.all (insOk · size)) ∧ Gr w w' := by
  generalize hQ : (fun (e : Ending) (w' : World) => (∃ r : Int, e = .returned (.int .i64 r) ∧ decide (0 ≤ r) = !l.all (insOk · size)) ∧ Gr w w') = Q
  have hR : Hid (∀ r : Int, decide (0 ≤ r) = (!l.all (insOk · size)) → ∀ w', Gr w w' → Q (.returned (.int .i64 r)) w') := fun r hr w' hg => by rw [← hQ]; exact ⟨⟨r, rfl, hr⟩, hg⟩
  clear hQ
  have hen : ∀ args w, (callFunc 28 args).run Tryd.prog w = .ok (.enter 28 args) w := fun args w => by kernel_rfl
  have HX := Lib.hid hx
  have HS := Lib.hid hs
  have hl64 : l.length ≤ 140737488351232 := by have := hx.2.1.1; omega
  clear hx hs
  go_enter Tryd.func47, Tryd.ntmps47
  try simp only [List.append_eq, List.cons_append, List.nil_append]
  go_wp2_with fail
  go_loopg [8] l.length (fun m i wr => ∃ k : Nat, k ≤ l.length ∧ m = l.length - k ∧ i = .int .i64 k ∧ Hid (fineTo l size k) ∧ Gr w wr)
  case atStart => exact ⟨0, Nat.zero_le _, rfl, rfl, fineTo_zero _ _, Gr.rfl' _⟩
  case round =>
    obtain ⟨k, hk, rfl, rfl, hfine, gr⟩ := hrel
    by_cases hlt : k < l.length
    · obtain ⟨b, o, rfl, _, _⟩ := HX.out.ptr (by omega)
      have hy0 : l[k]? = some l[k] := List.getElem?_eq_getElem hlt
      obtain ⟨c0, c1, c2, c3, c4, c5⟩ := ins_cells (HX.out.mono gr) hy0
      generalize l[k] = y at *
      have HY := Lib.hid hy0
      have HS2 := Lib.hid (Gr.at gr HS.out)
      have hv := Lib.hid (show y.val = .agg #[.int .i64 y.op, .int .i64 y.a, .int .i64 y.b, .int .i64 y.c.k, .string y.c.s, .int .i64 y.c.n] from rfl)
      have hcw := Lib.hid (wrongIns_calls y size B wr HS2.out)
      clear hy0
      cases hb : insOk y size with
      | true =>
        have hb' := Lib.hid hb
        have hf2 : Hid (fineTo l size (k + 1)) := fineTo_succ hfine.out HY.out hb
        clear hb
        go_wp2_with (first | (go_at_call 28; rewrite [← hv.out]; refine hcw.out.mono ?_; rintro e w' ⟨rfl, hg⟩; rewrite [hb'.out]) | fail)
        go_roundg (l.length - (k + 1))
        case measure => omega
        case rel => exact ⟨k + 1, by omega, rfl, by go_num, hf2, gr.trans hg⟩
      | false =>
        have hb' := Lib.hid hb
        have hf2 : Hid (decide (0 ≤ (k : Int)) = !l.all (insOk · size)) := by show _ = _; rw [wrong_all HY.out hb]; simp
        clear hb
        go_wp2_with (first | (go_at_call 28; rewrite [← hv.out]; refine hcw.out.mono ?_; rintro e w' ⟨rfl, hg⟩; rewrite [hb'.out]) | fail)
        exact hR.out _ hf2.out _ (gr.trans hg)
    · obtain rfl : k = l.length := by omega
      have hf2 : Hid (decide (0 ≤ (-1 : Int)) = !l.all (insOk · size)) := by show _ = _; rw [fineTo_all hfine.out]; rfl
      go_wp2_with fail
      exact hR.out _ hf2.out _ gr

set_option maxHeartbeats 1000000 in
set_option maxRecDepth 100000 in
theorem containsIns_calls (p : Option Addr) (c : Nat) (l : List Ins) (size : Int) (B : Nat) (w : World) (hx : InsSl w p c l) (hs : w.cell? ⟨B, 0, none⟩ = some (.int .i64 size)) :
    Calls Tryd.prog 27 #[.slice p l.length c, .func (Fn.func 28) #[] #[.pointer (some ⟨B, 0, none⟩)]] w (Ret (.bool (!l.all (insOk · size))) w) := by
  have hR : Hid (∀ b, b = (!l.all (insOk · size)) → ∀ w', Gr w w' → Ret (.bool (!l.all (insOk · size))) w (.returned (.bool b)) w') := fun b hb w' hg => ⟨by rw [hb], hg⟩
  generalize hQ : Ret (.bool (!l.all (insOk · size))) w = Q at hR ⊢
  clear hQ
  have HI := Lib.hid (indexIns_calls p c l size B w hx hs)
  clear hx hs
  generalize l.all (insOk · size) = v at *
  go_enter Tryd.func27, Tryd.ntmps27
  try simp only [List.append_eq, List.cons_append, List.nil_append]
  go_wp2_with (first | (go_at_call 47; refine HI.out.mono ?_; rintro e w' ⟨⟨r, rfl, hr⟩, hg⟩; have Hr := Lib.hid hr; clear hr) | fail)
  exact hR.out _ Hr.out _ hg
end Go.Proofs.YtgaijgadeodoeaaDoor
