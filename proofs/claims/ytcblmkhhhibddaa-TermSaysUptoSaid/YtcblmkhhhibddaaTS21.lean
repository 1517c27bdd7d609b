/-
  hornref.Formed
  How deep a term is: hornref.Depth, term.deep.
-/
import Derived.Test.YtcblmkhhhibddaaTS02
import Derived.Test.YtcblmkhhhibddaaTS10
import Derived.Test.YtcblmkhhhibddaaTS06
namespace Go.Proofs.Ytcblmkhhhibddaa
open Go.RowKit

theorem formedL_prefix {l : List Tm} (k : Nat) (h : T.formedL (Tm.eraseL (l.take k)) = false) : T.formedL (Tm.eraseL l) = false := by
  induction l generalizing k with
  | nil => simp at h; exact h
  | cons x xs ih =>
    cases k with
    | zero => simp [Tm.eraseL, T.formedL] at h
    | succ k =>
      simp only [List.take_succ_cons, Tm.eraseL, T.formedL, Bool.and_eq_false_iff] at h ⊢
      exact h.imp id (ih k)

set_option maxHeartbeats 1000000 in
set_option maxRecDepth 100000 in
theorem rformed_leaf (k n : Int) (s : ByteArray) (p : Option Addr) (c : Nat) (l : List Tm) (w : World) (h : (Tm.mk k n s p c l).In w) (hk4 : k ≠ 4) :
    Calls Try.prog 29 #[(Tm.mk k n s p c l).val] w (Ret (.bool (T.formed (Tm.mk k n s p c l).erase)) w) := by
  rw [Tm.In] at h
  obtain ⟨⟨hk5, hk6⟩, ⟨hn1, hn2⟩, hs, hl, hc, _, _⟩ := h
  simp only [Tm.val, Tm.k, Tm.n, Tm.s, Tm.p, Tm.c, Tm.l, Tm.erase, T.formed, Tm.eraseL_length, toList_length]
  generalize hr : (if k = 1 then _ else _ : Bool) = r
  have Hr := Lib.hid hr
  clear hr
  by_cases hk1 : k = 1
  · subst hk1
    go_enter Try.func29, Try.ntmps29
    go_wp2_with fail
    all_goals
      go_ret
      refine ret_bool ?_ (by go_grown)
      refine Eq.trans ?_ Hr.out
      clear Hr
      first | (simp [*]; done) | (simp_all; done) | (simp_all; omega)
  by_cases hk2 : k = 2
  · subst hk2
    go_enter Try.func29, Try.ntmps29
    go_wp2_with fail
    all_goals
      go_ret
      refine ret_bool ?_ (by go_grown)
      refine Eq.trans ?_ Hr.out
      clear Hr
      first | (simp [*, len_beq_zero]; done) | (simp_all [len_beq_zero]; done) | (simp_all [len_beq_zero]; omega)
  by_cases hk3 : k = 3
  · subst hk3
    go_enter Try.func29, Try.ntmps29
    go_wp2_with fail
    all_goals
      go_ret
      refine ret_bool ?_ (by go_grown)
      refine Eq.trans ?_ Hr.out
      clear Hr
      first | (simp [*, len_beq_zero]; done) | (simp_all [len_beq_zero]; done) | (simp_all [len_beq_zero]; omega)
  · have Hfin : Hid (r = false) := by
      refine Hr.out.symm.trans ?_
      simp [hk1, hk2, hk3, hk4]
    clear Hr
    have hk1' : (k == 1) = false := by simp [hk1]
    have hk2' : (k == 2) = false := by simp [hk2]
    have hk3' : (k == 3) = false := by simp [hk3]
    have hk4' : (k == 4) = false := by simp [hk4]
    clear hk1 hk2 hk3 hk4
    go_enter Try.func29, Try.ntmps29
    go_wp2_with fail
    all_goals
      go_rounds 1
      go_ret
      exact ret_bool Hfin.out.symm (by go_grown)

set_option maxHeartbeats 1000000 in
set_option maxRecDepth 100000 in
theorem rformed_bad (n : Int) (s : ByteArray) (p : Option Addr) (c : Nat) (l : List Tm) (w : World) (h : (Tm.mk 4 n s p c l).In w) (hg : ¬ (n = 0 ∧ s.size ≤ 100 ∧ 1 ≤ l.length ∧ l.length ≤ 50)) :
    Calls Try.prog 29 #[(Tm.mk 4 n s p c l).val] w (Ret (.bool false) w) := by
  rw [Tm.In] at h
  obtain ⟨_, ⟨hn1, hn2⟩, hs, hl, hc, _, _⟩ := h
  simp only [Tm.val, Tm.k, Tm.n, Tm.s, Tm.p, Tm.c, Tm.l]
  by_cases h1 : n = 0
  · subst h1
    by_cases h2 : s.size ≤ 100
    · have h2' : (s.size : Int) ≤ 100 := by omega
      by_cases h3 : 1 ≤ l.length
      · have h3' : (1 : Int) ≤ l.length := by omega
        have h4 : ¬ (l.length : Int) ≤ 50 := by omega
        clear hg
        go_enter Try.func29, Try.ntmps29
        go_wp2_with fail
        all_goals
          go_rounds 1
          go_ret
          exact ret_bool rfl (by go_grown)
      · have h3' : ¬ (1 : Int) ≤ l.length := by omega
        clear hg
        go_enter Try.func29, Try.ntmps29
        go_wp2_with fail
        all_goals
          go_rounds 1
          go_ret
          exact ret_bool rfl (by go_grown)
    · have h2' : ¬ (s.size : Int) ≤ 100 := by omega
      clear hg
      go_enter Try.func29, Try.ntmps29
      go_wp2_with fail
      all_goals
        go_rounds 1
        go_ret
        exact ret_bool rfl (by go_grown)
  · have h1' : (n == 0) = false := by simp [h1]
    clear hg
    go_enter Try.func29, Try.ntmps29
    go_wp2_with fail
    all_goals
      go_rounds 1
      go_ret
      exact ret_bool rfl (by go_grown)

set_option maxHeartbeats 1000000 in
set_option maxRecDepth 100000 in
theorem rformed_any (N : Nat) : ∀ (t : Tm) (w : World), SizeOf.sizeOf t ≤ N → t.In w →
    Calls Try.prog 29 #[t.val] w (Ret (.bool (T.formed t.erase)) w) := by
  induction N with
  | zero => intro t w h _; cases t; simp at h
  | succ N ih =>
    intro t w hN h
    obtain ⟨k, n, s, p, c, l⟩ := t
    by_cases hk4 : k = 4
    · subst hk4
      have hr : T.formed (Tm.mk 4 n s p c l).erase = (decide (n = 0) && decide (s.size ≤ 100) && decide (1 ≤ l.length) && decide (l.length ≤ 50) && T.formedL (Tm.eraseL l)) := by
        simp only [Tm.erase, T.formed, Tm.eraseL_length, toList_length]
        rfl
      by_cases hg : n = 0 ∧ s.size ≤ 100 ∧ 1 ≤ l.length ∧ l.length ≤ 50
      · obtain ⟨rfl, h2, h3, h4⟩ := hg
        rw [hr]
        have hr2 : (decide ((0 : Int) = 0) && decide (s.size ≤ 100) && decide (1 ≤ l.length) && decide (l.length ≤ 50) && T.formedL (Tm.eraseL l)) = T.formedL (Tm.eraseL l) := by
          simp [h2, h3, h4]
        rw [hr2]
        clear hr hr2
        have H := Lib.hid h.sl
        have hsz := fun x (hx : x ∈ l) => Tm.sizeOf_mem hx 4 0 s p c
        rw [Tm.In] at h
        obtain ⟨_, _, hs, hl, hc, _, _⟩ := h
        have Hsz := Lib.hid hsz
        have Hih := Lib.hid ih
        clear hsz ih
        simp only [Tm.val, Tm.k, Tm.n, Tm.s, Tm.p, Tm.c, Tm.l]
        generalize hr : T.formedL (Tm.eraseL l) = r
        have Hr := Lib.hid hr
        clear hr
        obtain ⟨b, o, rfl⟩ := H.out.ptr (by omega)
        have h2' : (s.size : Int) ≤ 100 := by omega
        have h3' : (1 : Int) ≤ l.length := by omega
        have h4' : (l.length : Int) ≤ 50 := by omega
        go_enter Try.func29, Try.ntmps29
        go_wp2_with fail
        all_goals
          go_loopw [5, 6] (fun v5 v6 wr => ∃ (k : Nat) (ok : Bool), k ≤ l.length ∧ v5 = .bool ok ∧ v6 = .int .i64 k ∧ Hid (T.formedL (Tm.eraseL (l.take k)) = ok) ∧ Gr w wr ∧
              w.heap.size + 1 ≤ wr.heap.size ∧ wr.cell? ⟨w.heap.size, 3, none⟩ = some (.slice (some ⟨b, o, none⟩) l.length c))
            (fun _ i _ => l.length - (intOf i).toNat)
          case atStart => exact ⟨0, true, Nat.zero_le _, rfl, rfl, rfl, by go_grown, by simp, by go_cell⟩
          case round =>
            obtain ⟨k, ok, hk, rfl, rfl, hpre, hb, hbs, b1⟩ := hrel
            cases ok
            · go_wp2_with fail
              go_ret
              refine ret_bool ?_ hb
              rw [← Hr.out, formedL_prefix k hpre.out]
            · by_cases hlt : k < l.length
              · have hS := H.out.mono hb
                obtain ⟨⟨c0, c1, c2, c3⟩, hx, _⟩ := hS.elem k hlt
                have Hx := Lib.hid hx
                have hmem : l[k] ∈ l := List.getElem_mem hlt
                have Hz := Hsz.out _ hmem
                clear hS hx
                generalize hxe : l[k] = x at *
                go_wp2_with fail
                refine (Hih.out x _ (by omega) (Tm.In_below (by go_grown) Hx.out)).mono ?_
                rintro e w1 ⟨rfl, hb1⟩
                have b1' := Gr.at hb1 b1
                have hs1 := hb1.size
                generalize hxf : x.erase.formed = bx
                have Hxf := Lib.hid hxf
                clear hxf b1
                have Htk : Hid (T.formedL (Tm.eraseL (l.take (k + 1))) = bx) := by
                  have h9 := formedL_take l k hlt
                  rw [hpre.out, hxe, Hxf.out] at h9
                  exact h9
                go_wp2_with fail
                go_roundw
                case rel => exact ⟨k + 1, bx, by omega, rfl, by go_num, Htk.out, below_step hb1 (by go_grown), by omega, b1'⟩
                case measure => simp [intOf]; omega
              · go_wp2_with fail
                go_ret
                refine ret_bool ?_ hb
                rw [← Hr.out, ← hpre.out, List.take_of_length_le (by omega)]
      · have : T.formed (Tm.mk 4 n s p c l).erase = false := by
          rw [hr, Bool.eq_false_iff]
          intro h9
          simp only [Bool.and_eq_true, decide_eq_true_eq] at h9
          exact hg ⟨h9.1.1.1.1, h9.1.1.1.2, h9.1.1.2, h9.1.2⟩
        rw [this]
        exact rformed_bad n s p c l w h hg
    · exact rformed_leaf k n s p c l w h hk4

/-- hornref.Formed, of whatever term. -/
theorem rformed_calls {t : Tm} {w : World} (h : t.In w) : Calls Try.prog 29 #[t.val] w (Ret (.bool (T.formed t.erase)) w) :=
  rformed_any _ t w (Nat.le_refl _) h

end Go.Proofs.Ytcblmkhhhibddaa

namespace Go.Proofs.Ytcblmkhhhibddaa
open Go.RowKit Go.Maps Go.Lib

mutual
def T.depth : T → Nat
  | .mk _ _ _ l => T.depthL l + 1
def T.depthL : List T → Nat
  | [] => 0
  | x :: xs => max (T.depth x) (T.depthL xs)
end
mutual
theorem depth_le : ∀ t : T, T.depth t ≤ T.sz t
  | .mk k n s l => by
    have := depthL_le l
    rw [T.depth, T.sz]
    omega
theorem depthL_le : ∀ l : List T, T.depthL l ≤ T.szL l
  | [] => by rw [T.depthL]; omega
  | x :: xs => by
    have h1 := depth_le x
    have h2 := depthL_le xs
    rw [T.depthL, T.szL]
    omega
end
theorem depthL_snoc : ∀ (l : List T) (x : T), T.depthL (l ++ [x]) = max (T.depthL l) (T.depth x)
  | [], x => by simp [T.depthL]
  | y :: ys, x => by
    rw [List.cons_append, T.depthL, T.depthL, depthL_snoc ys x]
    omega
theorem depthL_step (l : List Tm) (k : Nat) (h : k < l.length) : T.depthL (Tm.eraseL (l.take (k + 1))) = max (T.depthL (Tm.eraseL (l.take k))) (T.depth l[k].erase) := by
  rw [List.take_add_one, List.getElem?_eq_getElem h, Option.toList_some, eraseL_append, Tm.eraseL, Tm.eraseL, depthL_snoc]
theorem sz_mem : ∀ {l : List Tm} {x : Tm}, x ∈ l → T.sz x.erase ≤ T.szL (Tm.eraseL l)
  | y :: ys, x, h => by
    rw [Tm.eraseL, T.szL]
    rcases List.mem_cons.1 h with rfl | h
    · omega
    · have := sz_mem h; omega
theorem depthL_take (l : List Tm) (k : Nat) : T.depthL (Tm.eraseL (l.take k)) ≤ T.szL (Tm.eraseL l) := by
  induction k with
  | zero => rw [List.take_zero, Tm.eraseL, T.depthL]; omega
  | succ k ih =>
    by_cases h : k < l.length
    · rw [depthL_step l k h]
      have h1 := depth_le l[k].erase
      have h2 := sz_mem (List.getElem_mem h)
      omega
    · rw [List.take_of_length_le (by omega)]
      rw [List.take_of_length_le (by omega)] at ih
      exact ih

def depthOf (f : FuncId) (t : Tm) : Prop := ∀ w : World, t.In w → T.sz t.erase ≤ 1048576 → Calls Try.prog f #[t.val] w (Ret (.int .i64 (T.depth t.erase)) w)

set_option maxHeartbeats 1000000 in
set_option maxRecDepth 100000 in
theorem rdepth_step (k0 n : Int) (s : ByteArray) (p : Option Addr) (c : Nat) (l : List Tm) (ih : ∀ x ∈ l, depthOf 99 x) : depthOf 99 (.mk k0 n s p c l) := by
  intro w h hsz
  have H := Lib.hid h.sl
  have Hih := Lib.hid ih
  have hs0 : T.szL (Tm.eraseL l) + 1 ≤ 1048576 := by rw [Tm.erase, T.sz] at hsz; omega
  have Hs0 := Lib.hid hs0
  have hR : Hid (∀ m w', m = T.depthL (Tm.eraseL l) → Gr w w' → Ret (.int .i64 (T.depth (Tm.mk k0 n s p c l).erase)) w (.returned (.int .i64 ((m : Int) + 1))) w') := fun m w' h1 h2 => ⟨by rw [Tm.erase, T.depth, h1]; rfl, h2⟩
  generalize Ret (.int .i64 (T.depth (Tm.mk k0 n s p c l).erase)) w = Q at hR ⊢
  rw [Tm.In] at h
  obtain ⟨_, _, hs, hl, hc, _, _⟩ := h
  clear ih hsz hs0
  simp only [Tm.val, Tm.k, Tm.n, Tm.s, Tm.p, Tm.c, Tm.l]
  go_enter Try.func99, Try.ntmps99
  try simp only [List.append_eq, List.cons_append, List.nil_append]
  go_upto_region 1 with fail
  have hB := Blk4.new w (.int .i64 k0) (.int .i64 n) (.string s) (.slice p l.length c)
  have gA : Gr w (w.alloc (.cells #[.int .i64 k0, .int .i64 n, .string s, .slice p l.length c] 25)) := by go_grown
  generalize w.alloc (.cells #[.int .i64 k0, .int .i64 n, .string s, .slice p l.length c] 25) = wA at *
  have HB := Lib.hid hB
  clear hB
  go_wp2_with fail
  go_loopg [3, 4] l.length (fun m v3 v4 wr => ∃ k : Nat, k ≤ l.length ∧ m = l.length - k ∧ v3 = .int .i64 (T.depthL (Tm.eraseL (l.take k)) : Nat) ∧ v4 = .int .i64 k ∧ Gr wA wr)
  case atStart => exact ⟨0, Nat.zero_le _, rfl, by rw [List.take_zero, Tm.eraseL, T.depthL]; rfl, rfl, Gr.rfl' _⟩
  case round =>
    obtain ⟨k, hk, rfl, rfl, rfl, gr⟩ := hrel
    obtain ⟨⟨x0, x1, x2, x3⟩, _, _⟩ := (HB.out.gr gr).parts
    have hdk := Nat.le_trans (depthL_take l k) (by have := Hs0.out; omega : T.szL (Tm.eraseL l) ≤ 1048576)
    by_cases hlt : k < l.length
    · obtain ⟨b, o, rfl⟩ := H.out.ptr (by omega)
      obtain ⟨⟨c0, c1, c2, c3⟩, hx, _⟩ := (H.out.mono (gA.trans gr)).elem k hlt
      have Hc := Lib.hid (fun (w' : World) (g : Gr wr w') => Hih.out _ (List.getElem_mem hlt) w' (Tm.In_below g hx) (by have := sz_mem (List.getElem_mem hlt); have := Hs0.out; omega))
      have Hst := Lib.hid (depthL_step l k hlt)
      clear hx
      generalize l[k] = x at *
      rw [show x.val = .agg #[.int .i64 x.k, .int .i64 x.n, .string x.s, .slice x.p x.l.length x.c] from rfl] at Hc
      generalize T.depthL (Tm.eraseL (l.take k)) = d at *
      go_wp2_with fail
      refine (Hc.out _ (by go_grown)).mono ?_
      rintro e w1 ⟨rfl, g1⟩
      replace g1 : Gr wr w1 := g1
      generalize hd : T.depth x.erase = dx at *
      have Hd := Lib.hid hd
      clear x0 x1 x2 x3 c0 c1 c2 c3 hd
      go_wp2_with fail
      all_goals
        go_roundg (l.length - (k + 1))
        case measure => omega
        case rel => exact ⟨k + 1, by omega, rfl, by rw [Hst.out]; congr 1; omega, by go_num, gr.trans g1⟩
    · obtain rfl : k = l.length := by omega
      have Hb := Lib.hid (hR.out _ wr rfl (gA.trans gr))
      rw [List.take_length] at hdk ⊢
      generalize T.depthL (Tm.eraseL l) = d at *
      go_wp2_with fail
      exact Hb.out
theorem rdepth_any (N : Nat) : ∀ t : Tm, SizeOf.sizeOf t ≤ N → depthOf 99 t := by
  induction N with
  | zero => intro t h; cases t; simp at h
  | succ N ih =>
    intro t hN
    obtain ⟨k, n, s, p, c, l⟩ := t
    exact rdepth_step k n s p c l fun x hx => ih x (by have := Tm.sizeOf_mem hx k n s p c; omega)
theorem rdepth_calls {t : Tm} {w : World} (h : t.In w) (hs : T.sz t.erase ≤ 1048576) : Calls Try.prog 99 #[t.val] w (Ret (.int .i64 (T.depth t.erase)) w) := rdepth_any _ t (Nat.le_refl _) w h hs
set_option maxHeartbeats 1000000 in
set_option maxRecDepth 100000 in
theorem deep_step (k0 n : Int) (s : ByteArray) (p : Option Addr) (c : Nat) (l : List Tm) (ih : ∀ x ∈ l, depthOf 152 x) : depthOf 152 (.mk k0 n s p c l) := by
  intro w h hsz
  have H := Lib.hid h.sl
  have Hih := Lib.hid ih
  have hs0 : T.szL (Tm.eraseL l) + 1 ≤ 1048576 := by rw [Tm.erase, T.sz] at hsz; omega
  have Hs0 := Lib.hid hs0
  have hR : Hid (∀ m w', m = T.depthL (Tm.eraseL l) → Gr w w' → Ret (.int .i64 (T.depth (Tm.mk k0 n s p c l).erase)) w (.returned (.int .i64 ((m : Int) + 1))) w') := fun m w' h1 h2 => ⟨by rw [Tm.erase, T.depth, h1]; rfl, h2⟩
  generalize Ret (.int .i64 (T.depth (Tm.mk k0 n s p c l).erase)) w = Q at hR ⊢
  rw [Tm.In] at h
  obtain ⟨_, _, hs, hl, hc, _, _⟩ := h
  clear ih hsz hs0
  simp only [Tm.val, Tm.k, Tm.n, Tm.s, Tm.p, Tm.c, Tm.l]
  go_enter Try.func152, Try.ntmps152
  try simp only [List.append_eq, List.cons_append, List.nil_append]
  go_upto_region 1 with fail
  have hB := Blk4.new w (.int .i64 k0) (.int .i64 n) (.string s) (.slice p l.length c)
  have gA : Gr w (w.alloc (.cells #[.int .i64 k0, .int .i64 n, .string s, .slice p l.length c] 25)) := by go_grown
  generalize w.alloc (.cells #[.int .i64 k0, .int .i64 n, .string s, .slice p l.length c] 25) = wA at *
  have HB := Lib.hid hB
  clear hB
  obtain ⟨⟨x0, x1, x2, x3⟩, _, _⟩ := HB.out.parts
  go_wp2_with fail
  clear x0 x1 x2 x3
  go_loopg [3, 9] l.length (fun m v3 v4 wr => ∃ k : Nat, k ≤ l.length ∧ m = l.length - k ∧ v3 = .int .i64 (T.depthL (Tm.eraseL (l.take k)) : Nat) ∧ v4 = .int .i64 k ∧ Gr wA wr)
  case atStart => exact ⟨0, Nat.zero_le _, rfl, by rw [List.take_zero, Tm.eraseL, T.depthL]; rfl, rfl, Gr.rfl' _⟩
  case round =>
    obtain ⟨k, hk, rfl, rfl, rfl, gr⟩ := hrel
    have hdk := Nat.le_trans (depthL_take l k) (by have := Hs0.out; omega : T.szL (Tm.eraseL l) ≤ 1048576)
    by_cases hlt : k < l.length
    · obtain ⟨b, o, rfl⟩ := H.out.ptr (by omega)
      obtain ⟨⟨c0, c1, c2, c3⟩, hx, _⟩ := (H.out.mono (gA.trans gr)).elem k hlt
      have Hc := Lib.hid (fun (w' : World) (g : Gr wr w') => Hih.out _ (List.getElem_mem hlt) w' (Tm.In_below g hx) (by have := sz_mem (List.getElem_mem hlt); have := Hs0.out; omega))
      have Hst := Lib.hid (depthL_step l k hlt)
      clear hx
      generalize l[k] = x at *
      rw [show x.val = .agg #[.int .i64 x.k, .int .i64 x.n, .string x.s, .slice x.p x.l.length x.c] from rfl] at Hc
      generalize T.depthL (Tm.eraseL (l.take k)) = d at *
      go_upto_region 5 with fail
      have hN := Blk4.new wr (.int .i64 x.k) (.int .i64 x.n) (.string x.s) (.slice x.p x.l.length x.c)
      have gN : Gr wr (wr.alloc (.cells #[.int .i64 x.k, .int .i64 x.n, .string x.s, .slice x.p x.l.length x.c] 25)) := by go_grown
      generalize wr.alloc (.cells #[.int .i64 x.k, .int .i64 x.n, .string x.s, .slice x.p x.l.length x.c] 25) = wN at *
      obtain ⟨⟨x0, x1, x2, x3⟩, _, _⟩ := hN.parts
      go_wp2_with fail
      refine (Hc.out _ gN).mono ?_
      rintro e w1 ⟨rfl, g1⟩
      replace g1 : Gr wr w1 := gN.trans g1
      generalize hd : T.depth x.erase = dx at *
      have Hd := Lib.hid hd
      clear x0 x1 x2 x3 c0 c1 c2 c3 hd
      go_wp2_with fail
      all_goals
        go_roundg (l.length - (k + 1))
        case measure => omega
        case rel => exact ⟨k + 1, by omega, rfl, by rw [Hst.out]; congr 1; omega, by go_num, gr.trans g1⟩
    · obtain rfl : k = l.length := by omega
      have Hb := Lib.hid (hR.out _ wr rfl (gA.trans gr))
      rw [List.take_length] at hdk ⊢
      generalize T.depthL (Tm.eraseL l) = d at *
      go_wp2_with fail
      exact Hb.out
theorem deep_any (N : Nat) : ∀ t : Tm, SizeOf.sizeOf t ≤ N → depthOf 152 t := by
  induction N with
  | zero => intro t h; cases t; simp at h
  | succ N ih =>
    intro t hN
    obtain ⟨k, n, s, p, c, l⟩ := t
    exact deep_step k n s p c l fun x hx => ih x (by have := Tm.sizeOf_mem hx k n s p c; omega)
theorem deep_calls {t : Tm} {w : World} (h : t.In w) (hs : T.sz t.erase ≤ 1048576) : Calls Try.prog 152 #[t.val] w (Ret (.int .i64 (T.depth t.erase)) w) := deep_any _ t (Nat.le_refl _) w h hs
end Go.Proofs.Ytcblmkhhhibddaa
