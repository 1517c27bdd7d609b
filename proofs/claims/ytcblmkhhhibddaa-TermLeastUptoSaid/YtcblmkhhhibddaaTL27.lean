/-
  hornref.Formed
  hornkeep.TermLeast: the walk, given what term.General answers.
  term.General, given what term.general answers.
-/
import Derived.Test.YtcblmkhhhibddaaTL01
import Derived.Test.YtcblmkhhhibddaaTL26
import Derived.Test.YtcblmkhhhibddaaTL24
namespace Go.Proofs.Ytcblmkhhhibddaa
open Go.RowKit

theorem formedL_prefix {l : List Tm} (k : Nat) (h : T.formedL (Tm.eraseL (l.take k)) = false) : T.formedL (Tm.eraseL l) = false := by
  induction l generalizing k with
  | nil => simp at h; exact h
  | cons x xs ih =>
    cases k with
    | zero => simp [Tm.eraseL, T.formedL] at h
    | succ k =>
      simp only [List.take_succ_cons, Tm.eraseL, T.formedL, Bool.and_eq_false_iff] at h ⊢
      exact h.imp id (ih k)

set_option maxHeartbeats 1000000 in
set_option maxRecDepth 100000 in
theorem rformed_leaf (k n : Int) (s : ByteArray) (p : Option Addr) (c : Nat) (l : List Tm) (w : World) (h : (Tm.mk k n s p c l).In w) (hk4 : k ≠ 4) :
    Calls Try.prog 29 #[(Tm.mk k n s p c l).val] w (Ret (.bool (T.formed (Tm.mk k n s p c l).erase)) w) := by
  rw [Tm.In] at h
  obtain ⟨⟨hk5, hk6⟩, ⟨hn1, hn2⟩, hs, hl, hc, _, _⟩ := h
  simp only [Tm.val, Tm.k, Tm.n, Tm.s, Tm.p, Tm.c, Tm.l, Tm.erase, T.formed, Tm.eraseL_length, toList_length]
  generalize hr : (if k = 1 then _ else _ : Bool) = r
  have Hr := Lib.hid hr
  clear hr
  by_cases hk1 : k = 1
  · subst hk1
    go_enter Try.func29, Try.ntmps29
    go_wp2_with fail
    all_goals
      go_ret
      refine ret_bool ?_ (by go_grown)
      refine Eq.trans ?_ Hr.out
      clear Hr
      first | (simp [*]; done) | (simp_all; done) | (simp_all; omega)
  by_cases hk2 : k = 2
  · subst hk2
    go_enter Try.func29, Try.ntmps29
    go_wp2_with fail
    all_goals
      go_ret
      refine ret_bool ?_ (by go_grown)
      refine Eq.trans ?_ Hr.out
      clear Hr
      first | (simp [*, len_beq_zero]; done) | (simp_all [len_beq_zero]; done) | (simp_all [len_beq_zero]; omega)
  by_cases hk3 : k = 3
  · subst hk3
    go_enter Try.func29, Try.ntmps29
    go_wp2_with fail
    all_goals
      go_ret
      refine ret_bool ?_ (by go_grown)
      refine Eq.trans ?_ Hr.out
      clear Hr
      first | (simp [*, len_beq_zero]; done) | (simp_all [len_beq_zero]; done) | (simp_all [len_beq_zero]; omega)
  · have Hfin : Hid (r = false) := by
      refine Hr.out.symm.trans ?_
      simp [hk1, hk2, hk3, hk4]
    clear Hr
    have hk1' : (k == 1) = false := by simp [hk1]
    have hk2' : (k == 2) = false := by simp [hk2]
    have hk3' : (k == 3) = false := by simp [hk3]
    have hk4' : (k == 4) = false := by simp [hk4]
    clear hk1 hk2 hk3 hk4
    go_enter Try.func29, Try.ntmps29
    go_wp2_with fail
    all_goals
      go_rounds 1
      go_ret
      exact ret_bool Hfin.out.symm (by go_grown)

set_option maxHeartbeats 1000000 in
set_option maxRecDepth 100000 in
theorem rformed_bad (n : Int) (s : ByteArray) (p : Option Addr) (c : Nat) (l : List Tm) (w : World) (h : (Tm.mk 4 n s p c l).In w) (hg : ¬ (n = 0 ∧ s.size ≤ 100 ∧ 1 ≤ l.length ∧ l.length ≤ 50)) :
    Calls Try.prog 29 #[(Tm.mk 4 n s p c l).val] w (Ret (.bool false) w) := by
  rw [Tm.In] at h
  obtain ⟨_, ⟨hn1, hn2⟩, hs, hl, hc, _, _⟩ := h
  simp only [Tm.val, Tm.k, Tm.n, Tm.s, Tm.p, Tm.c, Tm.l]
  by_cases h1 : n = 0
  · subst h1
    by_cases h2 : s.size ≤ 100
    · have h2' : (s.size : Int) ≤ 100 := by omega
      by_cases h3 : 1 ≤ l.length
      · have h3' : (1 : Int) ≤ l.length := by omega
        have h4 : ¬ (l.length : Int) ≤ 50 := by omega
        clear hg
        go_enter Try.func29, Try.ntmps29
        go_wp2_with fail
        all_goals
          go_rounds 1
          go_ret
          exact ret_bool rfl (by go_grown)
      · have h3' : ¬ (1 : Int) ≤ l.length := by omega
        clear hg
        go_enter Try.func29, Try.ntmps29
        go_wp2_with fail
        all_goals
          go_rounds 1
          go_ret
          exact ret_bool rfl (by go_grown)
    · have h2' : ¬ (s.size : Int) ≤ 100 := by omega
      clear hg
      go_enter Try.func29, Try.ntmps29
      go_wp2_with fail
      all_goals
        go_rounds 1
        go_ret
        exact ret_bool rfl (by go_grown)
  · have h1' : (n == 0) = false := by simp [h1]
    clear hg
    go_enter Try.func29, Try.ntmps29
    go_wp2_with fail
    all_goals
      go_rounds 1
      go_ret
      exact ret_bool rfl (by go_grown)

set_option maxHeartbeats 1000000 in
set_option maxRecDepth 100000 in
theorem rformed_any (N : Nat) : ∀ (t : Tm) (w : World), SizeOf.sizeOf t ≤ N → t.In w →
    Calls Try.prog 29 #[t.val] w (Ret (.bool (T.formed t.erase)) w) := by
  induction N with
  | zero => intro t w h _; cases t; simp at h
  | succ N ih =>
    intro t w hN h
    obtain ⟨k, n, s, p, c, l⟩ := t
    by_cases hk4 : k = 4
    · subst hk4
      have hr : T.formed (Tm.mk 4 n s p c l).erase = (decide (n = 0) && decide (s.size ≤ 100) && decide (1 ≤ l.length) && decide (l.length ≤ 50) && T.formedL (Tm.eraseL l)) := by
        simp only [Tm.erase, T.formed, Tm.eraseL_length, toList_length]
        rfl
      by_cases hg : n = 0 ∧ s.size ≤ 100 ∧ 1 ≤ l.length ∧ l.length ≤ 50
      · obtain ⟨rfl, h2, h3, h4⟩ := hg
        rw [hr]
        have hr2 : (decide ((0 : Int) = 0) && decide (s.size ≤ 100) && decide (1 ≤ l.length) && decide (l.length ≤ 50) && T.formedL (Tm.eraseL l)) = T.formedL (Tm.eraseL l) := by
          simp [h2, h3, h4]
        rw [hr2]
        clear hr hr2
        have H := Lib.hid h.sl
        have hsz := fun x (hx : x ∈ l) => Tm.sizeOf_mem hx 4 0 s p c
        rw [Tm.In] at h
        obtain ⟨_, _, hs, hl, hc, _, _⟩ := h
        have Hsz := Lib.hid hsz
        have Hih := Lib.hid ih
        clear hsz ih
        simp only [Tm.val, Tm.k, Tm.n, Tm.s, Tm.p, Tm.c, Tm.l]
        generalize hr : T.formedL (Tm.eraseL l) = r
        have Hr := Lib.hid hr
        clear hr
        obtain ⟨b, o, rfl⟩ := H.out.ptr (by omega)
        have h2' : (s.size : Int) ≤ 100 := by omega
        have h3' : (1 : Int) ≤ l.length := by omega
        have h4' : (l.length : Int) ≤ 50 := by omega
        go_enter Try.func29, Try.ntmps29
        go_wp2_with fail
        all_goals
          go_loopw [5, 6] (fun v5 v6 wr => ∃ (k : Nat) (ok : Bool), k ≤ l.length ∧ v5 = .bool ok ∧ v6 = .int .i64 k ∧ Hid (T.formedL (Tm.eraseL (l.take k)) = ok) ∧ Gr w wr ∧
              w.heap.size + 1 ≤ wr.heap.size ∧ wr.cell? ⟨w.heap.size, 3, none⟩ = some (.slice (some ⟨b, o, none⟩) l.length c))
            (fun _ i _ => l.length - (intOf i).toNat)
          case atStart => exact ⟨0, true, Nat.zero_le _, rfl, rfl, rfl, by go_grown, by simp, by go_cell⟩
          case round =>
            obtain ⟨k, ok, hk, rfl, rfl, hpre, hb, hbs, b1⟩ := hrel
            cases ok
            · go_wp2_with fail
              go_ret
              refine ret_bool ?_ hb
              rw [← Hr.out, formedL_prefix k hpre.out]
            · by_cases hlt : k < l.length
              · have hS := H.out.mono hb
                obtain ⟨⟨c0, c1, c2, c3⟩, hx, _⟩ := hS.elem k hlt
                have Hx := Lib.hid hx
                have hmem : l[k] ∈ l := List.getElem_mem hlt
                have Hz := Hsz.out _ hmem
                clear hS hx
                generalize hxe : l[k] = x at *
                go_wp2_with fail
                refine (Hih.out x _ (by omega) (Tm.In_below (by go_grown) Hx.out)).mono ?_
                rintro e w1 ⟨rfl, hb1⟩
                have b1' := Gr.at hb1 b1
                have hs1 := hb1.size
                generalize hxf : x.erase.formed = bx
                have Hxf := Lib.hid hxf
                clear hxf b1
                have Htk : Hid (T.formedL (Tm.eraseL (l.take (k + 1))) = bx) := by
                  have h9 := formedL_take l k hlt
                  rw [hpre.out, hxe, Hxf.out] at h9
                  exact h9
                go_wp2_with fail
                go_roundw
                case rel => exact ⟨k + 1, bx, by omega, rfl, by go_num, Htk.out, below_step hb1 (by go_grown), by omega, b1'⟩
                case measure => simp [intOf]; omega
              · go_wp2_with fail
                go_ret
                refine ret_bool ?_ hb
                rw [← Hr.out, ← hpre.out, List.take_of_length_le (by omega)]
      · have : T.formed (Tm.mk 4 n s p c l).erase = false := by
          rw [hr, Bool.eq_false_iff]
          intro h9
          simp only [Bool.and_eq_true, decide_eq_true_eq] at h9
          exact hg ⟨h9.1.1.1.1, h9.1.1.1.2, h9.1.1.2, h9.1.2⟩
        rw [this]
        exact rformed_bad n s p c l w h hg
    · exact rformed_leaf k n s p c l w h hk4

/-- hornref.Formed, of whatever term. -/
theorem rformed_calls {t : Tm} {w : World} (h : t.In w) : Calls Try.prog 29 #[t.val] w (Ret (.bool (T.formed t.erase)) w) :=
  rformed_any _ t w (Nat.le_refl _) h

end Go.Proofs.Ytcblmkhhhibddaa

namespace Go.Proofs.Ytcblmkhhhibddaa
open Go.RowKit Go.Maps Go.Lib

theorem RetMatch.says {B : Nat} {p t : T} {w w' : World} {e : Ending} (hp : p.formed = true) (ht : t.formed = true) (h : RetMatch B p t w e w') :
    ∃ (v : Value) (b : Bool) (x : Int), e = .returned (.tuple #[v, .bool b, .int .i64 x]) ∧ (b = true ↔ T.matches p t) ∧ Gr w w' := by
  obtain ⟨pp, c, l, b, rfl, -, -, g, hc⟩ := h
  refine ⟨_, b, _, rfl, ?_, g⟩
  rw [← mat_iff hp ht]
  rcases hc with ⟨rfl, -, hn⟩ | ⟨rfl, -, f, hf, -⟩
  · rw [hn (by rw [hp, ht]; rfl)]
    exact ⟨(fun h => nomatch h), (fun h => nomatch h)⟩
  · rw [hf]
    exact ⟨fun _ => rfl, fun _ => rfl⟩

theorem three_blocks (w : World) (v0 : Value) (v1 : Value) (v2 : Value) (v3 : Value) (u0 : Value) (u1 : Value) (u2 : Value) (u3 : Value) (z0 : Value) (z1 : Value) (z2 : Value) (z3 : Value) : Hid (Blk4 (((w.alloc (.cells #[v0, v1, v2, v3] 25)).alloc (.cells #[u0, u1, u2, u3] 25)).alloc (.cells #[z0, z1, z2, z3] 25)) w.heap.size v0 v1 v2 v3) ∧ Hid (Blk4 (((w.alloc (.cells #[v0, v1, v2, v3] 25)).alloc (.cells #[u0, u1, u2, u3] 25)).alloc (.cells #[z0, z1, z2, z3] 25)) (w.heap.size + 1) u0 u1 u2 u3) ∧ Hid (Blk4 (((w.alloc (.cells #[v0, v1, v2, v3] 25)).alloc (.cells #[u0, u1, u2, u3] 25)).alloc (.cells #[z0, z1, z2, z3] 25)) (w.heap.size + 2) z0 z1 z2 z3) ∧ Gr w (((w.alloc (.cells #[v0, v1, v2, v3] 25)).alloc (.cells #[u0, u1, u2, u3] 25)).alloc (.cells #[z0, z1, z2, z3] 25)) := by
  obtain ⟨h1, h2, g⟩ := two_blocks w v0 v1 v2 v3 u0 u1 u2 u3
  refine ⟨h1.out.old _, h2.out.old _, ?_, g.trans (by go_grown)⟩
  have h3 := Blk4.new ((w.alloc (.cells #[v0, v1, v2, v3] 25)).alloc (.cells #[u0, u1, u2, u3] 25)) z0 z1 z2 z3
  rw [show ((w.alloc (.cells #[v0, v1, v2, v3] 25)).alloc (.cells #[u0, u1, u2, u3] 25)).heap.size = w.heap.size + 2 by simp] at h3
  exact h3
/-- General's answer, of terms that are formed. -/
def RetGeneral (a b : T) (w : World) (e : Ending) (w' : World) : Prop := ∃ g : Tm, e = .returned (.tuple #[g.val, .int .i64 0]) ∧ g.In w' ∧ g.erase = T.lgg a b ∧ Gr w w'
def GeneralSays : Prop := ∀ (a b : Tm) (w : World), a.In w → b.In w → a.erase.formed = true → b.erase.formed = true → T.sz a.erase ≤ 1048576 → T.sz b.erase ≤ 1048576 → Calls Try.prog 30 #[a.val, b.val] w (RetGeneral a.erase b.erase w)

set_option maxHeartbeats 4000000 in
set_option maxRecDepth 100000 in
theorem termLeast_walk (hgen : GeneralSays) (p t c : Tm) (w : World) (ip : p.In w) (it : t.In w) (ic : c.In w) (sp : T.sz p.erase ≤ 1048576) (st : T.sz t.erase ≤ 1048576) : Calls Try.prog 4 #[p.val, t.val, c.val] w (Ret (.bool true) w) := by
  have Ip := Lib.hid ip
  have It := Lib.hid it
  have Ic := Lib.hid ic
  have Hs := Lib.hid (And.intro sp st)
  have Hfp := Lib.hid (fun (W : World) (g : Gr w W) => show Calls Try.prog 29 #[.agg #[.int .i64 p.k, .int .i64 p.n, .string p.s, .slice p.p p.l.length p.c]] W (Ret (.bool p.erase.formed) W) from rformed_calls (t := p) (Tm.In_below g Ip.out))
  have Hft := Lib.hid (fun (W : World) (g : Gr w W) => show Calls Try.prog 29 #[.agg #[.int .i64 t.k, .int .i64 t.n, .string t.s, .slice t.p t.l.length t.c]] W (Ret (.bool t.erase.formed) W) from rformed_calls (t := t) (Tm.In_below g It.out))
  have Hfc := Lib.hid (fun (W : World) (g : Gr w W) => show Calls Try.prog 29 #[.agg #[.int .i64 c.k, .int .i64 c.n, .string c.s, .slice c.p c.l.length c.c]] W (Ret (.bool c.erase.formed) W) from rformed_calls (t := c) (Tm.In_below g Ic.out))
  have Hge := Lib.hid (fun (x y : Tm) (W : World) (h1 : x.In W) (h2 : y.In W) (h3 : x.erase.formed = true) (h4 : y.erase.formed = true) (h5 : T.sz x.erase ≤ 1048576) (h6 : T.sz y.erase ≤ 1048576) => show Calls Try.prog 30 #[.agg #[.int .i64 x.k, .int .i64 x.n, .string x.s, .slice x.p x.l.length x.c], .agg #[.int .i64 y.k, .int .i64 y.n, .string y.s, .slice y.p y.l.length y.c]] W (RetGeneral x.erase y.erase W) from hgen x y W h1 h2 h3 h4 h5 h6)
  have Hma := Lib.hid (fun (x y : Tm) (W : World) (h1 : x.In W) (h2 : y.In W) => show Calls Try.prog 31 #[.agg #[.int .i64 x.k, .int .i64 x.n, .string x.s, .slice x.p x.l.length x.c], .agg #[.int .i64 y.k, .int .i64 y.n, .string y.s, .slice y.p y.l.length y.c]] W (RetMatch W.heap.size x.erase y.erase W) from tmatch_calls x y W h1 h2)
  have Hva := Lib.hid (fun (x y : Tm) (W : World) (h1 : x.In W) (h2 : y.In W) => show Calls Try.prog 32 #[.agg #[.int .i64 x.k, .int .i64 x.n, .string x.s, .slice x.p x.l.length x.c], .agg #[.int .i64 y.k, .int .i64 y.n, .string y.s, .slice y.p y.l.length y.c]] W (RetVariant x.erase y.erase W) from variant_calls x y W h1 h2)
  have hQ0 : Hid (∀ w', Gr w w' → Ret (.bool true) w (.returned (.bool true)) w') := fun w' g => ⟨rfl, g⟩
  generalize Ret (.bool true) w = Q at hQ0 ⊢
  have HQ := hQ0
  clear ip it ic sp st hQ0 hgen
  rw [show p.val = .agg #[.int .i64 p.k, .int .i64 p.n, .string p.s, .slice p.p p.l.length p.c] from rfl, show t.val = .agg #[.int .i64 t.k, .int .i64 t.n, .string t.s, .slice t.p t.l.length t.c] from rfl, show c.val = .agg #[.int .i64 c.k, .int .i64 c.n, .string c.s, .slice c.p c.l.length c.c] from rfl]
  go_enter Try.func4, Try.ntmps4
  try simp only [List.append_eq, List.cons_append, List.nil_append]
  go_upto_region 1 with fail
  obtain ⟨h3, h4, h5, gA⟩ := three_blocks w (.int .i64 p.k) (.int .i64 p.n) (.string p.s) (.slice p.p p.l.length p.c) (.int .i64 t.k) (.int .i64 t.n) (.string t.s) (.slice t.p t.l.length t.c) (.int .i64 c.k) (.int .i64 c.n) (.string c.s) (.slice c.p c.l.length c.c)
  generalize (((w.alloc (.cells #[.int .i64 p.k, .int .i64 p.n, .string p.s, .slice p.p p.l.length p.c] 25)).alloc (.cells #[.int .i64 t.k, .int .i64 t.n, .string t.s, .slice t.p t.l.length t.c] 25)).alloc (.cells #[.int .i64 c.k, .int .i64 c.n, .string c.s, .slice c.p c.l.length c.c] 25)) = wA at *
  have gA0 : Gr wA wA := Gr.rfl' _
  obtain ⟨⟨x0, x1, x2, x3⟩, _, _⟩ := (h3.out.gr gA0).parts
  by_cases hf : ¬ p.erase.formed = true
  · rw [Bool.not_eq_true] at hf
    rw [hf] at Hfp
    clear hf
    go_wp2_with fail
    refine (Hfp.out _ (gA.trans gA0)).mono ?_
    rintro e w1 ⟨rfl, g1⟩
    have Hb := Lib.hid (HQ.out w1 ((gA.trans gA0).trans g1))
    clear x0 x1 x2 x3
    go_wp2_with fail
    exact Hb.out
  have hf' := Decidable.not_not.1 hf
  rw [hf'] at Hfp
  have HFp := Lib.hid hf'
  clear hf hf'
  go_wp2_with fail
  refine (Hfp.out _ (gA.trans gA0)).mono ?_
  rintro e w1 ⟨rfl, g1⟩
  have gA1 : Gr wA w1 := gA0.trans g1
  clear x0 x1 x2 x3 g1
  obtain ⟨⟨x0, x1, x2, x3⟩, _, _⟩ := (h4.out.gr gA1).parts
  by_cases hf : ¬ t.erase.formed = true
  · rw [Bool.not_eq_true] at hf
    rw [hf] at Hft
    clear hf
    go_wp2_with fail
    refine (Hft.out _ (gA.trans gA1)).mono ?_
    rintro e w1 ⟨rfl, g1⟩
    have Hb := Lib.hid (HQ.out w1 ((gA.trans gA1).trans g1))
    clear x0 x1 x2 x3
    go_wp2_with fail
    exact Hb.out
  have hf' := Decidable.not_not.1 hf
  rw [hf'] at Hft
  have HFt := Lib.hid hf'
  clear hf hf'
  go_wp2_with fail
  refine (Hft.out _ (gA.trans gA1)).mono ?_
  rintro e w2 ⟨rfl, g1⟩
  have gA2 : Gr wA w2 := gA1.trans g1
  clear x0 x1 x2 x3 g1
  obtain ⟨⟨x0, x1, x2, x3⟩, _, _⟩ := (h5.out.gr gA2).parts
  by_cases hf : ¬ c.erase.formed = true
  · rw [Bool.not_eq_true] at hf
    rw [hf] at Hfc
    clear hf
    go_wp2_with fail
    refine (Hfc.out _ (gA.trans gA2)).mono ?_
    rintro e w1 ⟨rfl, g1⟩
    have Hb := Lib.hid (HQ.out w1 ((gA.trans gA2).trans g1))
    clear x0 x1 x2 x3
    go_wp2_with fail
    exact Hb.out
  have hf' := Decidable.not_not.1 hf
  rw [hf'] at Hfc
  have HFc := Lib.hid hf'
  clear hf hf'
  go_wp2_with fail
  refine (Hfc.out _ (gA.trans gA2)).mono ?_
  rintro e w3 ⟨rfl, g1⟩
  have gA3 : Gr wA w3 := gA2.trans g1
  clear x0 x1 x2 x3 g1
  have gw3 : Gr w w3 := gA.trans gA3
  obtain ⟨⟨x0, x1, x2, x3⟩, _, _⟩ := (h3.out.gr gA3).parts
  obtain ⟨⟨y0, y1, y2, y3⟩, _, _⟩ := (h4.out.gr gA3).parts
  go_wp2_with fail
  refine (Hge.out p t w3 (Tm.In_below gw3 Ip.out) (Tm.In_below gw3 It.out) HFp.out HFt.out Hs.out.1 Hs.out.2).mono ?_
  rintro e w4 ⟨g, rfl, gin, ge, g1⟩
  have gA4 : Gr wA w4 := gA3.trans g1
  have s4 : w3.heap.size ≤ w4.heap.size := g1.size
  clear x0 x1 x2 x3 y0 y1 y2 y3
  rw [show g.val = .agg #[.int .i64 g.k, .int .i64 g.n, .string g.s, .slice g.p g.l.length g.c] from rfl]
  go_upto_region 4 with fail
  have hG := Blk4.new w4 (.int .i64 g.k) (.int .i64 g.n) (.string g.s) (.slice g.p g.l.length g.c)
  have gG : Gr w4 (w4.alloc (.cells #[.int .i64 g.k, .int .i64 g.n, .string g.s, .slice g.p g.l.length g.c] 25)) := by go_grown
  generalize w4.alloc (.cells #[.int .i64 g.k, .int .i64 g.n, .string g.s, .slice g.p g.l.length g.c] 25) = w5 at *
  have gA5 : Gr wA w5 := gA4.trans gG
  have Bg := Lib.hid hG
  have Ig := Lib.hid (Tm.In_below gG gin)
  have Eg := Lib.hid ge
  clear hG gin ge
  have gGG : Gr w5 w5 := Gr.rfl' _
  have hgf : g.erase.formed = true := by rw [Eg.out]; exact lgg_formed HFp.out HFt.out (by have := Hs.out.1; omega)
  have HFg := Lib.hid hgf
  clear hgf g1 gG
  have gB5 : Gr w5 w5 := Gr.rfl' _
  obtain ⟨⟨x0, x1, x2, x3⟩, _, _⟩ := (Bg.out.gr gB5).parts
  obtain ⟨⟨y0, y1, y2, y3⟩, _, _⟩ := (h3.out.gr gA5).parts
  go_wp2_with fail
  refine (Hma.out g p w5 (Tm.In_below gB5 Ig.out) (Tm.In_below (gA.trans gA5) Ip.out)).mono ?_
  rintro e w6 h6
  obtain ⟨mb1, b1, zb1, rfl, hb, g6⟩ := h6.says HFg.out HFp.out
  have gA6 : Gr wA w6 := gA5.trans g6
  have gB6 : Gr w5 w6 := gB5.trans g6
  clear x0 x1 x2 x3 y0 y1 y2 y3 g6 h6
  obtain rfl : b1 = true := hb.2 (by rw [Eg.out]; exact lgg_left HFp.out HFt.out)
  clear hb
  obtain ⟨⟨x0, x1, x2, x3⟩, _, _⟩ := (Bg.out.gr gB6).parts
  obtain ⟨⟨y0, y1, y2, y3⟩, _, _⟩ := (h4.out.gr gA6).parts
  go_wp2_with fail
  refine (Hma.out g t w6 (Tm.In_below gB6 Ig.out) (Tm.In_below (gA.trans gA6) It.out)).mono ?_
  rintro e w7 h6
  obtain ⟨mb2, b2, zb2, rfl, hb, g6⟩ := h6.says HFg.out HFt.out
  have gA7 : Gr wA w7 := gA6.trans g6
  have gB7 : Gr w5 w7 := gB6.trans g6
  clear x0 x1 x2 x3 y0 y1 y2 y3 g6 h6
  obtain rfl : b2 = true := hb.2 (by rw [Eg.out]; exact lgg_right HFp.out HFt.out)
  clear hb
  obtain ⟨⟨x0, x1, x2, x3⟩, _, _⟩ := (h5.out.gr gA7).parts
  obtain ⟨⟨y0, y1, y2, y3⟩, _, _⟩ := (h3.out.gr gA7).parts
  go_wp2_with fail
  refine (Hma.out c p w7 (Tm.In_below (gA.trans gA7) Ic.out) (Tm.In_below (gA.trans gA7) Ip.out)).mono ?_
  rintro e w8 h6
  obtain ⟨mb3, b3, zb3, rfl, hb, g6⟩ := h6.says HFc.out HFp.out
  have gA8 : Gr wA w8 := gA7.trans g6
  have gB8 : Gr w5 w8 := gB7.trans g6
  clear x0 x1 x2 x3 y0 y1 y2 y3 g6 h6
  have Hb3 := Lib.hid hb
  clear hb
  obtain ⟨⟨x0, x1, x2, x3⟩, _, _⟩ := (h5.out.gr gA8).parts
  obtain ⟨⟨y0, y1, y2, y3⟩, _, _⟩ := (h4.out.gr gA8).parts
  go_wp2_with fail
  refine (Hma.out c t w8 (Tm.In_below (gA.trans gA8) Ic.out) (Tm.In_below (gA.trans gA8) It.out)).mono ?_
  rintro e w9 h6
  obtain ⟨mb4, b4, zb4, rfl, hb, g6⟩ := h6.says HFc.out HFt.out
  have gA9 : Gr wA w9 := gA8.trans g6
  have gB9 : Gr w5 w9 := gB8.trans g6
  clear x0 x1 x2 x3 y0 y1 y2 y3 g6 h6
  have Hb4 := Lib.hid hb
  clear hb
  obtain ⟨⟨x0, x1, x2, x3⟩, _, _⟩ := (h5.out.gr gA9).parts
  obtain ⟨⟨y0, y1, y2, y3⟩, _, _⟩ := (Bg.out.gr gB9).parts
  go_wp2_with fail
  refine (Hma.out c g w9 (Tm.In_below (gA.trans gA9) Ic.out) (Tm.In_below gB9 Ig.out)).mono ?_
  rintro e w10 h6
  obtain ⟨mb5, b5, zb5, rfl, hb, g6⟩ := h6.says HFc.out HFg.out
  have gA10 : Gr wA w10 := gA9.trans g6
  have gB10 : Gr w5 w10 := gB9.trans g6
  clear x0 x1 x2 x3 y0 y1 y2 y3 g6 h6
  have Hb5 := Lib.hid hb
  clear hb
  have hcase : (b5 = true ∧ b3 = true ∧ b4 = true) ∨ (b5 = false ∧ b3 = false) ∨ (b5 = false ∧ b3 = true ∧ b4 = false) := by
    have h1 : b5 = true → b3 = true ∧ b4 = true := fun h => by
      have hm := Hb5.out.1 h
      rw [Eg.out] at hm
      exact ⟨Hb3.out.2 (matches_trans hm (lgg_left HFp.out HFt.out)), Hb4.out.2 (matches_trans hm (lgg_right HFp.out HFt.out))⟩
    have h2 : b3 = true → b4 = true → b5 = true := fun h h' => Hb5.out.2 (by rw [Eg.out]; exact lgg_least HFp.out HFt.out HFc.out (Hb3.out.1 h) (Hb4.out.1 h'))
    cases b5 with
    | true => exact .inl ⟨rfl, h1 rfl⟩
    | false =>
      cases b3 with
      | false => exact .inr (.inl ⟨rfl, rfl⟩)
      | true =>
        cases b4 with
        | false => exact .inr (.inr ⟨rfl, rfl, rfl⟩)
        | true => exact nomatch h2 rfl rfl
  clear Hb3 Hb4 Hb5
  rcases hcase with ⟨rfl, rfl, rfl⟩ | ⟨rfl, rfl⟩ | ⟨rfl, rfl, rfl⟩
  · go_upto_region 13 with fail
    have gw10 : Gr w w10 := gA.trans gA10
    obtain ⟨⟨x0, x1, x2, x3⟩, _, _⟩ := (h4.out.gr gA10).parts
    obtain ⟨⟨y0, y1, y2, y3⟩, _, _⟩ := (h3.out.gr gA10).parts
    go_wp2_with fail
    refine (Hge.out t p w10 (Tm.In_below gw10 It.out) (Tm.In_below gw10 Ip.out) HFt.out HFp.out Hs.out.2 Hs.out.1).mono ?_
    rintro e w11 ⟨h, rfl, gin, ge, g1⟩
    have gA11 : Gr wA w11 := gA10.trans g1
    have s11 : w10.heap.size ≤ w11.heap.size := g1.size
    clear x0 x1 x2 x3 y0 y1 y2 y3
    rw [show h.val = .agg #[.int .i64 h.k, .int .i64 h.n, .string h.s, .slice h.p h.l.length h.c] from rfl]
    go_upto_region 14 with fail
    have hG := Blk4.new w11 (.int .i64 h.k) (.int .i64 h.n) (.string h.s) (.slice h.p h.l.length h.c)
    have gG : Gr w11 (w11.alloc (.cells #[.int .i64 h.k, .int .i64 h.n, .string h.s, .slice h.p h.l.length h.c] 25)) := by go_grown
    generalize w11.alloc (.cells #[.int .i64 h.k, .int .i64 h.n, .string h.s, .slice h.p h.l.length h.c] 25) = w12 at *
    have gA12 : Gr wA w12 := gA11.trans gG
    have Bh := Lib.hid hG
    have Ih := Lib.hid (Tm.In_below gG gin)
    have Eh := Lib.hid ge
    clear hG gin ge
    have gB12 : Gr w5 w12 := gB10.trans (g1.trans gG)
    obtain ⟨⟨x0, x1, x2, x3⟩, _, _⟩ := (Bg.out.gr gB12).parts
    obtain ⟨⟨y0, y1, y2, y3⟩, _, _⟩ := Bh.out.parts
    clear g1 gG
    go_wp2_with fail
    refine (Hva.out g h w12 (Tm.In_below gB12 Ig.out) Ih.out).mono ?_
    rintro e w13 ⟨v1, rfl, hv1, g13⟩
    obtain rfl : v1 = true := hv1.2 ⟨by rw [HFg.out, Eh.out, lgg_formed HFt.out HFp.out (by have := Hs.out.2; omega)]; rfl, by rw [Eg.out, Eh.out]; exact lgg_variant HFp.out HFt.out (by have := Hs.out.1; omega) (by have := Hs.out.2; omega)⟩
    have Hb := Lib.hid (HQ.out w13 ((gA.trans gA12).trans g13))
    clear x0 x1 x2 x3 y0 y1 y2 y3 g13 hv1
    go_wp2_with fail
    exact Hb.out
  · go_upto_region 13 with fail
    have gw10 : Gr w w10 := gA.trans gA10
    obtain ⟨⟨x0, x1, x2, x3⟩, _, _⟩ := (h4.out.gr gA10).parts
    obtain ⟨⟨y0, y1, y2, y3⟩, _, _⟩ := (h3.out.gr gA10).parts
    go_wp2_with fail
    refine (Hge.out t p w10 (Tm.In_below gw10 It.out) (Tm.In_below gw10 Ip.out) HFt.out HFp.out Hs.out.2 Hs.out.1).mono ?_
    rintro e w11 ⟨h, rfl, gin, ge, g1⟩
    have gA11 : Gr wA w11 := gA10.trans g1
    have s11 : w10.heap.size ≤ w11.heap.size := g1.size
    clear x0 x1 x2 x3 y0 y1 y2 y3
    rw [show h.val = .agg #[.int .i64 h.k, .int .i64 h.n, .string h.s, .slice h.p h.l.length h.c] from rfl]
    go_upto_region 14 with fail
    have hG := Blk4.new w11 (.int .i64 h.k) (.int .i64 h.n) (.string h.s) (.slice h.p h.l.length h.c)
    have gG : Gr w11 (w11.alloc (.cells #[.int .i64 h.k, .int .i64 h.n, .string h.s, .slice h.p h.l.length h.c] 25)) := by go_grown
    generalize w11.alloc (.cells #[.int .i64 h.k, .int .i64 h.n, .string h.s, .slice h.p h.l.length h.c] 25) = w12 at *
    have gA12 : Gr wA w12 := gA11.trans gG
    have Bh := Lib.hid hG
    have Ih := Lib.hid (Tm.In_below gG gin)
    have Eh := Lib.hid ge
    clear hG gin ge
    have gB12 : Gr w5 w12 := gB10.trans (g1.trans gG)
    obtain ⟨⟨x0, x1, x2, x3⟩, _, _⟩ := (Bg.out.gr gB12).parts
    obtain ⟨⟨y0, y1, y2, y3⟩, _, _⟩ := Bh.out.parts
    clear g1 gG
    go_wp2_with fail
    refine (Hva.out g h w12 (Tm.In_below gB12 Ig.out) Ih.out).mono ?_
    rintro e w13 ⟨v1, rfl, hv1, g13⟩
    obtain rfl : v1 = true := hv1.2 ⟨by rw [HFg.out, Eh.out, lgg_formed HFt.out HFp.out (by have := Hs.out.2; omega)]; rfl, by rw [Eg.out, Eh.out]; exact lgg_variant HFp.out HFt.out (by have := Hs.out.1; omega) (by have := Hs.out.2; omega)⟩
    have Hb := Lib.hid (HQ.out w13 ((gA.trans gA12).trans g13))
    clear x0 x1 x2 x3 y0 y1 y2 y3 g13 hv1
    go_wp2_with fail
    exact Hb.out
  · go_upto_region 13 with fail
    have gw10 : Gr w w10 := gA.trans gA10
    obtain ⟨⟨x0, x1, x2, x3⟩, _, _⟩ := (h4.out.gr gA10).parts
    obtain ⟨⟨y0, y1, y2, y3⟩, _, _⟩ := (h3.out.gr gA10).parts
    go_wp2_with fail
    refine (Hge.out t p w10 (Tm.In_below gw10 It.out) (Tm.In_below gw10 Ip.out) HFt.out HFp.out Hs.out.2 Hs.out.1).mono ?_
    rintro e w11 ⟨h, rfl, gin, ge, g1⟩
    have gA11 : Gr wA w11 := gA10.trans g1
    have s11 : w10.heap.size ≤ w11.heap.size := g1.size
    clear x0 x1 x2 x3 y0 y1 y2 y3
    rw [show h.val = .agg #[.int .i64 h.k, .int .i64 h.n, .string h.s, .slice h.p h.l.length h.c] from rfl]
    go_upto_region 14 with fail
    have hG := Blk4.new w11 (.int .i64 h.k) (.int .i64 h.n) (.string h.s) (.slice h.p h.l.length h.c)
    have gG : Gr w11 (w11.alloc (.cells #[.int .i64 h.k, .int .i64 h.n, .string h.s, .slice h.p h.l.length h.c] 25)) := by go_grown
    generalize w11.alloc (.cells #[.int .i64 h.k, .int .i64 h.n, .string h.s, .slice h.p h.l.length h.c] 25) = w12 at *
    have gA12 : Gr wA w12 := gA11.trans gG
    have Bh := Lib.hid hG
    have Ih := Lib.hid (Tm.In_below gG gin)
    have Eh := Lib.hid ge
    clear hG gin ge
    have gB12 : Gr w5 w12 := gB10.trans (g1.trans gG)
    obtain ⟨⟨x0, x1, x2, x3⟩, _, _⟩ := (Bg.out.gr gB12).parts
    obtain ⟨⟨y0, y1, y2, y3⟩, _, _⟩ := Bh.out.parts
    clear g1 gG
    go_wp2_with fail
    refine (Hva.out g h w12 (Tm.In_below gB12 Ig.out) Ih.out).mono ?_
    rintro e w13 ⟨v1, rfl, hv1, g13⟩
    obtain rfl : v1 = true := hv1.2 ⟨by rw [HFg.out, Eh.out, lgg_formed HFt.out HFp.out (by have := Hs.out.2; omega)]; rfl, by rw [Eg.out, Eh.out]; exact lgg_variant HFp.out HFt.out (by have := Hs.out.1; omega) (by have := Hs.out.2; omega)⟩
    have Hb := Lib.hid (HQ.out w13 ((gA.trans gA12).trans g13))
    clear x0 x1 x2 x3 y0 y1 y2 y3 g13 hv1
    go_wp2_with fail
    exact Hb.out
end Go.Proofs.Ytcblmkhhhibddaa

namespace Go.Proofs.Ytcblmkhhhibddaa
open Go.RowKit Go.Maps Go.Lib

def GenSays : Prop := ∀ (S : Nat → Prop) (P : Nat) (v : Value) (l : List Pr) (a b : Tm) (w : World), a.In w → b.In w → a.erase.formed = true → b.erase.formed = true → a.On S → b.On S → PSt S P v l w → l.length + T.sz a.erase ≤ 1048576 →
  Calls Try.prog 88 #[a.val, b.val, .pointer (some ⟨P, 0, none⟩)] w (RetGen S P v l a.erase b.erase w)

set_option maxHeartbeats 4000000 in
set_option maxRecDepth 100000 in
theorem general_says (hgen : GenSays) : GeneralSays := by
  intro p t w ip it fp ft sp st
  have Ip := Lib.hid ip
  have It := Lib.hid it
  have Fp := Lib.hid fp
  have Ft := Lib.hid ft
  have Sp := Lib.hid sp
  have hall : ∀ (w0 w' : World), Gr w w0 → Gr (w0.alloc (.cells #[.int .i64 p.k, .int .i64 p.n, .string p.s, .slice p.p p.l.length p.c, .int .i64 t.k, .int .i64 t.n, .string t.s, .slice t.p t.l.length t.c] 25)) w' → Calls Try.prog 79 #[.slice (some ⟨w0.heap.size, 0, none⟩) 2 2] w' (Ret (.bool true) w') := fun w0 w' h0 h1 => by
    have h2 := all_calls (two_new (Tm.In_below h0 ip) (Tm.In_below h0 it) h1)
    rw [show T.formedL (Tm.eraseL [p, t]) = true by simp [Tm.eraseL, T.formedL, fp, ft]] at h2
    exact h2
  have Hall := Lib.hid hall
  have Hge := Lib.hid (fun (S : Nat → Prop) (P : Nat) (v : Value) (W : World) (h1 : p.In W) (h2 : t.In W) (h3 : p.On S) (h4 : t.On S) (h5 : PSt S P v [] W) => show Calls Try.prog 88 #[.agg #[.int .i64 p.k, .int .i64 p.n, .string p.s, .slice p.p p.l.length p.c], .agg #[.int .i64 t.k, .int .i64 t.n, .string t.s, .slice t.p t.l.length t.c], .pointer (some ⟨P, 0, none⟩)] W (RetGen S P v [] p.erase t.erase W) from hgen S P v [] p t W h1 h2 fp ft h3 h4 h5 (by simpa using sp))
  have hQ0 : Hid (∀ (g : Tm) w', g.In w' → g.erase = T.lgg p.erase t.erase → Gr w w' → RetGeneral p.erase t.erase w (.returned (.tuple #[g.val, .int .i64 0])) w') := fun g w' h1 h2 h3 => ⟨g, rfl, h1, h2, h3⟩
  generalize RetGeneral p.erase t.erase w = Q at hQ0 ⊢
  have HQ := hQ0
  clear ip it fp ft sp st hQ0 hall hgen
  rw [show p.val = .agg #[.int .i64 p.k, .int .i64 p.n, .string p.s, .slice p.p p.l.length p.c] from rfl, show t.val = .agg #[.int .i64 t.k, .int .i64 t.n, .string t.s, .slice t.p t.l.length t.c] from rfl]
  go_enter Try.func30, Try.ntmps30
  try simp only [List.append_eq, List.cons_append, List.nil_append]
  go_upto_region 1 with fail
  obtain ⟨h3, h4, h5, gA⟩ := three_blocks w (.int .i64 p.k) (.int .i64 p.n) (.string p.s) (.slice p.p p.l.length p.c) (.int .i64 t.k) (.int .i64 t.n) (.string t.s) (.slice t.p t.l.length t.c) (.int .i64 0) (.int .i64 0) (.string ⟨#[]⟩) (.slice none 0 0)
  generalize (((w.alloc (.cells #[.int .i64 p.k, .int .i64 p.n, .string p.s, .slice p.p p.l.length p.c] 25)).alloc (.cells #[.int .i64 t.k, .int .i64 t.n, .string t.s, .slice t.p t.l.length t.c] 25)).alloc (.cells #[.int .i64 0, .int .i64 0, .string ⟨#[]⟩, .slice none 0 0] 25)) = wA at *
  have K5 := h5
  obtain ⟨⟨x0, x1, x2, x3⟩, _, _⟩ := h3.out.parts
  obtain ⟨⟨y0, y1, y2, y3⟩, _, _⟩ := h4.out.parts
  go_wp2_with fail
  refine (Hall.out _ _ gA (Gr.rfl' _)).mono ?_
  rintro e w1 ⟨rfl, g1⟩
  have gA1 : Gr wA w1 := Gr.trans (show Gr wA _ by go_grown) g1
  have gw1 : Gr w w1 := gA.trans gA1
  clear x0 x1 x2 x3 y0 y1 y2 y3 g1
  go_upto_region 4 with fail
  have hP : (w1.alloc (.cells #[.slice none 0 0] 22)).heap[w1.heap.size]? = some (.cells #[.slice none 0 0] 22) := heap_alloc_new w1 _
  have gP : Gr w1 (w1.alloc (.cells #[.slice none 0 0] 22)) := by go_grown
  generalize w1.alloc (.cells #[.slice none 0 0] 22) = w2 at *
  have gA2 : Gr wA w2 := gA1.trans gP
  have gw2 : Gr w w2 := gA.trans gA2
  have hst : PSt (· < w1.heap.size) w1.heap.size (.slice none 0 0) [] w2 := ⟨hP, World.ownsRow_nil w2 _ _ 8, (fun y hy => nomatch hy), fun b hb => hb⟩
  have Hst := Lib.hid hst
  have hc5 := (K5.out.gr gA1).parts.2.2
  clear hP hst
  obtain ⟨⟨x0, x1, x2, x3⟩, _, _⟩ := (h3.out.gr gA2).parts
  obtain ⟨⟨y0, y1, y2, y3⟩, _, _⟩ := (h4.out.gr gA2).parts
  go_wp2_with fail
  refine (Hge.out (· < w1.heap.size) w1.heap.size (.slice none 0 0) w2 (Tm.In_below gw2 Ip.out) (Tm.In_below gw2 It.out) ((Tm.In_below gw1 Ip.out).on) ((Tm.In_below gw1 It.out).on) Hst.out).mono ?_
  rintro e w3 ⟨g, v', l', rfl, gin, ge, -, -, k3, gon, -⟩
  have hmu : ∀ b, PMut w1.heap.size (.slice none 0 0) b → w1.heap.size ≤ b := fun b hb => by
    rcases hb with hb | hb
    · omega
    · exact nomatch hb
  have hkk : Gr w1 w3 := Below.trans gP (k3.below hmu gP.size)
  have gA3 : Gr wA w3 := gA1.trans hkk
  have gw3 : Gr w w3 := gA.trans gA3
  have hs2 : w1.heap.size ≤ w2.heap.size := gP.size
  have hge : g.erase = T.lgg p.erase t.erase := ge
  rw [show g.val = .agg #[.int .i64 g.k, .int .i64 g.n, .string g.s, .slice g.p g.l.length g.c] from rfl]
  obtain ⟨_, ⟨z0, z1, z2, z3⟩, _⟩ := (K5.out.gr gA3).parts
  obtain ⟨⟨r0, r1, r2, r3⟩, _, _⟩ := (K5.out.gr gA3).parts
  have kk := Kp.sets (C := (· = w.heap.size + 2)) (w := w3) (b := w.heap.size + 2) rfl (.int .i64 g.k) (.int .i64 g.n) (.string g.s) (.slice g.p g.l.length g.c)
  have Hb := Lib.hid (HQ.out g _ (kp_in gin gon (fun b hb e => by omega) kk) hge (Below.trans gw3 (kk.below (fun b hb => by omega) gw3.size)))
  clear x0 x1 x2 x3 y0 y1 y2 y3 kk gin gon ge hge k3
  go_wp2_with fail
  exact bodyPost_ret (v := .tuple #[g.val, .int .i64 0]) (by simp (maxDischargeDepth := 9) [results, Try.results30, go_sem, Tm.val, r0, r1, r2, r3]) rfl Hb.out
end Go.Proofs.Ytcblmkhhhibddaa
