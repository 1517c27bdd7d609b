/-
  term.Variant.
  term.Vars, term.Compare; hornref.SameNumbers, hornref.Rename.
-/
import Derived.Test.YtcblmkhhhibddaaTS19
import Derived.Test.YtcblmkhhhibddaaTS09
import Derived.Test.YtcblmkhhhibddaaTS08
import Derived.Test.YtcblmkhhhibddaaTS13
import Derived.Test.YtcblmkhhhibddaaTS12
import Derived.BigQuiet
namespace Go.Proofs.Ytcblmkhhhibddaa
open Go.RowKit Go.Maps Go.Lib

theorem ren_one {d : Int} {a : T} {lm : List Tm} (h : Tm.eraseL lm = T.mapL (swapF d (T.varsL [a] [])) [a]) : ∃ x : Tm, lm = [x] ∧ x.erase = T.map (swapF d (T.varsL [a] [])) a := by
  rw [T.mapL, T.mapL] at h
  match lm, h with
  | [], h => rw [Tm.eraseL] at h; cases h
  | [x], h =>
    rw [Tm.eraseL, Tm.eraseL] at h
    injection h with h1 h2
    exact ⟨x, rfl, h1⟩
  | x :: y :: zs, h =>
    rw [Tm.eraseL, Tm.eraseL] at h
    injection h with h1 h2
    cases h2
theorem erase_one (t : Tm) : Tm.eraseL [t] = [t.erase] := by rw [Tm.eraseL, Tm.eraseL]

/-- Variant's answer. -/
def RetVariant (a b : T) (w : World) (e : Ending) (w' : World) : Prop := ∃ v : Bool, e = .returned (.tuple #[.bool v, .int .i64 (errOf (a.formed && b.formed))]) ∧ (v = true ↔ (a.formed && b.formed) = true ∧ a.norm = b.norm) ∧ Gr w w'

set_option maxHeartbeats 2000000 in
set_option maxRecDepth 100000 in
theorem variant_calls (p t : Tm) (w : World) (ip : p.In w) (it : t.In w) : Calls Try.prog 32 #[p.val, t.val] w (RetVariant p.erase t.erase w) := by
  have Ip := Lib.hid ip
  have It := Lib.hid it
  have hall : ∀ (w0 w' : World), Gr w w0 → Gr (w0.alloc (.cells #[.int .i64 p.k, .int .i64 p.n, .string p.s, .slice p.p p.l.length p.c, .int .i64 t.k, .int .i64 t.n, .string t.s, .slice t.p t.l.length t.c] 25)) w' → Calls Try.prog 79 #[.slice (some ⟨w0.heap.size, 0, none⟩) 2 2] w' (Ret (.bool (p.erase.formed && t.erase.formed)) w') := fun w0 w' h0 h1 => by
    have h2 := all_calls (two_new (Tm.In_below h0 ip) (Tm.In_below h0 it) h1)
    rw [show T.formedL (Tm.eraseL [p, t]) = (p.erase.formed && t.erase.formed) by simp [Tm.eraseL, T.formedL]] at h2
    exact h2
  have Hall := Lib.hid hall
  have hQ0 : Hid (∀ (v : Bool) (ff : Bool) w', (p.erase.formed && t.erase.formed) = ff → (v = true ↔ ff = true ∧ p.erase.norm = t.erase.norm) → Gr w w' → RetVariant p.erase t.erase w (.returned (.tuple #[.bool v, .int .i64 (errOf ff)])) w') := fun v ff w' h1 h2 h3 => ⟨v, by rw [h1], by rw [h1]; exact h2, h3⟩
  generalize RetVariant p.erase t.erase w = Q at hQ0 ⊢
  have HQ := hQ0
  clear ip it hall hQ0
  rw [show p.val = .agg #[.int .i64 p.k, .int .i64 p.n, .string p.s, .slice p.p p.l.length p.c] from rfl, show t.val = .agg #[.int .i64 t.k, .int .i64 t.n, .string t.s, .slice t.p t.l.length t.c] from rfl]
  go_enter Try.func32, Try.ntmps32
  try simp only [List.append_eq, List.cons_append, List.nil_append]
  go_upto_region 1 with fail
  obtain ⟨h3, h4, gA⟩ := two_blocks w (.int .i64 p.k) (.int .i64 p.n) (.string p.s) (.slice p.p p.l.length p.c) (.int .i64 t.k) (.int .i64 t.n) (.string t.s) (.slice t.p t.l.length t.c)
  generalize ((w.alloc (.cells #[.int .i64 p.k, .int .i64 p.n, .string p.s, .slice p.p p.l.length p.c] 25)).alloc (.cells #[.int .i64 t.k, .int .i64 t.n, .string t.s, .slice t.p t.l.length t.c] 25)) = wA at *
  obtain ⟨⟨x0, x1, x2, x3⟩, _, _⟩ := h3.out.parts
  obtain ⟨⟨y0, y1, y2, y3⟩, _, sA⟩ := h4.out.parts
  obtain ⟨ff, hff⟩ : ∃ ff, (p.erase.formed && t.erase.formed) = ff := ⟨_, rfl⟩
  rw [hff] at Hall
  have Hff := Lib.hid hff
  clear hff
  go_wp2_with fail
  refine (Hall.out _ _ gA (Gr.rfl' _)).mono ?_
  rintro e w2 ⟨rfl, hg2⟩
  have gA2 : Gr wA w2 := Gr.trans (show Gr wA _ by go_grown) hg2
  have g2 : Gr w w2 := gA.trans gA2
  clear x0 x1 x2 x3 y0 y1 y2 y3 hg2
  cases ff with
  | false =>
    have Hb := Lib.hid (HQ.out false false w2 Hff.out ⟨(fun h => nomatch h), fun h => nomatch h.1⟩ g2)
    go_wp2_with fail
    exact Hb.out
  | true =>
    have hf : p.erase.formed = true ∧ t.erase.formed = true := by have := Hff.out; simpa using this
    have Hf := Lib.hid hf
    obtain ⟨⟨x0, x1, x2, x3⟩, _, _⟩ := (h3.out.gr gA2).parts
    have Hr1 := Lib.hid (fun W (hW : Gr (w2.alloc (.cells #[.int .i64 p.k, .int .i64 p.n, .string p.s, .slice p.p p.l.length p.c] 25)) W) => show Calls Try.prog 93 #[.int .i64 0, .slice (some ⟨w2.heap.size, 0, none⟩) 1 1] W (RetRens 0 [p.erase] W) from by
      have := renamed_calls 0 (some ⟨w2.heap.size, 0, none⟩) 1 [p] W (one_new (Tm.In_below g2 Ip.out) hW) (fun x hx => by rw [List.mem_singleton] at hx; rw [hx]; exact hf.1) ⟨by omega, by omega⟩
      rwa [erase_one] at this)
    clear hf
    go_wp2_with fail
    refine (Hr1.out _ (Gr.rfl' _)).mono ?_
    rintro e w3 ⟨p1, c1, l1, rfl, sl1, e1, hg3, -⟩
    obtain ⟨u, rfl, eu⟩ := ren_one e1
    have g23 : Gr w2 w3 := Gr.trans (show Gr w2 _ by go_grown) hg3
    have g3 : Gr w w3 := g2.trans g23
    have Sl1 := Lib.hid sl1
    have Eu := Lib.hid eu
    obtain ⟨⟨y0, y1, y2, y3⟩, _, _⟩ := (h4.out.gr (gA2.trans g23)).parts
    have Hr2 := Lib.hid (fun W (hW : Gr (w3.alloc (.cells #[.int .i64 t.k, .int .i64 t.n, .string t.s, .slice t.p t.l.length t.c] 25)) W) => show Calls Try.prog 93 #[.int .i64 0, .slice (some ⟨w3.heap.size, 0, none⟩) 1 1] W (RetRens 0 [t.erase] W) from by
      have := renamed_calls 0 (some ⟨w3.heap.size, 0, none⟩) 1 [t] W (one_new (Tm.In_below g3 It.out) hW) (fun x hx => by rw [List.mem_singleton] at hx; rw [hx]; exact Hf.out.2) ⟨by omega, by omega⟩
      rwa [erase_one] at this)
    clear sl1 e1 eu hg3 Hr1 x0 x1 x2 x3
    go_wp2_with fail
    refine (Hr2.out _ (Gr.rfl' _)).mono ?_
    rintro e w4 ⟨p2, c2, l2, rfl, sl2, e2, hg4, -⟩
    obtain ⟨v, rfl, ev⟩ := ren_one e2
    have g34 : Gr w3 w4 := Gr.trans (show Gr w3 _ by go_grown) hg4
    have g4 : Gr w w4 := g3.trans g34
    have hs1 := Sl1.out.mono g34
    obtain ⟨b, o, rfl⟩ := hs1.ptr (by simp)
    obtain ⟨b', o', rfl⟩ := sl2.ptr (by simp)
    obtain ⟨⟨c0, c1', c2', c3⟩, iu, _⟩ := hs1.elem 0 (by simp)
    obtain ⟨⟨d0, d1, d2, d3⟩, iv, _⟩ := sl2.elem 0 (by simp)
    simp only [List.getElem_cons_zero, Nat.zero_mul, Nat.add_zero] at c0 c1' c2' c3 d0 d1 d2 d3 iu iv
    have Iu := Lib.hid iu
    have Iv := Lib.hid iv
    have Ev := Lib.hid ev
    have hl1 : 1 ≤ c1 := hs1.1
    have hl2 : 1 ≤ c2 := sl2.1
    clear y0 y1 y2 y3 hs1 sl2 e2 ev hg4 iu iv Hr2
    go_upto_region 5 with fail
    refine wp_region_rely [fx (.slice (some ⟨b, o, none⟩) 1 c1), fx (.pointer (some ⟨b, o, none⟩)), fx (.agg #[.int .i64 u.k, .int .i64 u.n, .string u.s, .slice u.p u.l.length u.c]), fx (.slice (some ⟨b', o', none⟩) 1 c2), fx (.pointer (some ⟨b', o', none⟩)), fx (.agg #[.int .i64 v.k, .int .i64 v.n, .string v.s, .slice v.p v.l.length v.c]), fx (.int .i64 (T.order u.erase v.erase)), fx (.bool (T.order u.erase v.erase == 0)), fx (.bool (T.order u.erase v.erase == 0)), fx (.int .i64 0)]
      (by kernel_rfl) (by kernel_rfl) (by repeat (first | exact Stable.nil | refine Stable.fix ?_)) ?_ ?_
    · refine ⟨?_, ?_, ?_, ?_, ?_, ?_, ?a6, ?_, ?_, ?_, trivial⟩
      all_goals
        intro a wz hg hold
        have h6 : a.tmps[6]?.getD undef = .slice (some ⟨b, o, none⟩) 1 c1 := hold 6 rfl
        have h8 : a.tmps[8]?.getD undef = .slice (some ⟨b', o', none⟩) 1 c2 := hold 8 rfl
        have zc0 := Gr.at hg c0
        have zc1x := Gr.at hg c1'
        have zc2x := Gr.at hg c2'
        have zc3 := Gr.at hg c3
        have zd0 := Gr.at hg d0
        have zd1 := Gr.at hg d1
        have zd2 := Gr.at hg d2
        have zd3 := Gr.at hg d3
        have Hg := Lib.hid hg
        clear hold c0 c1' c2' c3 d0 d1 d2 d3
        simp [predsImp, Region.binds, dstAt, fx]
        intros
        first
          | (rw [if_pos (by simp [*])]
             intro K hK)
          | (rename_i K hK)
        go_simp
      case a6 =>
        refine (show Calls Try.prog 94 #[.agg #[.int .i64 u.k, .int .i64 u.n, .string u.s, .slice u.p u.l.length u.c], .agg #[.int .i64 v.k, .int .i64 v.n, .string v.s, .slice v.p v.l.length v.c]] _ _ from order_calls (Tm.In_below Hg.out Iu.out) (Tm.In_below Hg.out Iv.out)).mono ?_
        rintro e w9 ⟨rfl, g9⟩
        exact hK _ _ rfl g9
      all_goals exact hK _ _ rfl (Gr.rfl' _)
    · intro w9 hg
      rintro _ rfl _ rfl _ rfl _ rfl _ rfl _ rfl _ rfl _ rfl _ rfl _ rfl
      simp only [finAll, Act.put, Exit.then, List.setIfInBounds_toArray, List.set_cons_succ, List.set_cons_zero]
      have Hfin := Lib.hid (HQ.out (T.order u.erase v.erase == 0) true w9 Hff.out (by
        have fu : u.erase.formed = true := by rw [Eu.out]; exact norm_formed Hf.out.1
        have fv : v.erase.formed = true := by rw [Ev.out]; exact norm_formed Hf.out.2
        rw [beq_iff_eq, order_zero _ _ fu fv, Eu.out, Ev.out]
        exact ⟨fun h => ⟨rfl, h⟩, fun h => h.2⟩) (g4.trans hg))
      clear c0 c1' c2' c3 d0 d1 d2 d3 hg
      go_wp2_with fail
      exact Hfin.out

end Go.Proofs.Ytcblmkhhhibddaa

namespace Go.Proofs.Ytcblmkhhhibddaa
open Go.RowKit Go.Maps Go.Lib

set_option maxHeartbeats 2000000 in
set_option maxRecDepth 100000 in
theorem sameInts_calls (p q : Option Addr) (c d : Nat) (L : List Int) (w : World) (hx : IntSl w p c L) (hy : IntSl w q d L) :
    Calls Try.prog 27 #[.slice p L.length c, .slice q L.length d] w (Ret (.bool true) w) := by
  have hR : Hid (∀ b, true = b → ∀ w', Gr w w' → Ret (.bool true) w (.returned (.bool b)) w') := fun b hb w' hg => ⟨by rw [hb], hg⟩
  have hlc : L.length ≤ c := hx.1
  have hc : c ≤ 9223372036854775807 := hx.2.1
  have H := Lib.hid hx
  have K := Lib.hid hy
  generalize hQ : Ret (.bool true) w = Q at hR ⊢
  clear hQ hx hy
  go_enter Try.func27, Try.ntmps27
  try simp only [List.append_eq, List.cons_append, List.nil_append]
  go_wp2_with fail
  go_loopg [5] L.length (fun m i wr => ∃ k : Nat, k ≤ L.length ∧ m = L.length - k ∧ i = .int .i64 k ∧ Gr w wr)
  case atStart => exact ⟨0, Nat.zero_le _, rfl, rfl, Gr.rfl' _⟩
  case round =>
    obtain ⟨k, hk, rfl, rfl, gr⟩ := hrel
    by_cases hlt : k < L.length
    · obtain ⟨b, o, rfl, _, hr⟩ := (H.out.mono gr).ptr (by omega)
      obtain ⟨b', o', rfl, _, hr'⟩ := (K.out.mono gr).ptr (by omega)
      have h0 : L[k]? = some L[k] := List.getElem?_eq_getElem hlt
      have c0 := hr k _ h0
      have d0 := hr' k _ h0
      clear hr hr' h0
      generalize L[k] = y at *
      go_wp2_with fail
      go_quiet (fail)
      go_wp2_with fail
      go_roundg (L.length - (k + 1))
      case measure => omega
      case rel => exact ⟨k + 1, by omega, rfl, by go_num, gr.drewN _⟩
    · obtain rfl : k = L.length := by omega
      go_wp2_with fail
      exact hR.out _ rfl _ gr
/-- Vars' answer. -/
def RetVars (t : T) (w : World) (e : Ending) (w' : World) : Prop := ∃ (pv : Option Addr) (c : Nat) (V : List Int), e = .returned (.tuple #[.slice pv V.length c, .int .i64 (errOf t.formed)]) ∧ IntSl w' pv c V ∧ Gr w w' ∧ V = if t.formed then T.varsL [t] [] else []
set_option maxHeartbeats 2000000 in
set_option maxRecDepth 100000 in
theorem vars_calls (p : Tm) (w : World) (ip : p.In w) : Calls Try.prog 51 #[p.val] w (RetVars p.erase w) := by
  have Ip := Lib.hid ip
  have hformed := Lib.hid (fun W (g : Gr w W) => show Calls Try.prog 95 #[.agg #[.int .i64 p.k, .int .i64 p.n, .string p.s, .slice p.p p.l.length p.c]] W (Ret (.bool p.erase.formed) W) from formed_calls (t := p) (Tm.In_below g ip))
  have hQ0 : Hid (∀ pv c V (ff : Bool) w', p.erase.formed = ff → IntSl w' pv c V → Gr w w' → (V = if ff then T.varsL [p.erase] [] else []) → RetVars p.erase w (.returned (.tuple #[.slice pv V.length c, .int .i64 (errOf ff)])) w') := fun pv c V ff w' h0 h1 h2 h3 => ⟨pv, c, V, by rw [h0], h1, h2, by rw [h0]; exact h3⟩
  generalize RetVars p.erase w = Q at hQ0 ⊢
  have HQ := hQ0
  have hone : ∀ (w0 w' : World), Gr w w0 → p.erase.formed = true → Gr (w0.alloc (.cells #[.int .i64 p.k, .int .i64 p.n, .string p.s, .slice p.p p.l.length p.c] 25)) w' → Calls Try.prog 110 #[.slice (some ⟨w0.heap.size, 0, none⟩) 1 1] w' fun e w'' => ∃ (pv : Option Addr) (c : Nat), e = .returned (.slice pv (T.varsL [p.erase] []).length c) ∧ IntSl w'' pv c (T.varsL [p.erase] []) ∧ Gr w' w'' := fun w0 w' h0 hf h1 => by
    refine (variables_calls (some ⟨w0.heap.size, 0, none⟩) 1 [p] w' (one_new (Tm.In_below h0 Ip.out) h1) (fun x hx => by rw [List.mem_singleton] at hx; rw [hx]; exact fmd_of hf)).mono ?_
    rintro e w'' ⟨v, rfl, hv, hg⟩
    obtain ⟨pv, c, rfl⟩ := hv.form
    rw [erase_one] at *
    have hr := (VarsOkB.varsL [p.erase] VarsOkB.nil (by rw [← erase_one]; exact fmdL_erase fun y hy => by rw [List.mem_singleton] at hy; rw [hy]; exact fmd_of hf)).in64
    exact ⟨pv, c, rfl, (hv.sl hr).2, hg⟩
  have Hone := Lib.hid hone
  clear ip hone hQ0
  rw [show p.val = .agg #[.int .i64 p.k, .int .i64 p.n, .string p.s, .slice p.p p.l.length p.c] from rfl]
  go_enter Try.func51, Try.ntmps51
  try simp only [List.append_eq, List.cons_append, List.nil_append]
  go_upto_region 1 with fail
  have h3 := Lib.hid (Blk4.new w (.int .i64 p.k) (.int .i64 p.n) (.string p.s) (.slice p.p p.l.length p.c))
  have gA : Gr w (w.alloc (.cells #[.int .i64 p.k, .int .i64 p.n, .string p.s, .slice p.p p.l.length p.c] 25)) := by go_grown
  generalize (w.alloc (.cells #[.int .i64 p.k, .int .i64 p.n, .string p.s, .slice p.p p.l.length p.c] 25)) = wA at *
  obtain ⟨⟨x0, x1, x2, x3⟩, _, _⟩ := h3.out.parts
  obtain ⟨ff, hff⟩ : ∃ ff, p.erase.formed = ff := ⟨_, rfl⟩
  rw [hff] at hformed Hone
  have Hff := Lib.hid hff
  clear hff
  go_wp2_with fail
  refine (hformed.out _ gA).mono ?_
  rintro e w2 ⟨rfl, hg2⟩
  replace hg2 : Gr wA w2 := hg2
  have g2 : Gr w w2 := gA.trans hg2
  obtain ⟨⟨y0, y1, y2, y3⟩, _, _⟩ := (h3.out.gr hg2).parts
  clear x0 x1 x2 x3 hg2
  cases ff with
  | false =>
    have Hb := Lib.hid (HQ.out none 0 [] false w2 Hff.out ⟨Nat.le_refl _, by omega, (fun n hn => nomatch hn), .inl rfl⟩ g2 rfl)
    go_wp2_with fail
    exact Hb.out
  | true =>
    have Hv := Lib.hid (fun w' => Hone.out w2 w' g2 rfl)
    go_wp2_with fail
    refine (Hv.out _ (Gr.rfl' _)).mono ?_
    rintro e w3 ⟨pv, c, rfl, hi, hg3⟩
    have Hb := Lib.hid (HQ.out pv c _ true w3 Hff.out hi (g2.trans (Gr.trans (show Gr w2 _ by go_grown) hg3)) rfl)
    clear hg3 y0 y1 y2 y3
    generalize T.varsL [p.erase] [] = V at *
    go_wp2_with fail
    exact Hb.out

/-- Compare's answer. -/
def RetCompare (a b : T) (w : World) (e : Ending) (w' : World) : Prop := e = .returned (.tuple #[.int .i64 (if (a.formed && b.formed) then T.order a b else 0), .int .i64 (errOf (a.formed && b.formed))]) ∧ Gr w w'
set_option maxHeartbeats 2000000 in
set_option maxRecDepth 100000 in
theorem compare_calls (p t : Tm) (w : World) (ip : p.In w) (it : t.In w) : Calls Try.prog 103 #[p.val, t.val] w (RetCompare p.erase t.erase w) := by
  have hall : ∀ (w0 w' : World), Gr w w0 → Gr (w0.alloc (.cells #[.int .i64 p.k, .int .i64 p.n, .string p.s, .slice p.p p.l.length p.c, .int .i64 t.k, .int .i64 t.n, .string t.s, .slice t.p t.l.length t.c] 25)) w' → Calls Try.prog 79 #[.slice (some ⟨w0.heap.size, 0, none⟩) 2 2] w' (Ret (.bool (p.erase.formed && t.erase.formed)) w') := fun w0 w' h0 h1 => by
    have h2 := all_calls (two_new (Tm.In_below h0 ip) (Tm.In_below h0 it) h1)
    rw [show T.formedL (Tm.eraseL [p, t]) = (p.erase.formed && t.erase.formed) by simp [Tm.eraseL, T.formedL]] at h2
    exact h2
  have Hall := Lib.hid hall
  have Hord := Lib.hid (fun W (g : Gr w W) => show Calls Try.prog 94 #[.agg #[.int .i64 p.k, .int .i64 p.n, .string p.s, .slice p.p p.l.length p.c], .agg #[.int .i64 t.k, .int .i64 t.n, .string t.s, .slice t.p t.l.length t.c]] W (Ret (.int .i64 (T.order p.erase t.erase)) W) from order_calls (t := p) (u := t) (Tm.In_below g ip) (Tm.In_below g it))
  have hQ0 : Hid (∀ (ff : Bool) w', (p.erase.formed && t.erase.formed) = ff → Gr w w' → RetCompare p.erase t.erase w (.returned (.tuple #[.int .i64 (if ff then T.order p.erase t.erase else 0), .int .i64 (errOf ff)])) w') := fun ff w' h1 h3 => ⟨by rw [h1], h3⟩
  generalize RetCompare p.erase t.erase w = Q at hQ0 ⊢
  have HQ := hQ0
  clear ip it hall hQ0
  rw [show p.val = .agg #[.int .i64 p.k, .int .i64 p.n, .string p.s, .slice p.p p.l.length p.c] from rfl, show t.val = .agg #[.int .i64 t.k, .int .i64 t.n, .string t.s, .slice t.p t.l.length t.c] from rfl]
  go_enter Try.func103, Try.ntmps103
  try simp only [List.append_eq, List.cons_append, List.nil_append]
  go_upto_region 1 with fail
  obtain ⟨h3, h4, gA⟩ := two_blocks w (.int .i64 p.k) (.int .i64 p.n) (.string p.s) (.slice p.p p.l.length p.c) (.int .i64 t.k) (.int .i64 t.n) (.string t.s) (.slice t.p t.l.length t.c)
  generalize ((w.alloc (.cells #[.int .i64 p.k, .int .i64 p.n, .string p.s, .slice p.p p.l.length p.c] 25)).alloc (.cells #[.int .i64 t.k, .int .i64 t.n, .string t.s, .slice t.p t.l.length t.c] 25)) = wA at *
  obtain ⟨⟨x0, x1, x2, x3⟩, _, _⟩ := h3.out.parts
  obtain ⟨⟨y0, y1, y2, y3⟩, _, sA⟩ := h4.out.parts
  obtain ⟨ff, hff⟩ : ∃ ff, (p.erase.formed && t.erase.formed) = ff := ⟨_, rfl⟩
  rw [hff] at Hall
  have Hff := Lib.hid hff
  clear hff
  go_wp2_with fail
  refine (Hall.out _ _ gA (Gr.rfl' _)).mono ?_
  rintro e w2 ⟨rfl, hg2⟩
  have gA2 : Gr wA w2 := Gr.trans (show Gr wA _ by go_grown) hg2
  have g2 : Gr w w2 := gA.trans gA2
  clear x0 x1 x2 x3 y0 y1 y2 y3 hg2
  cases ff with
  | false =>
    have Hb := Lib.hid (HQ.out false w2 Hff.out g2)
    go_wp2_with fail
    exact Hb.out
  | true =>
    obtain ⟨⟨x0, x1, x2, x3⟩, _, _⟩ := (h3.out.gr gA2).parts
    obtain ⟨⟨y0, y1, y2, y3⟩, _, _⟩ := (h4.out.gr gA2).parts
    have Ho := Lib.hid (Hord.out w2 g2)
    go_wp2_with fail
    refine Ho.out.mono ?_
    rintro e w3 ⟨rfl, hg3⟩
    replace hg3 : Gr w2 w3 := hg3
    have Hb := Lib.hid (HQ.out true w3 Hff.out (g2.trans hg3))
    clear x0 x1 x2 x3 y0 y1 y2 y3
    go_wp2_with fail
    exact Hb.out

def oneArg (p : Tm) : VP := fun v w => ∃ B : Nat, v = .slice (some ⟨B, 0, none⟩) 1 1 ∧ Tm.Sl w (some ⟨B, 0, none⟩) 1 [p]
theorem oneArg_stable {p : Tm} : ∀ v w w', oneArg p v w → Gr w w' → oneArg p v w' := fun _ _ _ ⟨B, h1, h2⟩ g => ⟨B, h1, h2.mono g⟩
def intsArg (V : List Int) : VP := fun v w => ∃ pv c, v = .slice pv V.length c ∧ IntSl w pv c V
theorem intsArg_stable {V : List Int} : ∀ v w w', intsArg V v w → Gr w w' → intsArg V v w' := fun _ _ _ ⟨p, c, h1, h2⟩ g => ⟨p, c, h1, h2.mono g⟩
set_option maxHeartbeats 2000000 in
set_option maxRecDepth 100000 in
theorem rrename_calls (p : Tm) (d : Int) (w : World) (ip : p.In w) (fp : p.erase.formed = true) (hd : 0 ≤ d ∧ d ≤ 1099511627777) : Calls Try.prog 102 #[p.val, .int .i64 d] w (RetTm (w.heap.size ≤ ·) (T.map (swapF d (T.varsL [p.erase] [])) p.erase) w) := by
  have Ip := Lib.hid ip
  have hV : VarsOk (T.varsL [p.erase] []) := VarsOk.varsL [p.erase] VarsOk.nil (by rw [T.formedL, T.formedL, fp]; rfl)
  have hvars : Hid (∀ B W, Tm.Sl W (some ⟨B, 0, none⟩) 1 [p] → Calls Try.prog 100 #[.slice (some ⟨B, 0, none⟩) 1 1] W (RetInts (T.varsL [p.erase] []) W)) := fun B W h => by
    have := rvars_calls (some ⟨B, 0, none⟩) 1 [p] W h (fun x hx => by rw [List.mem_singleton] at hx; rw [hx]; exact fp)
    rwa [erase_one] at this
  have hswap := Lib.hid (fun W (g : Gr w W) pv c (h : IntSl W pv c (T.varsL [p.erase] [])) => show Calls Try.prog 154 #[.agg #[.int .i64 p.k, .int .i64 p.n, .string p.s, .slice p.p p.l.length p.c], .slice pv (T.varsL [p.erase] []).length c, .int .i64 d] W _ from swap_calls (t := p) (Tm.In_below g ip) fp h hV hd)
  have hR : Hid (∀ b : Tm, ∀ w', b.In w' → b.erase = T.map (swapF d (T.varsL [p.erase] [])) p.erase → Gr w w' → b.On (w.heap.size ≤ ·) → RetTm (w.heap.size ≤ ·) (T.map (swapF d (T.varsL [p.erase] [])) p.erase) w (.returned b.val) w') := fun b w' h1 h2 h3 h4 => ⟨b, h1, h2, rfl, h3, h4⟩
  generalize RetTm (w.heap.size ≤ ·) (T.map (swapF d (T.varsL [p.erase] [])) p.erase) w = Q at hR ⊢
  have HR := hR
  generalize T.varsL [p.erase] [] = V at *
  generalize T.map (swapF d V) p.erase = u at *
  clear ip fp hR hV
  rw [show p.val = .agg #[.int .i64 p.k, .int .i64 p.n, .string p.s, .slice p.p p.l.length p.c] from rfl]
  go_enter Try.func102, Try.ntmps102
  try simp only [List.append_eq, List.cons_append, List.nil_append]
  go_upto_region 1 with fail
  obtain ⟨h3, h4, gA⟩ := two_blocks w (.int .i64 p.k) (.int .i64 p.n) (.string p.s) (.slice p.p p.l.length p.c) (.int .i64 0) (.int .i64 0) (.string ⟨#[]⟩) (.slice none 0 0)
  generalize ((w.alloc (.cells #[.int .i64 p.k, .int .i64 p.n, .string p.s, .slice p.p p.l.length p.c] 25)).alloc (.cells #[.int .i64 0, .int .i64 0, .string ⟨#[]⟩, .slice none 0 0] 25)) = wA at *
  obtain ⟨⟨x0, x1, x2, x3⟩, _, _⟩ := h3.out.parts
  refine wp_region_rely_tail 6 [fx (.agg #[.int .i64 p.k, .int .i64 p.n, .string p.s, .slice p.p p.l.length p.c]), fx (.agg #[.int .i64 p.k, .int .i64 p.n, .string p.s, .slice p.p p.l.length p.c]), oneArg p, intsArg V, fx (.int .i64 d), tmIs (wA.heap.size ≤ ·) u]
    (by kernel_rfl) (by kernel_rfl) (by decide) (by repeat (first | exact Stable.nil | refine Stable.fix ?_ | refine Stable.cons oneArg_stable ?_ | refine Stable.cons intsArg_stable ?_ | refine Stable.cons tmIs_stable ?_)) ?_ ?_
  · refine ⟨?_, ?_, ?a2, ?a3, ?_, ?a5, trivial⟩
    all_goals
      intro a wz hg hold
      have h2 : a.tmps[2]?.getD undef = .pointer (some ⟨w.heap.size, 0, none⟩) := hold 2 rfl
      have h1 : a.tmps[1]?.getD undef = .int .i64 d := hold 1 rfl
      have z0 := Gr.at hg x0
      have z1 := Gr.at hg x1
      have z2 := Gr.at hg x2
      have z3 := Gr.at hg x3
      have Hg := Lib.hid (show Gr wA wz from hg)
      clear hold x0 x1 x2 x3
      simp [predsImp, Region.binds, dstAt, fx]
      intros
      first
        | (rw [if_pos (by simp [*])]
           intro K hK)
        | (rename_i K hK)
      go_simp
    case a2 =>
      exact hK _ _ ⟨wz.heap.size, rfl, one_new (Tm.In_below (gA.trans Hg.out) Ip.out) (Gr.rfl' _)⟩ (by go_grown)
    case a3 =>
      obtain ⟨B, hB, hs⟩ := ‹oneArg _ _ _›
      go_simp
      refine (hvars.out B wz hs).mono ?_
      rintro e w9 ⟨pv, c, rfl, hi, g9⟩
      exact hK _ _ ⟨pv, c, rfl, hi⟩ g9
    case a5 =>
      obtain ⟨pv, c, hv, hi⟩ := ‹intsArg _ _ _›
      go_simp
      refine (hswap.out wz (gA.trans Hg.out) pv c hi).mono ?_
      rintro e w9 ⟨b, i1, i2, rfl, g9, o9⟩
      exact hK _ _ ⟨b, rfl, i1, i2, o9.mono fun x hx => Nat.le_trans Hg.out.size hx⟩ g9
    all_goals exact hK _ _ rfl (Gr.rfl' _)

  · intro w9 hg
    rintro _ rfl _ rfl _ ⟨B, rfl, -⟩ _ ⟨pv, c, rfl, -⟩ _ rfl _ ⟨b, rfl, ib, eb, ob⟩
    simp only [finAll, Act.put, List.setIfInBounds_toArray, List.set_cons_succ, List.set_cons_zero, List.drop_succ_cons, List.drop_zero, List.take_zero]
    have g9 : Gr w w9 := gA.trans hg
    have k4 := h4.out.gr hg
    obtain ⟨⟨y0, y1, y2, y3⟩, ⟨f0, f1, f2, f3⟩, sz4⟩ := k4.parts
    have hs0 : w.heap.size + 1 < wA.heap.size := h4.out.parts.2.2
    have kk := Kp.sets (C := (· = w.heap.size + 1)) (w := w9) (b := w.heap.size + 1) rfl (.int .i64 b.k) (.int .i64 b.n) (.string b.s) (.slice b.p b.l.length b.c)
    have Hb := Lib.hid (HR.out b _ (kp_in ib ob (fun x hx e => by have : wA.heap.size ≤ x := hx; omega) kk) eb (Below.trans g9 (kk.below (fun x hx => by omega) g9.size)) (ob.mono fun x hx => by have : wA.heap.size ≤ x := hx; omega))
    clear x0 x1 x2 x3 kk ib eb ob k4
    rw [show b.val = .agg #[.int .i64 b.k, .int .i64 b.n, .string b.s, .slice b.p b.l.length b.c] from rfl]
    go_wp2_with fail
    exact bodyPost_ret (v := b.val) (by simp (maxDischargeDepth := 9) [results, Try.results102, go_sem, Tm.val, y0, y1, y2, y3]) rfl Hb.out
end Go.Proofs.Ytcblmkhhhibddaa
