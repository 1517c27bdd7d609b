/-
  base.body: the other kinds
-/
import Derived.Test.YtgaijgadeodoeaaVA
namespace Go.Proofs.Ytgaijgadeodoeaa
open Go.RowKit

/-- A new slice of two terms. -/
theorem two_new {t u : Tm} {w w' : World} (ht : t.In w) (hu : u.In w)
    (hg : Gr (w.alloc (.cells #[.int .i64 t.k, .int .i64 t.n, .string t.s, .slice t.p t.l.length t.c, .int .i64 u.k, .int .i64 u.n, .string u.s, .slice u.p u.l.length u.c] 28)) w') : Tm.Sl w' (some ⟨w.heap.size, 0, none⟩) 2 [t, u] := by
  have hb : w'.heap[w.heap.size]? = some (.cells #[.int .i64 t.k, .int .i64 t.n, .string t.s, .slice t.p t.l.length t.c, .int .i64 u.k, .int .i64 u.n, .string u.s, .slice u.p u.l.length u.c] 28) :=
    (hg.block w.heap.size (by simp)).trans (heap_alloc_new w _)
  have hw : Gr w w' := below_step hg (by go_grown)
  exact two_row (Tm.In_below hw ht) (Tm.In_below hw hu) (cell_of_row _ _ 0 _ _ _ hb) (cell_of_row _ _ 1 _ _ _ hb) (cell_of_row _ _ 2 _ _ _ hb) (cell_of_row _ _ 3 _ _ _ hb) (cell_of_row _ _ 4 _ _ _ hb) (cell_of_row _ _ 5 _ _ _ hb) (cell_of_row _ _ 6 _ _ _ hb) (cell_of_row _ _ 7 _ _ _ hb)

set_option maxHeartbeats 2000000 in
set_option maxRecDepth 100000 in
theorem body_walk_int (n : Int) (s : ByteArray) (p : Option Addr) (c : Nat) (l : List Tm) (S : Nat → Prop) (w : World) :
    Calls Try.prog 82 #[(Tm.mk 2 n s p c l).val] w (RetBody S none w) := by
  have hR : Hid (∀ w', Gr w w' → RetBody S none w (.returned (.tuple #[zeroTm.val, .bool false])) w') := fun w' hg => ⟨zeroTm, false, rfl, zeroTm_in _, rfl, (fun u hu => by cases hu), hg, (by rw [zeroTm, Tm.On, Tm.OnL]; exact ⟨.inl rfl, trivial⟩)⟩
  generalize hQ : RetBody S none w = Q at hR ⊢
  clear hQ
  simp only [tm_val]
  go_enter Try.func82, Try.ntmps82
  go_wp2_with fail
  refine bodyPost_ret (v := .tuple #[zeroTm.val, .bool false]) (by simp (maxDischargeDepth := 9) [results, Try.results82, go_sem, zeroTm, Tm.val, Tm.k, Tm.n, Tm.s, Tm.p, Tm.c, Tm.l]) rfl ?_
  exact hR.out _ (by go_grown)

set_option maxHeartbeats 4000000 in
set_option maxRecDepth 100000 in
theorem body_walk_rest (t : Tm) (hk1 : t.k ≠ 1) (hk2 : t.k ≠ 2) (ih : ∀ x ∈ t.l, bodyOf x) (S : Nat → Prop) (w : World) (hin : t.In w) (hfm : t.erase.formed = true) (hon : t.On S) (hS : ∀ b, S b → b < w.heap.size) :
    Calls Try.prog 82 #[t.val] w (RetBody S (T.body t.erase) w) := by
  have Hin := Lib.hid hin
  have Hon := Lib.hid hon
  have HS := Lib.hid hS
  have Hih := Lib.hid ih
  have Hfm := Lib.hid hfm
  have Hk := Lib.hid (And.intro hk1 hk2)
  have hk1' : (t.k == 1) = false := beq_eq_false_iff_ne.2 hk1
  have hk2' : (t.k == 2) = false := beq_eq_false_iff_ne.2 hk2
  generalize hQ : RetBody S (T.body t.erase) w = Q
  have HQ := Lib.hid hQ
  clear hQ hin hon hS ih hfm hk1 hk2
  have hv : t.val = .agg #[.int .i64 t.k, .int .i64 t.n, .string t.s, .slice t.p t.l.length t.c] := rfl
  have HV := Lib.hid hv
  rw [hv]
  clear hv
  go_enter Try.func82, Try.ntmps82
  try simp only [List.append_eq, List.cons_append, List.nil_append]
  go_upto_region 1 with fail
  obtain ⟨HB, HR, gA⟩ := two_blocks w (.int .i64 t.k) (.int .i64 t.n) (.string t.s) (.slice t.p t.l.length t.c) (.int .i64 0) (.int .i64 0) (.string ⟨#[]⟩) (.slice none 0 0)
  generalize (w.alloc (.cells #[.int .i64 t.k, .int .i64 t.n, .string t.s, .slice t.p t.l.length t.c] 28)).alloc (.cells #[.int .i64 0, .int .i64 0, .string ⟨#[]⟩, .slice none 0 0] 28) = wA at *
  obtain ⟨⟨b0, b1, b2, b3⟩, _, _⟩ := HB.out.parts
  go_upto_region 5 with fail
  clear b0 b1 b2 b3
  go_cut [20] from 20 to 33 (fun c wx => c = .bool (!t.erase.joins) ∧ Gr wA wx)
  case first =>
    obtain ⟨⟨b0, b1, b2, b3⟩, _, _⟩ := HB.out.parts
    have hj : t.erase.joins = (t.erase.isOf [44] 2 || t.erase.isOf [59] 2 || t.erase.isOf [45, 62] 2) := rfl
    have HJ := Lib.hid hj
    clear hj
    have h44 := Lib.hid (show t.erase.isOf (ByteArray.mk #[44]).toList 2 = t.erase.isOf [44] 2 by rw [bl44])
    have h59 := Lib.hid (show t.erase.isOf (ByteArray.mk #[59]).toList 2 = t.erase.isOf [59] 2 by rw [bl59])
    have h62 := Lib.hid (show t.erase.isOf (ByteArray.mk #[45, 62]).toList 2 = t.erase.isOf [45, 62] 2 by rw [bl4562])
    have gX : Gr wA wA := Gr.rfl' wA
    generalize t.erase.isOf [44] 2 = j1 at *
    generalize t.erase.isOf [59] 2 = j2 at *
    generalize t.erase.isOf [45, 62] 2 = j3 at *
    cases j1 <;> cases j2 <;> cases j3
    all_goals
      go_wp2_with (first
        | (go_at_call 65; rewrite [← HV.out]; refine (is_calls _ _ _ _).mono ?_; rintro e w' ⟨rfl, hb⟩; (first | rewrite [h44.out] | rewrite [h59.out] | rewrite [h62.out]); replace HB := Lib.hid (HB.out.gr hb); replace gX := Gr.trans gX hb; clear b0 b1 b2 b3; obtain ⟨⟨b0, b1, b2, b3⟩, _, _⟩ := HB.out.parts; clear hb)
        | fail)
      go_meet
      exact ⟨by rw [HJ.out]; rfl, gX⟩
  case rest =>
    obtain ⟨rfl, gx⟩ := hcut
    have HB2 := Lib.hid (HB.out.gr gx)
    have HR2 := Lib.hid (HR.out.gr gx)
    have g2 : Gr w wc := gA.trans gx
    have hws : w.heap.size + 2 ≤ wc.heap.size := by have h1 := HR2.out.parts.2.2; omega
    clear HB HR gx gA
    obtain ⟨⟨b0, b1, b2, b3⟩, _, _⟩ := HB2.out.parts
    obtain ⟨⟨y0, y1, y2, y3⟩, ⟨f0, f1, f2, f3⟩, hlt⟩ := HR2.out.parts
    cases hj : t.erase.joins with
    | false =>
      have hbd : Hid (T.body t.erase = some t.erase) := by
        obtain ⟨k, n, s, p, c, l⟩ := t
        exact body_plain Hk.out.1 Hk.out.2 hj
      go_wp2_with fail
      refine bodyPost_ret (v := .tuple #[t.val, .bool true]) (by simp (maxDischargeDepth := 9) [results, Try.results82, go_sem, Tm.val, y0, y1, y2, y3]) rfl ?_
      rw [← HQ.out, hbd.out]
      have hg : Gr w ((((wc.setCell ⟨w.heap.size + 1, 0, none⟩ (.int .i64 t.k)).setCell ⟨w.heap.size + 1, 1, none⟩ (.int .i64 t.n)).setCell ⟨w.heap.size + 1, 2, none⟩ (.string t.s)).setCell ⟨w.heap.size + 1, 3, none⟩ (.slice t.p t.l.length t.c)) := by go_grown
      exact ⟨t, true, rfl, Tm.In_below hg Hin.out, rfl, (fun u hu => by cases hu; rfl), hg, Hon.out.mono fun b hb => .inl hb⟩
    | true =>
      obtain ⟨x, y, hl⟩ : ∃ x y, t.l = [x, y] := by
        obtain ⟨k, n, s, X, Y, he⟩ := joins_two hj
        obtain ⟨k', n', s', p', c', l'⟩ := t
        rw [Tm.erase] at he
        injection he with _ _ _ he
        match l', he with
        | [x, y], _ => exact ⟨x, y, rfl⟩
        | [], he => rw [Tm.eraseL] at he; cases he
        | [_], he => rw [Tm.eraseL, Tm.eraseL] at he; cases he
        | _ :: _ :: _ :: _, he => rw [Tm.eraseL, Tm.eraseL, Tm.eraseL] at he; cases he
      have HJ := Lib.hid hj
      clear hj
      obtain ⟨k, n, s, p, c, l⟩ := t
      simp only [Tm.l] at hl
      subst hl
      simp only [Tm.k, Tm.n, Tm.s, Tm.p, Tm.c, Tm.l] at *
      have hsl := Lib.hid Hin.out.sl
      have hsz : s.size ≤ 140737488351232 := by have h := Hin.out; rw [Tm.In] at h; exact h.2.2.1
      have hbd := Lib.hid (body_joins (n := n) (x := x.erase) (y := y.erase) Hk.out.1 Hk.out.2 (by have := HJ.out; rw [Tm.erase, Tm.eraseL, Tm.eraseL, Tm.eraseL] at this; exact this))
      obtain ⟨b, o, rfl⟩ := hsl.out.ptr (by simp)
      obtain ⟨⟨x0, x1, x2, x3⟩, hxi, _⟩ := (hsl.out.mono g2).elem 0 (by simp)
      obtain ⟨⟨z0, z1, z2, z3⟩, hyi, _⟩ := (hsl.out.mono g2).elem 1 (by simp)
      simp only [List.getElem_cons_zero, List.getElem_cons_succ, Nat.zero_mul, Nat.add_zero, Nat.one_mul] at x0 x1 x2 x3 z0 z1 z2 z3 hxi hyi
      have hon2 := Hon.out
      rw [Tm.On, Tm.OnL, Tm.OnL] at hon2
      have hfm2 := formed_two_inv (x := x.erase) (y := y.erase) (by have := Hfm.out; rw [Tm.erase, Tm.eraseL, Tm.eraseL, Tm.eraseL] at this; exact this)
      have Hxi := Lib.hid hxi
      have Hyi := Lib.hid hyi
      have Hxo := Lib.hid hon2.2.1
      have Hyo := Lib.hid hon2.2.2.1
      have Hxf := Lib.hid hfm2.2.2.2.1
      have Hyf := Lib.hid hfm2.2.2.2.2
      have Hix := Lib.hid (Hih.out x (by simp))
      have Hiy := Lib.hid (Hih.out y (by simp))
      have Hxv := Lib.hid (show x.val = .agg #[.int .i64 x.k, .int .i64 x.n, .string x.s, .slice x.p x.l.length x.c] from rfl)
      have Hyv := Lib.hid (show y.val = .agg #[.int .i64 y.k, .int .i64 y.n, .string y.s, .slice y.p y.l.length y.c] from rfl)
      clear hxi hyi hon2 hfm2
      go_upto_region 8 with (first
        | (go_at_call 82; rewrite [← Hxv.out]; refine (Hix.out S wc Hxi.out Hxf.out Hxo.out (fun b hb => Nat.lt_of_lt_of_le (HS.out b hb) g2.size)).mono ?_; rintro e w3 ⟨am, ok1, rfl, hai, hao, hau, hga, haon⟩; have Hai := Lib.hid hai; have Hao := Lib.hid hao; have Hau := Lib.hid hau; have Haon := Lib.hid haon; clear hai hao hau haon; obtain ⟨ka, na, sa, pa, ca, la⟩ := am; rewrite [tm_val])
        | fail)
      have hAb := Blk4.new w3 (.int .i64 ka) (.int .i64 na) (.string sa) (.slice pa la.length ca)
      have g4' : Gr w3 (w3.alloc (.cells #[.int .i64 ka, .int .i64 na, .string sa, .slice pa la.length ca] 28)) := by go_grown
      have hs4 : (w3.alloc (.cells #[.int .i64 ka, .int .i64 na, .string sa, .slice pa la.length ca] 28)).heap.size = w3.heap.size + 1 := by simp
      generalize w3.alloc (.cells #[.int .i64 ka, .int .i64 na, .string sa, .slice pa la.length ca] 28) = w4 at *
      have g24 : Gr wc w4 := hga.trans g4'
      have g4 : Gr w w4 := g2.trans g24
      have HB4 := Lib.hid (HB2.out.gr g24)
      have HR4 := Lib.hid (HR2.out.gr g24)
      have HA4 := Lib.hid hAb
      replace z0 := Gr.at g24 z0
      replace z1 := Gr.at g24 z1
      replace z2 := Gr.at g24 z2
      replace z3 := Gr.at g24 z3
      have hs3 := hga.size
      have hs4' : w3.heap.size ≤ w4.heap.size := by omega
      clear hs4
      have Hai4 := Lib.hid (Tm.In_below g4' Hai.out)
      clear b0 b1 b2 b3 y0 y1 y2 y3 f0 f1 f2 f3 x0 x1 x2 x3 hAb hga g4' HB2 HR2 hlt
      obtain ⟨⟨b0, b1, b2, b3⟩, _, _⟩ := HB4.out.parts
      go_upto_region 9 with (first
        | (go_at_call 82; rewrite [← Hyv.out]; refine (Hiy.out S w4 (Tm.In_below g24 Hyi.out) Hyf.out Hyo.out (fun b hb => Nat.lt_of_lt_of_le (HS.out b hb) g4.size)).mono ?_; rintro e w5 ⟨bm, ok2, rfl, hbi, hbo, hbu, hgb, hbon⟩; have Hbi := Lib.hid hbi; have Hbo := Lib.hid hbo; have Hbu := Lib.hid hbu; have Hbon := Lib.hid hbon; clear hbi hbo hbu hbon; obtain ⟨kb, nb, sb, pb, cb, lb⟩ := bm; rewrite [tm_val])
        | fail)
      have hBb := Blk4.new w5 (.int .i64 kb) (.int .i64 nb) (.string sb) (.slice pb lb.length cb)
      have g6' : Gr w5 (w5.alloc (.cells #[.int .i64 kb, .int .i64 nb, .string sb, .slice pb lb.length cb] 28)) := by go_grown
      have hs6 : (w5.alloc (.cells #[.int .i64 kb, .int .i64 nb, .string sb, .slice pb lb.length cb] 28)).heap.size = w5.heap.size + 1 := by simp
      generalize w5.alloc (.cells #[.int .i64 kb, .int .i64 nb, .string sb, .slice pb lb.length cb] 28) = w6 at *
      have g46 : Gr w4 w6 := hgb.trans g6'
      have g6 : Gr w w6 := g4.trans g46
      have HB6 := Lib.hid (HB4.out.gr g46)
      have HR6 := Lib.hid (HR4.out.gr g46)
      have HA6 := Lib.hid (HA4.out.gr g46)
      have HBb6 := Lib.hid hBb
      have hs5 := hgb.size
      have hs6' : w5.heap.size ≤ w6.heap.size := by omega
      clear hs6
      have Hai6 := Lib.hid (Tm.In_below g46 Hai4.out)
      have Hbi6 := Lib.hid (Tm.In_below g6' Hbi.out)
      have hlt6 := HR6.out.parts.2.2
      clear b0 b1 b2 b3 z0 z1 z2 z3 hBb hgb g6' HB4 HR4 HA4
      obtain ⟨⟨b0, b1, b2, b3⟩, _, _⟩ := HB6.out.parts
      obtain ⟨⟨p0, p1, p2, p3⟩, _, _⟩ := HA6.out.parts
      obtain ⟨⟨q0, q1, q2, q3⟩, _, _⟩ := HBb6.out.parts
      have hres : Hid (∀ w', Gr (w6.alloc (.cells #[.int .i64 ka, .int .i64 na, .string sa, .slice pa la.length ca, .int .i64 kb, .int .i64 nb, .string sb, .slice pb lb.length cb] 28)) w' → Q (.returned (.tuple #[(compTm s (some ⟨w6.heap.size, 0, none⟩) 2 [.mk ka na sa pa ca la, .mk kb nb sb pb cb lb]).val, .bool (ok1 && ok2)])) ((((w'.setCell ⟨w.heap.size + 1, 0, none⟩ (.int .i64 4)).setCell ⟨w.heap.size + 1, 1, none⟩ (.int .i64 0)).setCell ⟨w.heap.size + 1, 2, none⟩ (.string s)).setCell ⟨w.heap.size + 1, 3, none⟩ (.slice (some ⟨w6.heap.size, 0, none⟩) 2 2))) := by
        intro w' hb
        have hsl2 := two_new (t := .mk ka na sa pa ca la) (u := .mk kb nb sb pb cb lb) Hai6.out Hbi6.out hb
        have gw : Gr w w' := g6.trans (below_step hb (by go_grown))
        have hS' : ∀ b, S b → b < w.heap.size := HS.out
        have hg : Gr w ((((w'.setCell ⟨w.heap.size + 1, 0, none⟩ (.int .i64 4)).setCell ⟨w.heap.size + 1, 1, none⟩ (.int .i64 0)).setCell ⟨w.heap.size + 1, 2, none⟩ (.string s)).setCell ⟨w.heap.size + 1, 3, none⟩ (.slice (some ⟨w6.heap.size, 0, none⟩) 2 2)) := by go_grown
        have hon : (compTm s (some ⟨w6.heap.size, 0, none⟩) 2 [.mk ka na sa pa ca la, .mk kb nb sb pb cb lb]).On fun b => S b ∨ w.heap.size + 2 ≤ b := by
          rw [compTm, Tm.On, Tm.OnL, Tm.OnL, Tm.OnL]
          exact ⟨.inr ⟨_, _, rfl, .inr (by omega)⟩, Haon.out.mono fun b hb => hb.imp id fun h => by omega, Hbon.out.mono fun b hb => hb.imp id fun h => by omega, trivial⟩
        rw [← HQ.out]
        refine ⟨_, _, rfl, ?_, ?_, ?_, hg, hon.mono fun b hb => hb.imp id fun h => by omega⟩
        · exact in_after' (compTm_in hsz hsl2) hon fun b h1 h2 o => by
            have : b ≠ w.heap.size + 1 := by
              rcases h1 with h1 | h1
              · have := hS' b h1; omega
              · omega
            rw [cell_set_ne this, cell_set_ne this, cell_set_ne this, cell_set_ne this]
        · rw [Tm.erase, Tm.eraseL, Tm.eraseL, Tm.eraseL, hbd.out, Hao.out, Hbo.out]
          cases T.body x.erase <;> cases T.body y.erase <;> rfl
        · intro u hu
          rw [Tm.erase, Tm.eraseL, Tm.eraseL, Tm.eraseL, hbd.out] at hu
          cases ha : T.body x.erase with
          | none => rw [ha] at hu; cases hu
          | some a =>
            cases hc : T.body y.erase with
            | none => rw [ha, hc] at hu; cases hu
            | some e =>
              rw [ha, hc] at hu
              cases hu
              rw [compTm, Tm.erase, Tm.eraseL, Tm.eraseL, Tm.eraseL, Hau.out a ha, Hbu.out e hc]
              rfl
      cases ok1 <;> cases ok2
      all_goals
        go_wp2_with (first
          | (go_at_call 73; refine (comp_calls _ _ _ _ _).mono ?_; rintro e w' ⟨rfl, hb⟩; have hfin := Lib.hid (hres.out w' hb); have gb : Gr w6 w' := below_step hb (by go_grown); obtain ⟨⟨y0, y1, y2, y3⟩, ⟨f0, f1, f2, f3⟩, hlt⟩ := (HR6.out.gr gb).parts; clear hb b0 b1 b2 b3 p0 p1 p2 p3 q0 q1 q2 q3)
          | fail)
        exact bodyPost_ret (by simp (maxDischargeDepth := 9) [results, Try.results82, go_sem, compTm, Tm.val, Tm.k, Tm.n, Tm.s, Tm.p, Tm.c, Tm.l, y0, y1, y2, y3]) rfl hfin.out

theorem body_any (NN : Nat) : ∀ t : Tm, SizeOf.sizeOf t ≤ NN → bodyOf t := by
  induction NN with
  | zero => intro t h; cases t; simp at h
  | succ NN ih =>
    intro t hN S w hin hfm hon hS
    by_cases hk1 : t.k = 1
    · obtain ⟨k, n, s, p, c, l⟩ := t
      obtain rfl : k = 1 := hk1
      have := body_walk_var n s p c l S w hin hon hS
      rw [Tm.erase] at this ⊢
      rw [body_var]
      exact this
    by_cases hk2 : t.k = 2
    · obtain ⟨k, n, s, p, c, l⟩ := t
      obtain rfl : k = 2 := hk2
      rw [Tm.erase, body_int]
      exact body_walk_int n s p c l S w
    refine body_walk_rest t hk1 hk2 (fun x hx => ih x ?_) S w hin hfm hon hS
    obtain ⟨k, n, s, p, c, l⟩ := t
    have := Tm.sizeOf_mem (l := l) hx k n s p c
    omega

theorem body_calls {t : Tm} {S : Nat → Prop} {w : World} (h : t.In w) (hf : t.erase.formed = true) (hon : t.On S) (hS : ∀ b, S b → b < w.heap.size) : Calls Try.prog 82 #[t.val] w (RetBody S (T.body t.erase) w) := body_any _ t (Nat.le_refl _) S w h hf hon hS
end Go.Proofs.Ytgaijgadeodoeaa
