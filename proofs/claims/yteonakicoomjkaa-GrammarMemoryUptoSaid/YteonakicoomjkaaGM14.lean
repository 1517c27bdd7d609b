/-
  base.body: the other kinds
  base.Body
  grammar: fail, behind, anew, both, equal.
-/
import Derived.Test.YteonakicoomjkaaGM06
import Derived.Test.YteonakicoomjkaaGM12
import Derived.Test.YteonakicoomjkaaGM13
namespace Go.Proofs.Yteonakicoomjkaa
open Go.RowKit

/-- A new slice of two terms. -/
theorem two_new {t u : Tm} {w w' : World} (ht : t.In w) (hu : u.In w)
    (hg : Gr (w.alloc (.cells #[.int .i64 t.k, .int .i64 t.n, .string t.s, .slice t.p t.l.length t.c, .int .i64 u.k, .int .i64 u.n, .string u.s, .slice u.p u.l.length u.c] 24)) w') : Tm.Sl w' (some ⟨w.heap.size, 0, none⟩) 2 [t, u] := by
  have hb : w'.heap[w.heap.size]? = some (.cells #[.int .i64 t.k, .int .i64 t.n, .string t.s, .slice t.p t.l.length t.c, .int .i64 u.k, .int .i64 u.n, .string u.s, .slice u.p u.l.length u.c] 24) :=
    (hg.block w.heap.size (by simp)).trans (heap_alloc_new w _)
  have hw : Gr w w' := below_step hg (by go_grown)
  exact two_row (Tm.In_below hw ht) (Tm.In_below hw hu) (cell_of_row _ _ 0 _ _ _ hb) (cell_of_row _ _ 1 _ _ _ hb) (cell_of_row _ _ 2 _ _ _ hb) (cell_of_row _ _ 3 _ _ _ hb) (cell_of_row _ _ 4 _ _ _ hb) (cell_of_row _ _ 5 _ _ _ hb) (cell_of_row _ _ 6 _ _ _ hb) (cell_of_row _ _ 7 _ _ _ hb)

set_option maxHeartbeats 2000000 in
set_option maxRecDepth 100000 in
theorem body_walk_int (n : Int) (s : ByteArray) (p : Option Addr) (c : Nat) (l : List Tm) (S : Nat → Prop) (w : World) :
    Calls Try.prog 93 #[(Tm.mk 2 n s p c l).val] w (RetBody S none w) := by
  have hR : Hid (∀ w', Gr w w' → RetBody S none w (.returned (.tuple #[zeroTm.val, .bool false])) w') := fun w' hg => ⟨zeroTm, false, rfl, zeroTm_in _, rfl, (fun u hu => by cases hu), hg, (by rw [zeroTm, Tm.On, Tm.OnL]; exact ⟨.inl rfl, trivial⟩)⟩
  generalize hQ : RetBody S none w = Q at hR ⊢
  clear hQ
  simp only [tm_val]
  go_enter Try.func93, Try.ntmps93
  go_wp2_with fail
  refine bodyPost_ret (v := .tuple #[zeroTm.val, .bool false]) (by simp (maxDischargeDepth := 9) [results, Try.results93, go_sem, zeroTm, Tm.val, Tm.k, Tm.n, Tm.s, Tm.p, Tm.c, Tm.l]) rfl ?_
  exact hR.out _ (by go_grown)

set_option maxHeartbeats 4000000 in
set_option maxRecDepth 100000 in
theorem body_walk_rest (t : Tm) (hk1 : t.k ≠ 1) (hk2 : t.k ≠ 2) (ih : ∀ x ∈ t.l, bodyOf x) (S : Nat → Prop) (w : World) (hin : t.In w) (hfm : t.erase.formed = true) (hon : t.On S) (hS : ∀ b, S b → b < w.heap.size) :
    Calls Try.prog 93 #[t.val] w (RetBody S (T.body t.erase) w) := by
  have Hin := Lib.hid hin
  have Hon := Lib.hid hon
  have HS := Lib.hid hS
  have Hih := Lib.hid ih
  have Hfm := Lib.hid hfm
  have Hk := Lib.hid (And.intro hk1 hk2)
  have hk1' : (t.k == 1) = false := beq_eq_false_iff_ne.2 hk1
  have hk2' : (t.k == 2) = false := beq_eq_false_iff_ne.2 hk2
  generalize hQ : RetBody S (T.body t.erase) w = Q
  have HQ := Lib.hid hQ
  clear hQ hin hon hS ih hfm hk1 hk2
  have hv : t.val = .agg #[.int .i64 t.k, .int .i64 t.n, .string t.s, .slice t.p t.l.length t.c] := rfl
  have HV := Lib.hid hv
  rw [hv]
  clear hv
  go_enter Try.func93, Try.ntmps93
  try simp only [List.append_eq, List.cons_append, List.nil_append]
  go_upto_region 1 with fail
  obtain ⟨HB, HR, gA⟩ := two_blocks w (.int .i64 t.k) (.int .i64 t.n) (.string t.s) (.slice t.p t.l.length t.c) (.int .i64 0) (.int .i64 0) (.string ⟨#[]⟩) (.slice none 0 0)
  generalize (w.alloc (.cells #[.int .i64 t.k, .int .i64 t.n, .string t.s, .slice t.p t.l.length t.c] 24)).alloc (.cells #[.int .i64 0, .int .i64 0, .string ⟨#[]⟩, .slice none 0 0] 24) = wA at *
  obtain ⟨⟨b0, b1, b2, b3⟩, _, _⟩ := HB.out.parts
  go_upto_region 5 with fail
  clear b0 b1 b2 b3
  go_cut [20] from 20 to 33 (fun c wx => c = .bool (!t.erase.joins) ∧ Gr wA wx)
  case first =>
    obtain ⟨⟨b0, b1, b2, b3⟩, _, _⟩ := HB.out.parts
    have hj : t.erase.joins = (t.erase.isOf [44] 2 || t.erase.isOf [59] 2 || t.erase.isOf [45, 62] 2) := rfl
    have HJ := Lib.hid hj
    clear hj
    have h44 := Lib.hid (show t.erase.isOf (ByteArray.mk #[44]).toList 2 = t.erase.isOf [44] 2 by rw [bl44])
    have h59 := Lib.hid (show t.erase.isOf (ByteArray.mk #[59]).toList 2 = t.erase.isOf [59] 2 by rw [bl59])
    have h62 := Lib.hid (show t.erase.isOf (ByteArray.mk #[45, 62]).toList 2 = t.erase.isOf [45, 62] 2 by rw [bl4562])
    have gX : Gr wA wA := Gr.rfl' wA
    generalize t.erase.isOf [44] 2 = j1 at *
    generalize t.erase.isOf [59] 2 = j2 at *
    generalize t.erase.isOf [45, 62] 2 = j3 at *
    cases j1 <;> cases j2 <;> cases j3
    all_goals
      go_wp2_with (first
        | (go_at_call 76; rewrite [← HV.out]; refine (is_calls _ _ _ _).mono ?_; rintro e w' ⟨rfl, hb⟩; (first | rewrite [h44.out] | rewrite [h59.out] | rewrite [h62.out]); replace HB := Lib.hid (HB.out.gr hb); replace gX := Gr.trans gX hb; clear b0 b1 b2 b3; obtain ⟨⟨b0, b1, b2, b3⟩, _, _⟩ := HB.out.parts; clear hb)
        | fail)
      go_meet
      exact ⟨by rw [HJ.out]; rfl, gX⟩
  case rest =>
    obtain ⟨rfl, gx⟩ := hcut
    have HB2 := Lib.hid (HB.out.gr gx)
    have HR2 := Lib.hid (HR.out.gr gx)
    have g2 : Gr w wc := gA.trans gx
    have hws : w.heap.size + 2 ≤ wc.heap.size := by have h1 := HR2.out.parts.2.2; omega
    clear HB HR gx gA
    obtain ⟨⟨b0, b1, b2, b3⟩, _, _⟩ := HB2.out.parts
    obtain ⟨⟨y0, y1, y2, y3⟩, ⟨f0, f1, f2, f3⟩, hlt⟩ := HR2.out.parts
    cases hj : t.erase.joins with
    | false =>
      have hbd : Hid (T.body t.erase = some t.erase) := by
        obtain ⟨k, n, s, p, c, l⟩ := t
        exact body_plain Hk.out.1 Hk.out.2 hj
      go_wp2_with fail
      refine bodyPost_ret (v := .tuple #[t.val, .bool true]) (by simp (maxDischargeDepth := 9) [results, Try.results93, go_sem, Tm.val, y0, y1, y2, y3]) rfl ?_
      rw [← HQ.out, hbd.out]
      have hg : Gr w ((((wc.setCell ⟨w.heap.size + 1, 0, none⟩ (.int .i64 t.k)).setCell ⟨w.heap.size + 1, 1, none⟩ (.int .i64 t.n)).setCell ⟨w.heap.size + 1, 2, none⟩ (.string t.s)).setCell ⟨w.heap.size + 1, 3, none⟩ (.slice t.p t.l.length t.c)) := by go_grown
      exact ⟨t, true, rfl, Tm.In_below hg Hin.out, rfl, (fun u hu => by cases hu; rfl), hg, Hon.out.mono fun b hb => .inl hb⟩
    | true =>
      obtain ⟨x, y, hl⟩ : ∃ x y, t.l = [x, y] := by
        obtain ⟨k, n, s, X, Y, he⟩ := joins_two hj
        obtain ⟨k', n', s', p', c', l'⟩ := t
        rw [Tm.erase] at he
        injection he with _ _ _ he
        match l', he with
        | [x, y], _ => exact ⟨x, y, rfl⟩
        | [], he => rw [Tm.eraseL] at he; cases he
        | [_], he => rw [Tm.eraseL, Tm.eraseL] at he; cases he
        | _ :: _ :: _ :: _, he => rw [Tm.eraseL, Tm.eraseL, Tm.eraseL] at he; cases he
      have HJ := Lib.hid hj
      clear hj
      obtain ⟨k, n, s, p, c, l⟩ := t
      simp only [Tm.l] at hl
      subst hl
      simp only [Tm.k, Tm.n, Tm.s, Tm.p, Tm.c, Tm.l] at *
      have hsl := Lib.hid Hin.out.sl
      have hsz : s.size ≤ 140737488351232 := by have h := Hin.out; rw [Tm.In] at h; exact h.2.2.1
      have hbd := Lib.hid (body_joins (n := n) (x := x.erase) (y := y.erase) Hk.out.1 Hk.out.2 (by have := HJ.out; rw [Tm.erase, Tm.eraseL, Tm.eraseL, Tm.eraseL] at this; exact this))
      obtain ⟨b, o, rfl⟩ := hsl.out.ptr (by simp)
      obtain ⟨⟨x0, x1, x2, x3⟩, hxi, _⟩ := (hsl.out.mono g2).elem 0 (by simp)
      obtain ⟨⟨z0, z1, z2, z3⟩, hyi, _⟩ := (hsl.out.mono g2).elem 1 (by simp)
      simp only [List.getElem_cons_zero, List.getElem_cons_succ, Nat.zero_mul, Nat.add_zero, Nat.one_mul] at x0 x1 x2 x3 z0 z1 z2 z3 hxi hyi
      have hon2 := Hon.out
      rw [Tm.On, Tm.OnL, Tm.OnL] at hon2
      have hfm2 := formed_two_inv (x := x.erase) (y := y.erase) (by have := Hfm.out; rw [Tm.erase, Tm.eraseL, Tm.eraseL, Tm.eraseL] at this; exact this)
      have Hxi := Lib.hid hxi
      have Hyi := Lib.hid hyi
      have Hxo := Lib.hid hon2.2.1
      have Hyo := Lib.hid hon2.2.2.1
      have Hxf := Lib.hid hfm2.2.2.2.1
      have Hyf := Lib.hid hfm2.2.2.2.2
      have Hix := Lib.hid (Hih.out x (by simp))
      have Hiy := Lib.hid (Hih.out y (by simp))
      have Hxv := Lib.hid (show x.val = .agg #[.int .i64 x.k, .int .i64 x.n, .string x.s, .slice x.p x.l.length x.c] from rfl)
      have Hyv := Lib.hid (show y.val = .agg #[.int .i64 y.k, .int .i64 y.n, .string y.s, .slice y.p y.l.length y.c] from rfl)
      clear hxi hyi hon2 hfm2
      go_upto_region 8 with (first
        | (go_at_call 93; rewrite [← Hxv.out]; refine (Hix.out S wc Hxi.out Hxf.out Hxo.out (fun b hb => Nat.lt_of_lt_of_le (HS.out b hb) g2.size)).mono ?_; rintro e w3 ⟨am, ok1, rfl, hai, hao, hau, hga, haon⟩; have Hai := Lib.hid hai; have Hao := Lib.hid hao; have Hau := Lib.hid hau; have Haon := Lib.hid haon; clear hai hao hau haon; obtain ⟨ka, na, sa, pa, ca, la⟩ := am; rewrite [tm_val])
        | fail)
      have hAb := Blk4.new w3 (.int .i64 ka) (.int .i64 na) (.string sa) (.slice pa la.length ca)
      have g4' : Gr w3 (w3.alloc (.cells #[.int .i64 ka, .int .i64 na, .string sa, .slice pa la.length ca] 24)) := by go_grown
      have hs4 : (w3.alloc (.cells #[.int .i64 ka, .int .i64 na, .string sa, .slice pa la.length ca] 24)).heap.size = w3.heap.size + 1 := by simp
      generalize w3.alloc (.cells #[.int .i64 ka, .int .i64 na, .string sa, .slice pa la.length ca] 24) = w4 at *
      have g24 : Gr wc w4 := hga.trans g4'
      have g4 : Gr w w4 := g2.trans g24
      have HB4 := Lib.hid (HB2.out.gr g24)
      have HR4 := Lib.hid (HR2.out.gr g24)
      have HA4 := Lib.hid hAb
      replace z0 := Gr.at g24 z0
      replace z1 := Gr.at g24 z1
      replace z2 := Gr.at g24 z2
      replace z3 := Gr.at g24 z3
      have hs3 := hga.size
      have hs4' : w3.heap.size ≤ w4.heap.size := by omega
      clear hs4
      have Hai4 := Lib.hid (Tm.In_below g4' Hai.out)
      clear b0 b1 b2 b3 y0 y1 y2 y3 f0 f1 f2 f3 x0 x1 x2 x3 hAb hga g4' HB2 HR2 hlt
      obtain ⟨⟨b0, b1, b2, b3⟩, _, _⟩ := HB4.out.parts
      go_upto_region 9 with (first
        | (go_at_call 93; rewrite [← Hyv.out]; refine (Hiy.out S w4 (Tm.In_below g24 Hyi.out) Hyf.out Hyo.out (fun b hb => Nat.lt_of_lt_of_le (HS.out b hb) g4.size)).mono ?_; rintro e w5 ⟨bm, ok2, rfl, hbi, hbo, hbu, hgb, hbon⟩; have Hbi := Lib.hid hbi; have Hbo := Lib.hid hbo; have Hbu := Lib.hid hbu; have Hbon := Lib.hid hbon; clear hbi hbo hbu hbon; obtain ⟨kb, nb, sb, pb, cb, lb⟩ := bm; rewrite [tm_val])
        | fail)
      have hBb := Blk4.new w5 (.int .i64 kb) (.int .i64 nb) (.string sb) (.slice pb lb.length cb)
      have g6' : Gr w5 (w5.alloc (.cells #[.int .i64 kb, .int .i64 nb, .string sb, .slice pb lb.length cb] 24)) := by go_grown
      have hs6 : (w5.alloc (.cells #[.int .i64 kb, .int .i64 nb, .string sb, .slice pb lb.length cb] 24)).heap.size = w5.heap.size + 1 := by simp
      generalize w5.alloc (.cells #[.int .i64 kb, .int .i64 nb, .string sb, .slice pb lb.length cb] 24) = w6 at *
      have g46 : Gr w4 w6 := hgb.trans g6'
      have g6 : Gr w w6 := g4.trans g46
      have HB6 := Lib.hid (HB4.out.gr g46)
      have HR6 := Lib.hid (HR4.out.gr g46)
      have HA6 := Lib.hid (HA4.out.gr g46)
      have HBb6 := Lib.hid hBb
      have hs5 := hgb.size
      have hs6' : w5.heap.size ≤ w6.heap.size := by omega
      clear hs6
      have Hai6 := Lib.hid (Tm.In_below g46 Hai4.out)
      have Hbi6 := Lib.hid (Tm.In_below g6' Hbi.out)
      have hlt6 := HR6.out.parts.2.2
      clear b0 b1 b2 b3 z0 z1 z2 z3 hBb hgb g6' HB4 HR4 HA4
      obtain ⟨⟨b0, b1, b2, b3⟩, _, _⟩ := HB6.out.parts
      obtain ⟨⟨p0, p1, p2, p3⟩, _, _⟩ := HA6.out.parts
      obtain ⟨⟨q0, q1, q2, q3⟩, _, _⟩ := HBb6.out.parts
      have hres : Hid (∀ w', Gr (w6.alloc (.cells #[.int .i64 ka, .int .i64 na, .string sa, .slice pa la.length ca, .int .i64 kb, .int .i64 nb, .string sb, .slice pb lb.length cb] 24)) w' → Q (.returned (.tuple #[(compTm s (some ⟨w6.heap.size, 0, none⟩) 2 [.mk ka na sa pa ca la, .mk kb nb sb pb cb lb]).val, .bool (ok1 && ok2)])) ((((w'.setCell ⟨w.heap.size + 1, 0, none⟩ (.int .i64 4)).setCell ⟨w.heap.size + 1, 1, none⟩ (.int .i64 0)).setCell ⟨w.heap.size + 1, 2, none⟩ (.string s)).setCell ⟨w.heap.size + 1, 3, none⟩ (.slice (some ⟨w6.heap.size, 0, none⟩) 2 2))) := by
        intro w' hb
        have hsl2 := two_new (t := .mk ka na sa pa ca la) (u := .mk kb nb sb pb cb lb) Hai6.out Hbi6.out hb
        have gw : Gr w w' := g6.trans (below_step hb (by go_grown))
        have hS' : ∀ b, S b → b < w.heap.size := HS.out
        have hg : Gr w ((((w'.setCell ⟨w.heap.size + 1, 0, none⟩ (.int .i64 4)).setCell ⟨w.heap.size + 1, 1, none⟩ (.int .i64 0)).setCell ⟨w.heap.size + 1, 2, none⟩ (.string s)).setCell ⟨w.heap.size + 1, 3, none⟩ (.slice (some ⟨w6.heap.size, 0, none⟩) 2 2)) := by go_grown
        have hon : (compTm s (some ⟨w6.heap.size, 0, none⟩) 2 [.mk ka na sa pa ca la, .mk kb nb sb pb cb lb]).On fun b => S b ∨ w.heap.size + 2 ≤ b := by
          rw [compTm, Tm.On, Tm.OnL, Tm.OnL, Tm.OnL]
          exact ⟨.inr ⟨_, _, rfl, .inr (by omega)⟩, Haon.out.mono fun b hb => hb.imp id fun h => by omega, Hbon.out.mono fun b hb => hb.imp id fun h => by omega, trivial⟩
        rw [← HQ.out]
        refine ⟨_, _, rfl, ?_, ?_, ?_, hg, hon.mono fun b hb => hb.imp id fun h => by omega⟩
        · exact in_after' (compTm_in hsz hsl2) hon fun b h1 h2 o => by
            have : b ≠ w.heap.size + 1 := by
              rcases h1 with h1 | h1
              · have := hS' b h1; omega
              · omega
            rw [cell_set_ne this, cell_set_ne this, cell_set_ne this, cell_set_ne this]
        · rw [Tm.erase, Tm.eraseL, Tm.eraseL, Tm.eraseL, hbd.out, Hao.out, Hbo.out]
          cases T.body x.erase <;> cases T.body y.erase <;> rfl
        · intro u hu
          rw [Tm.erase, Tm.eraseL, Tm.eraseL, Tm.eraseL, hbd.out] at hu
          cases ha : T.body x.erase with
          | none => rw [ha] at hu; cases hu
          | some a =>
            cases hc : T.body y.erase with
            | none => rw [ha, hc] at hu; cases hu
            | some e =>
              rw [ha, hc] at hu
              cases hu
              rw [compTm, Tm.erase, Tm.eraseL, Tm.eraseL, Tm.eraseL, Hau.out a ha, Hbu.out e hc]
              rfl
      cases ok1 <;> cases ok2
      all_goals
        go_wp2_with (first
          | (go_at_call 84; refine (comp_calls _ _ _ _ _).mono ?_; rintro e w' ⟨rfl, hb⟩; have hfin := Lib.hid (hres.out w' hb); have gb : Gr w6 w' := below_step hb (by go_grown); obtain ⟨⟨y0, y1, y2, y3⟩, ⟨f0, f1, f2, f3⟩, hlt⟩ := (HR6.out.gr gb).parts; clear hb b0 b1 b2 b3 p0 p1 p2 p3 q0 q1 q2 q3)
          | fail)
        exact bodyPost_ret (by simp (maxDischargeDepth := 9) [results, Try.results93, go_sem, compTm, Tm.val, Tm.k, Tm.n, Tm.s, Tm.p, Tm.c, Tm.l, y0, y1, y2, y3]) rfl hfin.out

theorem body_any (NN : Nat) : ∀ t : Tm, SizeOf.sizeOf t ≤ NN → bodyOf t := by
  induction NN with
  | zero => intro t h; cases t; simp at h
  | succ NN ih =>
    intro t hN S w hin hfm hon hS
    by_cases hk1 : t.k = 1
    · obtain ⟨k, n, s, p, c, l⟩ := t
      obtain rfl : k = 1 := hk1
      have := body_walk_var n s p c l S w hin hon hS
      rw [Tm.erase] at this ⊢
      rw [body_var]
      exact this
    by_cases hk2 : t.k = 2
    · obtain ⟨k, n, s, p, c, l⟩ := t
      obtain rfl : k = 2 := hk2
      rw [Tm.erase, body_int]
      exact body_walk_int n s p c l S w
    refine body_walk_rest t hk1 hk2 (fun x hx => ih x ?_) S w hin hfm hon hS
    obtain ⟨k, n, s, p, c, l⟩ := t
    have := Tm.sizeOf_mem (l := l) hx k n s p c
    omega

theorem body_calls {t : Tm} {S : Nat → Prop} {w : World} (h : t.In w) (hf : t.erase.formed = true) (hon : t.On S) (hS : ∀ b, S b → b < w.heap.size) : Calls Try.prog 93 #[t.val] w (RetBody S (T.body t.erase) w) := body_any _ t (Nat.le_refl _) S w h hf hon hS
end Go.Proofs.Yteonakicoomjkaa

namespace Go.Proofs.Yteonakicoomjkaa
open Go.RowKit

/-- A term is handed back, and an error's number. -/
def RetTE (r : T × Int) (w : World) (e : Ending) (w' : World) : Prop := ∃ bm : Tm, e = .returned (.tuple #[bm.val, .int .i64 r.2]) ∧ bm.In w' ∧ bm.erase = r.1 ∧ Gr w w'

def bodyAns (t : T) : T × Int := if t.formed then (match T.body t with
  | some u => (u, 0)
  | none => (zeroT, 7)) else (zeroT, 2)
theorem bodyAns_bad {t : T} (h : t.formed = false) : bodyAns t = (zeroT, 2) := by rw [bodyAns, h]; rfl
theorem bodyAns_none {t : T} (h : t.formed = true) (hb : T.body t = none) : bodyAns t = (zeroT, 7) := by rw [bodyAns, if_pos h, hb]
theorem bodyAns_some {t u : T} (h : t.formed = true) (hb : T.body t = some u) : bodyAns t = (u, 0) := by rw [bodyAns, if_pos h, hb]

theorem zeroTm_val : zeroTm.val = .agg #[.int .i64 0, .int .i64 0, .string ⟨#[]⟩, .slice none 0 0] := rfl
theorem formedL_one (t : Tm) : T.formedL (Tm.eraseL [t]) = t.erase.formed := by rw [Tm.eraseL, Tm.eraseL, T.formedL, T.formedL, Bool.and_true]

set_option maxHeartbeats 2000000 in
set_option maxRecDepth 100000 in
theorem Body_calls (t : Tm) (w : World) (hin : t.In w) : Calls Try.prog 148 #[t.val] w (RetTE (bodyAns t.erase) w) := by
  have Hin := Lib.hid hin
  have hR0 : Hid (∀ E : Int, bodyAns t.erase = (zeroT, E) → ∀ w', Gr w w' → RetTE (bodyAns t.erase) w (.returned (.tuple #[zeroTm.val, .int .i64 E])) w') := fun E hE w' hg => by rw [hE]; exact ⟨zeroTm, rfl, zeroTm_in _, zeroTm_erase, hg⟩
  have hR1 : Hid (∀ (bm : Tm), bodyAns t.erase = (bm.erase, 0) → ∀ w', bm.In w' → Gr w w' → RetTE (bodyAns t.erase) w (.returned (.tuple #[bm.val, .int .i64 0])) w') := fun bm hb w' hi hg => by rw [hb]; exact ⟨bm, rfl, hi, rfl, hg⟩
  have hfl := Lib.hid (formedL_one t)
  have hA2 := Lib.hid (fun h => bodyAns_bad (t := t.erase) h)
  have hA7 := Lib.hid (fun h h2 => bodyAns_none (t := t.erase) h h2)
  have hA0 := Lib.hid (fun u h h2 => bodyAns_some (t := t.erase) (u := u) h h2)
  generalize bodyAns t.erase = r at *
  generalize hQ : RetTE r w = Q at *
  clear hQ hin
  have Hv := Lib.hid (show t.val = .agg #[.int .i64 t.k, .int .i64 t.n, .string t.s, .slice t.p t.l.length t.c] from rfl)
  rw [Hv.out]
  go_enter Try.func148, Try.ntmps148
  try simp only [List.append_eq, List.cons_append, List.nil_append]
  go_upto_region 1 with fail
  obtain ⟨HB, HR, gA⟩ := two_blocks w (.int .i64 t.k) (.int .i64 t.n) (.string t.s) (.slice t.p t.l.length t.c) (.int .i64 0) (.int .i64 0) (.string ⟨#[]⟩) (.slice none 0 0)
  generalize (w.alloc (.cells #[.int .i64 t.k, .int .i64 t.n, .string t.s, .slice t.p t.l.length t.c] 24)).alloc (.cells #[.int .i64 0, .int .i64 0, .string ⟨#[]⟩, .slice none 0 0] 24) = wA at *
  obtain ⟨⟨b0, b1, b2, b3⟩, _, _⟩ := HB.out.parts
  have hszA : w.heap.size + 1 < wA.heap.size := HR.out.parts.2.2
  cases hf : t.erase.formed with
  | false =>
    have hv := Lib.hid (hR0.out 2 (hA2.out hf))
    have hff := Lib.hid (hfl.out.trans hf)
    clear hf
    go_wp2_with (first
      | (go_at_call 62; refine (all_calls (one_new (t := t) (Tm.In_below gA Hin.out) (Gr.rfl' _))).mono ?_; rintro e w' ⟨rfl, hb⟩; rewrite [hff.out]; have g2 : Gr wA w' := below_step hb (by go_grown); obtain ⟨⟨y0, y1, y2, y3⟩, ⟨f0, f1, f2, f3⟩, hlt⟩ := (HR.out.gr g2).parts; clear hb b0 b1 b2 b3)
      | fail)
    exact bodyPost_ret (by simp (maxDischargeDepth := 9) [results, Try.results148, go_sem, zeroTm, Tm.val, Tm.k, Tm.n, Tm.s, Tm.p, Tm.c, Tm.l, y0, y1, y2, y3]) rfl (hv.out _ (by have := gA.trans g2; go_grown))
  | true =>
    have hff := Lib.hid (hfl.out.trans hf)
    have Hf := Lib.hid hf
    clear hf
    cases hb : T.body t.erase with
    | none =>
      have hv := Lib.hid (hR0.out 7 (hA7.out Hf.out hb))
      have Hb := Lib.hid hb
      clear hb
      go_wp2_with (first
        | (go_at_call 62; refine (all_calls (one_new (t := t) (Tm.In_below gA Hin.out) (Gr.rfl' _))).mono ?_; rintro e w' ⟨rfl, hb⟩; rewrite [hff.out]; have g2 : Gr wA w' := below_step hb (by go_grown); clear hb b0 b1 b2 b3; obtain ⟨⟨b0, b1, b2, b3⟩, _, _⟩ := (HB.out.gr g2).parts)
        | (go_at_call 98; rewrite [← Hv.out]; refine (copy_calls (t := t) (Tm.In_below (gA.trans g2) Hin.out) Hf.out).mono ?_; rintro e w2 ⟨cm, hci, hce, rfl, hcb, hco⟩; have hcf := Lib.hid (hce ▸ Hf.out); have Hci := Lib.hid hci; have Hce := Lib.hid hce; have Hco := Lib.hid (Tm.On.and hco hci.on); have g3 := g2.trans hcb; clear hci hce hco hcb b0 b1 b2 b3)
        | (go_at_call 93; refine (body_calls (t := cm) (S := fun b => w'.heap.size ≤ b ∧ b < w2.heap.size) Hci.out hcf.out Hco.out (fun b hb => hb.2)).mono ?_; rw [Hce.out, Hb.out]; rintro e w3 ⟨bm, ok, rfl, hbi, rfl, _, hbb, _⟩; obtain ⟨kb, nb, sb, pb, cb, lb⟩ := bm; rewrite [tm_val]; have g4 := g3.trans hbb; obtain ⟨⟨y0, y1, y2, y3⟩, ⟨f0, f1, f2, f3⟩, hlt⟩ := (HR.out.gr g4).parts; clear hbi hbb)
        | fail)
      exact bodyPost_ret (by simp (maxDischargeDepth := 9) [results, Try.results148, go_sem, hlt, zeroTm, Tm.val, Tm.k, Tm.n, Tm.s, Tm.p, Tm.c, Tm.l, y0, y1, y2, y3]) rfl (hv.out _ (by have := gA.trans g4; go_grown))
    | some u =>
      have hv := Lib.hid (hA0.out u Hf.out hb)
      have Hb := Lib.hid hb
      clear hb
      go_wp2_with (first
        | (go_at_call 62; refine (all_calls (one_new (t := t) (Tm.In_below gA Hin.out) (Gr.rfl' _))).mono ?_; rintro e w' ⟨rfl, hb⟩; rewrite [hff.out]; have g2 : Gr wA w' := below_step hb (by go_grown); clear hb b0 b1 b2 b3; obtain ⟨⟨b0, b1, b2, b3⟩, _, _⟩ := (HB.out.gr g2).parts)
        | (go_at_call 98; rewrite [← Hv.out]; refine (copy_calls (t := t) (Tm.In_below (gA.trans g2) Hin.out) Hf.out).mono ?_; rintro e w2 ⟨cm, hci, hce, rfl, hcb, hco⟩; have hcf := Lib.hid (hce ▸ Hf.out); have Hci := Lib.hid hci; have Hce := Lib.hid hce; have Hco := Lib.hid (Tm.On.and hco hci.on); have g3 := g2.trans hcb; clear hci hce hco hcb b0 b1 b2 b3)
        | (go_at_call 93; refine (body_calls (t := cm) (S := fun b => w'.heap.size ≤ b ∧ b < w2.heap.size) Hci.out hcf.out Hco.out (fun b hb => hb.2)).mono ?_; rw [Hce.out, Hb.out]; rintro e w3 ⟨bm, ok, rfl, hbi, rfl, hbu, hbb, hbo⟩; have Hbi := Lib.hid hbi; have Hbu := Lib.hid (hbu u rfl); have Hbo := Lib.hid hbo; have hs2 := g2.size; have hs3 := g3.size; obtain ⟨kb, nb, sb, pb, cb, lb⟩ := bm; rewrite [tm_val]; have g4 := g3.trans hbb; obtain ⟨⟨y0, y1, y2, y3⟩, ⟨f0, f1, f2, f3⟩, hlt⟩ := (HR.out.gr g4).parts; clear hbi hbb hbu hbo)
        | fail)
      refine bodyPost_ret (v := .tuple #[(Tm.mk kb nb sb pb cb lb).val, .int .i64 0]) (by simp (maxDischargeDepth := 9) [results, Try.results148, go_sem, hlt, Tm.val, Tm.k, Tm.n, Tm.s, Tm.p, Tm.c, Tm.l, y0, y1, y2, y3]) rfl ?_
      refine hR1.out (.mk kb nb sb pb cb lb) (by rw [Hbu.out]; exact hv.out) _ ?_ (by have := gA.trans g4; go_grown)
      exact in_after' Hbi.out Hbo.out fun b h1 h2 o => by
        have h3 : b ≠ w.heap.size + 1 := by
          rcases h1 with h1 | h1
          · omega
          · omega
        rw [World.cell?_alloc_past _ _ _ (by simpa using h2), cell_set_ne h3, cell_set_ne h3, cell_set_ne h3, cell_set_ne h3]
end Go.Proofs.Yteonakicoomjkaa

namespace Go.Proofs.Yteonakicoomjkaa
open Go.RowKit

/-- What is thrown where a body can't be. -/
def WrongE (e : Ending) : Prop := ∃ c : Int, e = .panicked [{ v := .iface 177 (.agg #[.int .i64 c]), recovered := false }]

theorem fail_calls (c : Int) (w : World) : Calls Try.prog 87 #[.int .i64 c] w fun e w' => e = .panicked [{ v := .iface 177 (.agg #[.int .i64 c]), recovered := false }] ∧ Gr w w' := by
  go_enter Try.func87, Try.ntmps87
  go_wp2_with fail
  exact ⟨rfl, rfl, Gr.rfl' _⟩

theorem three_blocks (w : World) (v0 v1 v2 v3 u0 u1 u2 u3 x0 x1 x2 x3 : Value) :
    Hid (Blk4 (((w.alloc (.cells #[v0, v1, v2, v3] 24)).alloc (.cells #[u0, u1, u2, u3] 24)).alloc (.cells #[x0, x1, x2, x3] 24)) w.heap.size v0 v1 v2 v3) ∧
    Hid (Blk4 (((w.alloc (.cells #[v0, v1, v2, v3] 24)).alloc (.cells #[u0, u1, u2, u3] 24)).alloc (.cells #[x0, x1, x2, x3] 24)) (w.heap.size + 1) u0 u1 u2 u3) ∧
    Hid (Blk4 (((w.alloc (.cells #[v0, v1, v2, v3] 24)).alloc (.cells #[u0, u1, u2, u3] 24)).alloc (.cells #[x0, x1, x2, x3] 24)) (w.heap.size + 1 + 1) x0 x1 x2 x3) ∧
    Gr w (((w.alloc (.cells #[v0, v1, v2, v3] 24)).alloc (.cells #[u0, u1, u2, u3] 24)).alloc (.cells #[x0, x1, x2, x3] 24)) ∧
    (((w.alloc (.cells #[v0, v1, v2, v3] 24)).alloc (.cells #[u0, u1, u2, u3] 24)).alloc (.cells #[x0, x1, x2, x3] 24)).heap.size = w.heap.size + 3 := by
  obtain ⟨h1, h2, h3⟩ := two_blocks w v0 v1 v2 v3 u0 u1 u2 u3
  have h4 := Blk4.new ((w.alloc (.cells #[v0, v1, v2, v3] 24)).alloc (.cells #[u0, u1, u2, u3] 24)) x0 x1 x2 x3
  simp only [World.size_alloc] at h4
  exact ⟨Blk4.old h1.out _, Blk4.old h2.out _, h4, by go_grown, by simp⟩

theorem in_ne {t : Tm} {w : World} (h : t.In w) {R : Nat} (hR : w.heap.size ≤ R) : t.On (· ≠ R) := h.on.mono fun b hb => by omega

/-- A term over new args is handed back through a block of the call's own. -/
theorem ret_comp {S : Nat → Prop} {s : ByteArray} {b : Nat} {l : List Tm} {w w' : World} {R : Nat} (hs : s.size ≤ 140737488351232) (hsl : Tm.Sl w' (some ⟨b, 0, none⟩) l.length l) (hon : Tm.OnL S l) (hSb : S b) (hg : Gr w w') (hR : w.heap.size ≤ R) (hRb : R ≠ b) (hl : Tm.OnL (· ≠ R) l) (v0 v1 v2 v3 : Value) :
    RetTm S (compT s.toList (Tm.eraseL l)) w (.returned (compTm s (some ⟨b, 0, none⟩) l.length l).val) ((((w'.setCell ⟨R, 0, none⟩ v0).setCell ⟨R, 1, none⟩ v1).setCell ⟨R, 2, none⟩ v2).setCell ⟨R, 3, none⟩ v3) := by
  refine ⟨_, ?_, rfl, rfl, ?_, ?_⟩
  · refine in_after' (S := fun b => b ≠ R) (compTm_in hs hsl) ?_ fun b h1 h2 o => by rw [cell_set_ne h1, cell_set_ne h1, cell_set_ne h1, cell_set_ne h1]
    rw [compTm, Tm.On]
    exact ⟨.inr ⟨_, _, rfl, Ne.symm hRb⟩, hl⟩
  · exact Below.trans hg ((Kp.set4 (C := fun b => b = R) rfl).below (fun b hb => by omega) hg.size)
  · rw [compTm, Tm.On]
    exact ⟨.inr ⟨_, _, rfl, hSb⟩, hon⟩

/-- PAIRS -/
theorem bl61 : (ByteArray.mk #[61]).toList = sEqual := by rw [ByteArray.toList_mk]; rfl
theorem bl44c : (ByteArray.mk #[44]).toList = sComma := by rw [ByteArray.toList_mk]; rfl

set_option maxHeartbeats 2000000 in
set_option maxRecDepth 100000 in
theorem equal_calls (a b : Tm) (S : Nat → Prop) (w : World) (ha : a.In w) (hb : b.In w) (hao : a.On S) (hbo : b.On S) (hS : ∀ c, w.heap.size ≤ c → S c) :
    Calls Try.prog 147 #[a.val, b.val] w (RetTm S (eqT a.erase b.erase) w) := by
  generalize hQ : RetTm S (eqT a.erase b.erase) w = Q
  have HQ := Lib.hid hQ
  have Ha := Lib.hid ha
  have Hb := Lib.hid hb
  have Hao := Lib.hid hao
  have Hbo := Lib.hid hbo
  have HS := Lib.hid hS
  clear hQ ha hb hao hbo hS
  simp only [Tm.val]
  go_enter Try.func147, Try.ntmps147
  try simp only [List.append_eq, List.cons_append, List.nil_append]
  go_upto_region 1 with fail
  obtain ⟨HA, HB, HR, gA, hsA⟩ := three_blocks w (.int .i64 a.k) (.int .i64 a.n) (.string a.s) (.slice a.p a.l.length a.c) (.int .i64 b.k) (.int .i64 b.n) (.string b.s) (.slice b.p b.l.length b.c) (.int .i64 0) (.int .i64 0) (.string ⟨#[]⟩) (.slice none 0 0)
  generalize (((w.alloc (.cells #[.int .i64 a.k, .int .i64 a.n, .string a.s, .slice a.p a.l.length a.c] 24)).alloc (.cells #[.int .i64 b.k, .int .i64 b.n, .string b.s, .slice b.p b.l.length b.c] 24)).alloc (.cells #[.int .i64 0, .int .i64 0, .string ⟨#[]⟩, .slice none 0 0] 24)) = wA at *
  have HsA := Lib.hid hsA
  clear hsA
  obtain ⟨⟨a0, a1, a2, a3⟩, _, _⟩ := HA.out.parts
  obtain ⟨⟨b0, b1, b2, b3⟩, _, _⟩ := HB.out.parts
  go_wp2_with (first
    | (go_at_call 84
       refine (comp_calls _ _ _ _ _).mono ?_
       rintro e w' ⟨rfl, hb⟩
       have HT := Lib.hid (two_new (t := a) (u := b) (Tm.In_below gA Ha.out) (Tm.In_below gA Hb.out) hb)
       have g2 : Gr wA w' := below_step hb (by go_grown)
       obtain ⟨⟨y0, y1, y2, y3⟩, ⟨f0, f1, f2, f3⟩, hlt⟩ := (HR.out.gr g2).parts
       clear hb a0 a1 a2 a3 b0 b1 b2 b3)
    | fail)
  refine bodyPost_ret (v := (compTm ⟨#[61]⟩ (some ⟨wA.heap.size, 0, none⟩) 2 [a, b]).val) (by simp (maxDischargeDepth := 9) [results, Try.results147, go_sem, compTm, Tm.val, Tm.k, Tm.n, Tm.s, Tm.p, Tm.c, Tm.l, y0, y1, y2, y3]) rfl ?_
  rw [← HQ.out]
  have hsA := HsA.out
  have h := ret_comp (S := S) (s := ⟨#[61]⟩) (l := [a, b]) (w := w) (w' := w') (b := wA.heap.size) (R := w.heap.size + 1 + 1) (by decide) HT.out (by rw [Tm.OnL, Tm.OnL, Tm.OnL]; exact ⟨Hao.out, Hbo.out, trivial⟩) (HS.out _ gA.size) (gA.trans g2) (by omega) (by omega)
    (by rw [Tm.OnL, Tm.OnL, Tm.OnL]; exact ⟨in_ne Ha.out (by omega), in_ne Hb.out (by omega), trivial⟩) (.int .i64 4) (.int .i64 0) (.string ⟨#[61]⟩) (.slice (some ⟨wA.heap.size, 0, none⟩) 2 2)
  rw [bl61] at h
  simp only [Tm.eraseL] at h
  exact h

set_option maxHeartbeats 2000000 in
set_option maxRecDepth 100000 in
theorem both_calls (a b : Tm) (S : Nat → Prop) (w : World) (ha : a.In w) (hb : b.In w) (hao : a.On S) (hbo : b.On S) (hS : ∀ c, w.heap.size ≤ c → S c) :
    Calls Try.prog 146 #[a.val, b.val] w (RetTm S (bothT a.erase b.erase) w) := by
  generalize hQ : RetTm S (bothT a.erase b.erase) w = Q
  have HQ := Lib.hid hQ
  have Ha := Lib.hid ha
  have Hb := Lib.hid hb
  have Hao := Lib.hid hao
  have Hbo := Lib.hid hbo
  have HS := Lib.hid hS
  clear hQ ha hb hao hbo hS
  simp only [Tm.val]
  go_enter Try.func146, Try.ntmps146
  try simp only [List.append_eq, List.cons_append, List.nil_append]
  go_upto_region 1 with fail
  obtain ⟨HA, HB, HR, gA, hsA⟩ := three_blocks w (.int .i64 a.k) (.int .i64 a.n) (.string a.s) (.slice a.p a.l.length a.c) (.int .i64 b.k) (.int .i64 b.n) (.string b.s) (.slice b.p b.l.length b.c) (.int .i64 0) (.int .i64 0) (.string ⟨#[]⟩) (.slice none 0 0)
  generalize (((w.alloc (.cells #[.int .i64 a.k, .int .i64 a.n, .string a.s, .slice a.p a.l.length a.c] 24)).alloc (.cells #[.int .i64 b.k, .int .i64 b.n, .string b.s, .slice b.p b.l.length b.c] 24)).alloc (.cells #[.int .i64 0, .int .i64 0, .string ⟨#[]⟩, .slice none 0 0] 24)) = wA at *
  have HsA := Lib.hid hsA
  clear hsA
  obtain ⟨⟨a0, a1, a2, a3⟩, _, _⟩ := HA.out.parts
  obtain ⟨⟨b0, b1, b2, b3⟩, _, _⟩ := HB.out.parts
  go_wp2_with (first
    | (go_at_call 84
       refine (comp_calls _ _ _ _ _).mono ?_
       rintro e w' ⟨rfl, hb⟩
       have HT := Lib.hid (two_new (t := a) (u := b) (Tm.In_below gA Ha.out) (Tm.In_below gA Hb.out) hb)
       have g2 : Gr wA w' := below_step hb (by go_grown)
       obtain ⟨⟨y0, y1, y2, y3⟩, ⟨f0, f1, f2, f3⟩, hlt⟩ := (HR.out.gr g2).parts
       clear hb a0 a1 a2 a3 b0 b1 b2 b3)
    | fail)
  refine bodyPost_ret (v := (compTm ⟨#[44]⟩ (some ⟨wA.heap.size, 0, none⟩) 2 [a, b]).val) (by simp (maxDischargeDepth := 9) [results, Try.results146, go_sem, compTm, Tm.val, Tm.k, Tm.n, Tm.s, Tm.p, Tm.c, Tm.l, y0, y1, y2, y3]) rfl ?_
  rw [← HQ.out]
  have hsA := HsA.out
  have h := ret_comp (S := S) (s := ⟨#[44]⟩) (l := [a, b]) (w := w) (w' := w') (b := wA.heap.size) (R := w.heap.size + 1 + 1) (by decide) HT.out (by rw [Tm.OnL, Tm.OnL, Tm.OnL]; exact ⟨Hao.out, Hbo.out, trivial⟩) (HS.out _ gA.size) (gA.trans g2) (by omega) (by omega)
    (by rw [Tm.OnL, Tm.OnL, Tm.OnL]; exact ⟨in_ne Ha.out (by omega), in_ne Hb.out (by omega), trivial⟩) (.int .i64 4) (.int .i64 0) (.string ⟨#[44]⟩) (.slice (some ⟨wA.heap.size, 0, none⟩) 2 2)
  rw [bl44c] at h
  simp only [Tm.eraseL] at h
  exact h

/-- The maker's block. -/
def MakerAt (M : Nat) (n : Int) (w : World) : Prop := w.heap[M]? = some (.cells #[.int .i64 n] 120)

set_option maxHeartbeats 2000000 in
set_option maxRecDepth 100000 in
theorem anew_calls (M : Nat) (n : Int) (w : World) (h : MakerAt M n w) (hn : 0 ≤ n ∧ n ≤ 1099515822080) :
    Calls Try.prog 81 #[.pointer (some ⟨M, 0, none⟩)] w fun e w' => e = .returned (varTm n).val ∧ MakerAt M (n + 1) w' ∧ Kp (· = M) w w' := by
  generalize hQ : (fun (e : Ending) (w' : World) => e = .returned (varTm n).val ∧ MakerAt M (n + 1) w' ∧ Kp (· = M) w w') = Q
  have hR : Hid (∀ w', MakerAt M (n + 1) w' → Kp (· = M) w w' → Q (.returned (varTm n).val) w') := fun w' h1 h2 => by rw [← hQ]; exact ⟨rfl, h1, h2⟩
  clear hQ
  have hMl : M < w.heap.size := (Array.getElem?_eq_some_iff.1 h).1
  have HM := Lib.hid h
  have HMl := Lib.hid hMl
  clear h
  go_enter Try.func81, Try.ntmps81
  try simp only [List.append_eq, List.cons_append, List.nil_append]
  go_upto_region 1 with fail
  have hB := Blk4.new w (.int .i64 0) (.int .i64 0) (.string ⟨#[]⟩) (.slice none 0 0)
  have gA : Gr w (w.alloc (.cells #[.int .i64 0, .int .i64 0, .string ⟨#[]⟩, .slice none 0 0] 24)) := by go_grown
  generalize w.alloc (.cells #[.int .i64 0, .int .i64 0, .string ⟨#[]⟩, .slice none 0 0] 24) = wA at *
  have hMA : MakerAt M n wA := (gA.block M hMl).trans HM.out
  have cM := cell_of_row wA M 0 _ _ _ hMA
  have fM := frozen_of_row wA M 0 _ _ hMA
  simp only [List.getElem?_toArray, List.getElem?_cons_zero] at cM
  have hset : (wA.setCell ⟨M, 0, none⟩ (.int .i64 (n + 1))).heap[M]? = some (.cells #[.int .i64 (n + 1)] 120) := by rw [heap_setCell_same _ M _ _ _ _ hMA]; rfl
  have HSet := Lib.hid hset
  have HB := Lib.hid (hB.kp (Kp.set (C := fun b => b = M) (w := wA) (b := M) (o := 0) (v := .int .i64 (n + 1)) rfl) (by omega))
  have HK := Lib.hid ((Kp.of_gr (C := fun b => b = M) gA).trans (Kp.set (C := fun b => b = M) (w := wA) (b := M) (o := 0) (v := .int .i64 (n + 1)) rfl))
  clear hset hB hMA
  go_wp2_with (first
    | (go_at_call 90
       refine (vV_calls _ _).mono ?_
       rintro e w' ⟨rfl, hb⟩
       obtain ⟨⟨y0, y1, y2, y3⟩, ⟨f0, f1, f2, f3⟩, hlt⟩ := (HB.out.gr hb).parts
       have HK2 := Lib.hid (HK.out.trans (Kp.of_gr hb))
       have HM2 := Lib.hid (show MakerAt M (n + 1) w' from (hb.block M (by have := gA.size; simp; omega)).trans HSet.out)
       clear hb)
    | fail)
  refine bodyPost_ret (v := (varTm n).val) (by simp (maxDischargeDepth := 9) [results, Try.results81, go_sem, varTm, Tm.val, Tm.k, Tm.n, Tm.s, Tm.p, Tm.c, Tm.l, y0, y1, y2, y3]) rfl ?_
  refine hR.out _ ((Kp.set4 (C := fun b => b = w.heap.size) rfl).block M (Nat.lt_of_lt_of_le HMl.out HK2.out.size) (fun e => by have := HMl.out; omega) |>.trans HM2.out) ?_
  exact ((HK2.out.mono (C' := fun b => b = M ∨ b = w.heap.size) fun _ h => .inl h).trans (Kp.set4 (.inr rfl))).weaken fun b hb hc => hc.resolve_right (by omega)

def behindT (L : List Int) : Int := L.foldl (fun n v => max n (v + 1)) 0
theorem behindT_snoc (L : List Int) (v : Int) : behindT (L ++ [v]) = max (behindT L) (v + 1) := by simp [behindT]
theorem behindT_le {L : List Int} {N : Int} (h : ∀ v ∈ L, v + 1 ≤ N) (h0 : 0 ≤ N) : 0 ≤ behindT L ∧ behindT L ≤ N := by
  have : ∀ (L : List Int) (n : Int), 0 ≤ n → n ≤ N → (∀ v ∈ L, v + 1 ≤ N) → 0 ≤ L.foldl (fun n v => max n (v + 1)) n ∧ L.foldl (fun n v => max n (v + 1)) n ≤ N := by
    intro L
    induction L with
    | nil => exact fun n h1 h2 _ => ⟨h1, h2⟩
    | cons v L ih =>
      intro n h1 h2 h3
      have := h3 v (List.mem_cons_self ..)
      exact ih (max n (v + 1)) (by rw [Int.max_def]; split <;> omega) (by rw [Int.max_def]; split <;> omega) fun u hu => h3 u (List.mem_cons_of_mem _ hu)
  exact this L 0 (Int.le_refl _) h0 h

set_option maxHeartbeats 2000000 in
set_option maxRecDepth 100000 in
theorem behind_calls (p : Option Addr) (c : Nat) (L : List Int) (w : World) (h : IntSl w p c L) (hL : VarsOkB L) : Calls Try.prog 79 #[.slice p L.length c] w (Ret (.int .i64 (behindT L)) w) := by
  have hlc : L.length ≤ c := h.1
  have hc : c ≤ 9223372036854775807 := h.2.1
  have H := Lib.hid h
  have HL := Lib.hid hL
  clear h hL
  have hR : Hid (∀ m w', behindT L = m → Gr w w' → Ret (.int .i64 (behindT L)) w (.returned (.int .i64 m)) w') := fun m w' hm hg => ⟨by rw [hm], hg⟩
  generalize Ret (.int .i64 (behindT L)) w = Q at hR ⊢
  go_enter Try.func79, Try.ntmps79
  try simp only [List.append_eq, List.cons_append, List.nil_append]
  go_wp2_with fail
  go_loopg [3, 8] L.length (fun m v i wr => ∃ k : Nat, k ≤ L.length ∧ m = L.length - k ∧ v = .int .i64 (behindT (L.take k)) ∧ i = .int .i64 k ∧ wr = w)
  case atStart => exact ⟨0, Nat.zero_le _, rfl, rfl, rfl, rfl⟩
  case round =>
    obtain ⟨k, hk, rfl, rfl, rfl, rfl⟩ := hrel
    have hbt : 0 ≤ behindT (L.take k) ∧ behindT (L.take k) ≤ 1099515822081 := behindT_le (fun v hv => by have := HL.out.2 v (List.mem_of_mem_take hv); omega) (by omega)
    by_cases hlt : k < L.length
    · obtain ⟨b, o, rfl, _, hr⟩ := H.out.ptr (by omega)
      have hy : L[k]? = some L[k] := List.getElem?_eq_getElem hlt
      have c0 := hr k _ hy
      have hn := HL.out.2 L[k] (List.getElem_mem hlt)
      have hsn : Hid (behindT (L.take (k + 1)) = max (behindT (L.take k)) (L[k] + 1)) := by show _ = _; rw [← behindT_snoc, List.take_append_getElem hlt]
      clear hr hy
      generalize L[k] = y at *
      generalize behindT (L.take k) = bt at *
      rcases Int.le_total bt (y + 1) with hle | hle
      · have hm : max bt (y + 1) = y + 1 := Int.max_eq_right hle
        go_wp2_with fail
        go_roundg (L.length - (k + 1))
        case measure => omega
        case rel => exact ⟨k + 1, by omega, rfl, by rw [hsn.out, hm], by go_num, rfl⟩
      · have hm : max bt (y + 1) = bt := Int.max_eq_left hle
        go_wp2_with fail
        go_roundg (L.length - (k + 1))
        case measure => omega
        case rel => exact ⟨k + 1, by omega, rfl, by rw [hsn.out, hm], by go_num, rfl⟩
    · obtain rfl : k = L.length := by omega
      rw [List.take_length] at hbt
      have hv : Hid (behindT L = behindT (L.take L.length)) := by show _ = _; rw [List.take_length]
      go_wp2_with fail
      exact hR.out _ _ hv.out (Gr.rfl' _)
end Go.Proofs.Yteonakicoomjkaa
