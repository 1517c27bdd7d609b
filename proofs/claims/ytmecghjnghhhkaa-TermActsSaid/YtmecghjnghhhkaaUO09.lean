/-
  base.body: the other kinds
  base.Body
  term.Map with the function of term.Renamed: any term.
-/
import Derived.Test.YtmecghjnghhhkaaUO08
namespace Go.Proofs.Ytmecghjnghhhkaa
open Go.RowKit

/-- A new slice of two terms. -/
theorem two_new {t u : Tm} {w w' : World} (ht : t.In w) (hu : u.In w)
    (hg : Gr (w.alloc (.cells #[.int .i64 t.k, .int .i64 t.n, .string t.s, .slice t.p t.l.length t.c, .int .i64 u.k, .int .i64 u.n, .string u.s, .slice u.p u.l.length u.c] 27)) w') : Tm.Sl w' (some ⟨w.heap.size, 0, none⟩) 2 [t, u] := by
  have hb : w'.heap[w.heap.size]? = some (.cells #[.int .i64 t.k, .int .i64 t.n, .string t.s, .slice t.p t.l.length t.c, .int .i64 u.k, .int .i64 u.n, .string u.s, .slice u.p u.l.length u.c] 27) :=
    (hg.block w.heap.size (by simp)).trans (heap_alloc_new w _)
  have hw : Gr w w' := below_step hg (by go_grown)
  exact two_row (Tm.In_below hw ht) (Tm.In_below hw hu) (cell_of_row _ _ 0 _ _ _ hb) (cell_of_row _ _ 1 _ _ _ hb) (cell_of_row _ _ 2 _ _ _ hb) (cell_of_row _ _ 3 _ _ _ hb) (cell_of_row _ _ 4 _ _ _ hb) (cell_of_row _ _ 5 _ _ _ hb) (cell_of_row _ _ 6 _ _ _ hb) (cell_of_row _ _ 7 _ _ _ hb)

set_option maxHeartbeats 2000000 in
set_option maxRecDepth 100000 in
theorem body_walk_int (n : Int) (s : ByteArray) (p : Option Addr) (c : Nat) (l : List Tm) (S : Nat → Prop) (w : World) :
    Calls Try.prog 122 #[(Tm.mk 2 n s p c l).val] w (RetBody S none w) := by
  have hR : Hid (∀ w', Gr w w' → RetBody S none w (.returned (.tuple #[zeroTm.val, .bool false])) w') := fun w' hg => ⟨zeroTm, false, rfl, zeroTm_in _, rfl, (fun u hu => by cases hu), hg, (by rw [zeroTm, Tm.On, Tm.OnL]; exact ⟨.inl rfl, trivial⟩)⟩
  generalize hQ : RetBody S none w = Q at hR ⊢
  clear hQ
  simp only [tm_val]
  go_enter Try.func122, Try.ntmps122
  go_wp2_with fail
  refine bodyPost_ret (v := .tuple #[zeroTm.val, .bool false]) (by simp (maxDischargeDepth := 9) [results, Try.results122, go_sem, zeroTm, Tm.val, Tm.k, Tm.n, Tm.s, Tm.p, Tm.c, Tm.l]) rfl ?_
  exact hR.out _ (by go_grown)

set_option maxHeartbeats 4000000 in
set_option maxRecDepth 100000 in
theorem body_walk_rest (t : Tm) (hk1 : t.k ≠ 1) (hk2 : t.k ≠ 2) (ih : ∀ x ∈ t.l, bodyOf x) (S : Nat → Prop) (w : World) (hin : t.In w) (hfm : t.erase.formed = true) (hon : t.On S) (hS : ∀ b, S b → b < w.heap.size) :
    Calls Try.prog 122 #[t.val] w (RetBody S (T.body t.erase) w) := by
  have Hin := Lib.hid hin
  have Hon := Lib.hid hon
  have HS := Lib.hid hS
  have Hih := Lib.hid ih
  have Hfm := Lib.hid hfm
  have Hk := Lib.hid (And.intro hk1 hk2)
  have hk1' : (t.k == 1) = false := beq_eq_false_iff_ne.2 hk1
  have hk2' : (t.k == 2) = false := beq_eq_false_iff_ne.2 hk2
  generalize hQ : RetBody S (T.body t.erase) w = Q
  have HQ := Lib.hid hQ
  clear hQ hin hon hS ih hfm hk1 hk2
  have hv : t.val = .agg #[.int .i64 t.k, .int .i64 t.n, .string t.s, .slice t.p t.l.length t.c] := rfl
  have HV := Lib.hid hv
  rw [hv]
  clear hv
  go_enter Try.func122, Try.ntmps122
  try simp only [List.append_eq, List.cons_append, List.nil_append]
  go_upto_region 1 with fail
  obtain ⟨HB, HR, gA⟩ := two_blocks w (.int .i64 t.k) (.int .i64 t.n) (.string t.s) (.slice t.p t.l.length t.c) (.int .i64 0) (.int .i64 0) (.string ⟨#[]⟩) (.slice none 0 0)
  generalize (w.alloc (.cells #[.int .i64 t.k, .int .i64 t.n, .string t.s, .slice t.p t.l.length t.c] 27)).alloc (.cells #[.int .i64 0, .int .i64 0, .string ⟨#[]⟩, .slice none 0 0] 27) = wA at *
  obtain ⟨⟨b0, b1, b2, b3⟩, _, _⟩ := HB.out.parts
  go_upto_region 5 with fail
  clear b0 b1 b2 b3
  go_cut [20] from 20 to 33 (fun c wx => c = .bool (!t.erase.joins) ∧ Gr wA wx)
  case first =>
    obtain ⟨⟨b0, b1, b2, b3⟩, _, _⟩ := HB.out.parts
    have hj : t.erase.joins = (t.erase.isOf [44] 2 || t.erase.isOf [59] 2 || t.erase.isOf [45, 62] 2) := rfl
    have HJ := Lib.hid hj
    clear hj
    have h44 := Lib.hid (show t.erase.isOf (ByteArray.mk #[44]).toList 2 = t.erase.isOf [44] 2 by rw [bl44])
    have h59 := Lib.hid (show t.erase.isOf (ByteArray.mk #[59]).toList 2 = t.erase.isOf [59] 2 by rw [bl59])
    have h62 := Lib.hid (show t.erase.isOf (ByteArray.mk #[45, 62]).toList 2 = t.erase.isOf [45, 62] 2 by rw [bl4562])
    have gX : Gr wA wA := Gr.rfl' wA
    generalize t.erase.isOf [44] 2 = j1 at *
    generalize t.erase.isOf [59] 2 = j2 at *
    generalize t.erase.isOf [45, 62] 2 = j3 at *
    cases j1 <;> cases j2 <;> cases j3
    all_goals
      go_wp2_with (first
        | (go_at_call 121; rewrite [← HV.out]; refine (is_calls _ _ _ _).mono ?_; rintro e w' ⟨rfl, hb⟩; (first | rewrite [h44.out] | rewrite [h59.out] | rewrite [h62.out]); replace HB := Lib.hid (HB.out.gr hb); replace gX := Gr.trans gX hb; clear b0 b1 b2 b3; obtain ⟨⟨b0, b1, b2, b3⟩, _, _⟩ := HB.out.parts; clear hb)
        | fail)
      go_meet
      exact ⟨by rw [HJ.out]; rfl, gX⟩
  case rest =>
    obtain ⟨rfl, gx⟩ := hcut
    have HB2 := Lib.hid (HB.out.gr gx)
    have HR2 := Lib.hid (HR.out.gr gx)
    have g2 : Gr w wc := gA.trans gx
    have hws : w.heap.size + 2 ≤ wc.heap.size := by have h1 := HR2.out.parts.2.2; omega
    clear HB HR gx gA
    obtain ⟨⟨b0, b1, b2, b3⟩, _, _⟩ := HB2.out.parts
    obtain ⟨⟨y0, y1, y2, y3⟩, ⟨f0, f1, f2, f3⟩, hlt⟩ := HR2.out.parts
    cases hj : t.erase.joins with
    | false =>
      have hbd : Hid (T.body t.erase = some t.erase) := by
        obtain ⟨k, n, s, p, c, l⟩ := t
        exact body_plain Hk.out.1 Hk.out.2 hj
      go_wp2_with fail
      refine bodyPost_ret (v := .tuple #[t.val, .bool true]) (by simp (maxDischargeDepth := 9) [results, Try.results122, go_sem, Tm.val, y0, y1, y2, y3]) rfl ?_
      rw [← HQ.out, hbd.out]
      have hg : Gr w ((((wc.setCell ⟨w.heap.size + 1, 0, none⟩ (.int .i64 t.k)).setCell ⟨w.heap.size + 1, 1, none⟩ (.int .i64 t.n)).setCell ⟨w.heap.size + 1, 2, none⟩ (.string t.s)).setCell ⟨w.heap.size + 1, 3, none⟩ (.slice t.p t.l.length t.c)) := by go_grown
      exact ⟨t, true, rfl, Tm.In_below hg Hin.out, rfl, (fun u hu => by cases hu; rfl), hg, Hon.out.mono fun b hb => .inl hb⟩
    | true =>
      obtain ⟨x, y, hl⟩ : ∃ x y, t.l = [x, y] := by
        obtain ⟨k, n, s, X, Y, he⟩ := joins_two hj
        obtain ⟨k', n', s', p', c', l'⟩ := t
        rw [Tm.erase] at he
        injection he with _ _ _ he
        match l', he with
        | [x, y], _ => exact ⟨x, y, rfl⟩
        | [], he => rw [Tm.eraseL] at he; cases he
        | [_], he => rw [Tm.eraseL, Tm.eraseL] at he; cases he
        | _ :: _ :: _ :: _, he => rw [Tm.eraseL, Tm.eraseL, Tm.eraseL] at he; cases he
      have HJ := Lib.hid hj
      clear hj
      obtain ⟨k, n, s, p, c, l⟩ := t
      simp only [Tm.l] at hl
      subst hl
      simp only [Tm.k, Tm.n, Tm.s, Tm.p, Tm.c, Tm.l] at *
      have hsl := Lib.hid Hin.out.sl
      have hsz : s.size ≤ 140737488351232 := by have h := Hin.out; rw [Tm.In] at h; exact h.2.2.1
      have hbd := Lib.hid (body_joins (n := n) (x := x.erase) (y := y.erase) Hk.out.1 Hk.out.2 (by have := HJ.out; rw [Tm.erase, Tm.eraseL, Tm.eraseL, Tm.eraseL] at this; exact this))
      obtain ⟨b, o, rfl⟩ := hsl.out.ptr (by simp)
      obtain ⟨⟨x0, x1, x2, x3⟩, hxi, _⟩ := (hsl.out.mono g2).elem 0 (by simp)
      obtain ⟨⟨z0, z1, z2, z3⟩, hyi, _⟩ := (hsl.out.mono g2).elem 1 (by simp)
      simp only [List.getElem_cons_zero, List.getElem_cons_succ, Nat.zero_mul, Nat.add_zero, Nat.one_mul] at x0 x1 x2 x3 z0 z1 z2 z3 hxi hyi
      have hon2 := Hon.out
      rw [Tm.On, Tm.OnL, Tm.OnL] at hon2
      have hfm2 := formed_two_inv (x := x.erase) (y := y.erase) (by have := Hfm.out; rw [Tm.erase, Tm.eraseL, Tm.eraseL, Tm.eraseL] at this; exact this)
      have Hxi := Lib.hid hxi
      have Hyi := Lib.hid hyi
      have Hxo := Lib.hid hon2.2.1
      have Hyo := Lib.hid hon2.2.2.1
      have Hxf := Lib.hid hfm2.2.2.2.1
      have Hyf := Lib.hid hfm2.2.2.2.2
      have Hix := Lib.hid (Hih.out x (by simp))
      have Hiy := Lib.hid (Hih.out y (by simp))
      have Hxv := Lib.hid (show x.val = .agg #[.int .i64 x.k, .int .i64 x.n, .string x.s, .slice x.p x.l.length x.c] from rfl)
      have Hyv := Lib.hid (show y.val = .agg #[.int .i64 y.k, .int .i64 y.n, .string y.s, .slice y.p y.l.length y.c] from rfl)
      clear hxi hyi hon2 hfm2
      go_upto_region 8 with (first
        | (go_at_call 122; rewrite [← Hxv.out]; refine (Hix.out S wc Hxi.out Hxf.out Hxo.out (fun b hb => Nat.lt_of_lt_of_le (HS.out b hb) g2.size)).mono ?_; rintro e w3 ⟨am, ok1, rfl, hai, hao, hau, hga, haon⟩; have Hai := Lib.hid hai; have Hao := Lib.hid hao; have Hau := Lib.hid hau; have Haon := Lib.hid haon; clear hai hao hau haon; obtain ⟨ka, na, sa, pa, ca, la⟩ := am; rewrite [tm_val])
        | fail)
      have hAb := Blk4.new w3 (.int .i64 ka) (.int .i64 na) (.string sa) (.slice pa la.length ca)
      have g4' : Gr w3 (w3.alloc (.cells #[.int .i64 ka, .int .i64 na, .string sa, .slice pa la.length ca] 27)) := by go_grown
      have hs4 : (w3.alloc (.cells #[.int .i64 ka, .int .i64 na, .string sa, .slice pa la.length ca] 27)).heap.size = w3.heap.size + 1 := by simp
      generalize w3.alloc (.cells #[.int .i64 ka, .int .i64 na, .string sa, .slice pa la.length ca] 27) = w4 at *
      have g24 : Gr wc w4 := hga.trans g4'
      have g4 : Gr w w4 := g2.trans g24
      have HB4 := Lib.hid (HB2.out.gr g24)
      have HR4 := Lib.hid (HR2.out.gr g24)
      have HA4 := Lib.hid hAb
      replace z0 := Gr.at g24 z0
      replace z1 := Gr.at g24 z1
      replace z2 := Gr.at g24 z2
      replace z3 := Gr.at g24 z3
      have hs3 := hga.size
      have hs4' : w3.heap.size ≤ w4.heap.size := by omega
      clear hs4
      have Hai4 := Lib.hid (Tm.In_below g4' Hai.out)
      clear b0 b1 b2 b3 y0 y1 y2 y3 f0 f1 f2 f3 x0 x1 x2 x3 hAb hga g4' HB2 HR2 hlt
      obtain ⟨⟨b0, b1, b2, b3⟩, _, _⟩ := HB4.out.parts
      go_upto_region 9 with (first
        | (go_at_call 122; rewrite [← Hyv.out]; refine (Hiy.out S w4 (Tm.In_below g24 Hyi.out) Hyf.out Hyo.out (fun b hb => Nat.lt_of_lt_of_le (HS.out b hb) g4.size)).mono ?_; rintro e w5 ⟨bm, ok2, rfl, hbi, hbo, hbu, hgb, hbon⟩; have Hbi := Lib.hid hbi; have Hbo := Lib.hid hbo; have Hbu := Lib.hid hbu; have Hbon := Lib.hid hbon; clear hbi hbo hbu hbon; obtain ⟨kb, nb, sb, pb, cb, lb⟩ := bm; rewrite [tm_val])
        | fail)
      have hBb := Blk4.new w5 (.int .i64 kb) (.int .i64 nb) (.string sb) (.slice pb lb.length cb)
      have g6' : Gr w5 (w5.alloc (.cells #[.int .i64 kb, .int .i64 nb, .string sb, .slice pb lb.length cb] 27)) := by go_grown
      have hs6 : (w5.alloc (.cells #[.int .i64 kb, .int .i64 nb, .string sb, .slice pb lb.length cb] 27)).heap.size = w5.heap.size + 1 := by simp
      generalize w5.alloc (.cells #[.int .i64 kb, .int .i64 nb, .string sb, .slice pb lb.length cb] 27) = w6 at *
      have g46 : Gr w4 w6 := hgb.trans g6'
      have g6 : Gr w w6 := g4.trans g46
      have HB6 := Lib.hid (HB4.out.gr g46)
      have HR6 := Lib.hid (HR4.out.gr g46)
      have HA6 := Lib.hid (HA4.out.gr g46)
      have HBb6 := Lib.hid hBb
      have hs5 := hgb.size
      have hs6' : w5.heap.size ≤ w6.heap.size := by omega
      clear hs6
      have Hai6 := Lib.hid (Tm.In_below g46 Hai4.out)
      have Hbi6 := Lib.hid (Tm.In_below g6' Hbi.out)
      have hlt6 := HR6.out.parts.2.2
      clear b0 b1 b2 b3 z0 z1 z2 z3 hBb hgb g6' HB4 HR4 HA4
      obtain ⟨⟨b0, b1, b2, b3⟩, _, _⟩ := HB6.out.parts
      obtain ⟨⟨p0, p1, p2, p3⟩, _, _⟩ := HA6.out.parts
      obtain ⟨⟨q0, q1, q2, q3⟩, _, _⟩ := HBb6.out.parts
      have hres : Hid (∀ w', Gr (w6.alloc (.cells #[.int .i64 ka, .int .i64 na, .string sa, .slice pa la.length ca, .int .i64 kb, .int .i64 nb, .string sb, .slice pb lb.length cb] 27)) w' → Q (.returned (.tuple #[(compTm s (some ⟨w6.heap.size, 0, none⟩) 2 [.mk ka na sa pa ca la, .mk kb nb sb pb cb lb]).val, .bool (ok1 && ok2)])) ((((w'.setCell ⟨w.heap.size + 1, 0, none⟩ (.int .i64 4)).setCell ⟨w.heap.size + 1, 1, none⟩ (.int .i64 0)).setCell ⟨w.heap.size + 1, 2, none⟩ (.string s)).setCell ⟨w.heap.size + 1, 3, none⟩ (.slice (some ⟨w6.heap.size, 0, none⟩) 2 2))) := by
        intro w' hb
        have hsl2 := two_new (t := .mk ka na sa pa ca la) (u := .mk kb nb sb pb cb lb) Hai6.out Hbi6.out hb
        have gw : Gr w w' := g6.trans (below_step hb (by go_grown))
        have hS' : ∀ b, S b → b < w.heap.size := HS.out
        have hg : Gr w ((((w'.setCell ⟨w.heap.size + 1, 0, none⟩ (.int .i64 4)).setCell ⟨w.heap.size + 1, 1, none⟩ (.int .i64 0)).setCell ⟨w.heap.size + 1, 2, none⟩ (.string s)).setCell ⟨w.heap.size + 1, 3, none⟩ (.slice (some ⟨w6.heap.size, 0, none⟩) 2 2)) := by go_grown
        have hon : (compTm s (some ⟨w6.heap.size, 0, none⟩) 2 [.mk ka na sa pa ca la, .mk kb nb sb pb cb lb]).On fun b => S b ∨ w.heap.size + 2 ≤ b := by
          rw [compTm, Tm.On, Tm.OnL, Tm.OnL, Tm.OnL]
          exact ⟨.inr ⟨_, _, rfl, .inr (by omega)⟩, Haon.out.mono fun b hb => hb.imp id fun h => by omega, Hbon.out.mono fun b hb => hb.imp id fun h => by omega, trivial⟩
        rw [← HQ.out]
        refine ⟨_, _, rfl, ?_, ?_, ?_, hg, hon.mono fun b hb => hb.imp id fun h => by omega⟩
        · exact in_after' (compTm_in hsz hsl2) hon fun b h1 h2 o => by
            have : b ≠ w.heap.size + 1 := by
              rcases h1 with h1 | h1
              · have := hS' b h1; omega
              · omega
            rw [cell_set_ne this, cell_set_ne this, cell_set_ne this, cell_set_ne this]
        · rw [Tm.erase, Tm.eraseL, Tm.eraseL, Tm.eraseL, hbd.out, Hao.out, Hbo.out]
          cases T.body x.erase <;> cases T.body y.erase <;> rfl
        · intro u hu
          rw [Tm.erase, Tm.eraseL, Tm.eraseL, Tm.eraseL, hbd.out] at hu
          cases ha : T.body x.erase with
          | none => rw [ha] at hu; cases hu
          | some a =>
            cases hc : T.body y.erase with
            | none => rw [ha, hc] at hu; cases hu
            | some e =>
              rw [ha, hc] at hu
              cases hu
              rw [compTm, Tm.erase, Tm.eraseL, Tm.eraseL, Tm.eraseL, Hau.out a ha, Hbu.out e hc]
              rfl
      cases ok1 <;> cases ok2
      all_goals
        go_wp2_with (first
          | (go_at_call 148; refine (comp_calls _ _ _ _ _).mono ?_; rintro e w' ⟨rfl, hb⟩; have hfin := Lib.hid (hres.out w' hb); have gb : Gr w6 w' := below_step hb (by go_grown); obtain ⟨⟨y0, y1, y2, y3⟩, ⟨f0, f1, f2, f3⟩, hlt⟩ := (HR6.out.gr gb).parts; clear hb b0 b1 b2 b3 p0 p1 p2 p3 q0 q1 q2 q3)
          | fail)
        exact bodyPost_ret (by simp (maxDischargeDepth := 9) [results, Try.results122, go_sem, compTm, Tm.val, Tm.k, Tm.n, Tm.s, Tm.p, Tm.c, Tm.l, y0, y1, y2, y3]) rfl hfin.out

theorem body_any (NN : Nat) : ∀ t : Tm, SizeOf.sizeOf t ≤ NN → bodyOf t := by
  induction NN with
  | zero => intro t h; cases t; simp at h
  | succ NN ih =>
    intro t hN S w hin hfm hon hS
    by_cases hk1 : t.k = 1
    · obtain ⟨k, n, s, p, c, l⟩ := t
      obtain rfl : k = 1 := hk1
      have := body_walk_var n s p c l S w hin hon hS
      rw [Tm.erase] at this ⊢
      rw [body_var]
      exact this
    by_cases hk2 : t.k = 2
    · obtain ⟨k, n, s, p, c, l⟩ := t
      obtain rfl : k = 2 := hk2
      rw [Tm.erase, body_int]
      exact body_walk_int n s p c l S w
    refine body_walk_rest t hk1 hk2 (fun x hx => ih x ?_) S w hin hfm hon hS
    obtain ⟨k, n, s, p, c, l⟩ := t
    have := Tm.sizeOf_mem (l := l) hx k n s p c
    omega

theorem body_calls {t : Tm} {S : Nat → Prop} {w : World} (h : t.In w) (hf : t.erase.formed = true) (hon : t.On S) (hS : ∀ b, S b → b < w.heap.size) : Calls Try.prog 122 #[t.val] w (RetBody S (T.body t.erase) w) := body_any _ t (Nat.le_refl _) S w h hf hon hS
end Go.Proofs.Ytmecghjnghhhkaa

namespace Go.Proofs.Ytmecghjnghhhkaa
open Go.RowKit

/-- A term is handed back, and an error's number. -/
def RetTE (r : T × Int) (w : World) (e : Ending) (w' : World) : Prop := ∃ bm : Tm, e = .returned (.tuple #[bm.val, .int .i64 r.2]) ∧ bm.In w' ∧ bm.erase = r.1 ∧ Gr w w'

def bodyAns (t : T) : T × Int := if t.formed then (match T.body t with
  | some u => (u, 0)
  | none => (zeroT, 7)) else (zeroT, 2)
theorem bodyAns_bad {t : T} (h : t.formed = false) : bodyAns t = (zeroT, 2) := by rw [bodyAns, h]; rfl
theorem bodyAns_none {t : T} (h : t.formed = true) (hb : T.body t = none) : bodyAns t = (zeroT, 7) := by rw [bodyAns, if_pos h, hb]
theorem bodyAns_some {t u : T} (h : t.formed = true) (hb : T.body t = some u) : bodyAns t = (u, 0) := by rw [bodyAns, if_pos h, hb]

theorem zeroTm_val : zeroTm.val = .agg #[.int .i64 0, .int .i64 0, .string ⟨#[]⟩, .slice none 0 0] := rfl
theorem formedL_one (t : Tm) : T.formedL (Tm.eraseL [t]) = t.erase.formed := by rw [Tm.eraseL, Tm.eraseL, T.formedL, T.formedL, Bool.and_true]

set_option maxHeartbeats 2000000 in
set_option maxRecDepth 100000 in
theorem Body_calls (t : Tm) (w : World) (hin : t.In w) : Calls Try.prog 70 #[t.val] w (RetTE (bodyAns t.erase) w) := by
  have Hin := Lib.hid hin
  have hR0 : Hid (∀ E : Int, bodyAns t.erase = (zeroT, E) → ∀ w', Gr w w' → RetTE (bodyAns t.erase) w (.returned (.tuple #[zeroTm.val, .int .i64 E])) w') := fun E hE w' hg => by rw [hE]; exact ⟨zeroTm, rfl, zeroTm_in _, zeroTm_erase, hg⟩
  have hR1 : Hid (∀ (bm : Tm), bodyAns t.erase = (bm.erase, 0) → ∀ w', bm.In w' → Gr w w' → RetTE (bodyAns t.erase) w (.returned (.tuple #[bm.val, .int .i64 0])) w') := fun bm hb w' hi hg => by rw [hb]; exact ⟨bm, rfl, hi, rfl, hg⟩
  have hfl := Lib.hid (formedL_one t)
  have hA2 := Lib.hid (fun h => bodyAns_bad (t := t.erase) h)
  have hA7 := Lib.hid (fun h h2 => bodyAns_none (t := t.erase) h h2)
  have hA0 := Lib.hid (fun u h h2 => bodyAns_some (t := t.erase) (u := u) h h2)
  generalize bodyAns t.erase = r at *
  generalize hQ : RetTE r w = Q at *
  clear hQ hin
  have Hv := Lib.hid (show t.val = .agg #[.int .i64 t.k, .int .i64 t.n, .string t.s, .slice t.p t.l.length t.c] from rfl)
  rw [Hv.out]
  go_enter Try.func70, Try.ntmps70
  try simp only [List.append_eq, List.cons_append, List.nil_append]
  go_upto_region 1 with fail
  obtain ⟨HB, HR, gA⟩ := two_blocks w (.int .i64 t.k) (.int .i64 t.n) (.string t.s) (.slice t.p t.l.length t.c) (.int .i64 0) (.int .i64 0) (.string ⟨#[]⟩) (.slice none 0 0)
  generalize (w.alloc (.cells #[.int .i64 t.k, .int .i64 t.n, .string t.s, .slice t.p t.l.length t.c] 27)).alloc (.cells #[.int .i64 0, .int .i64 0, .string ⟨#[]⟩, .slice none 0 0] 27) = wA at *
  obtain ⟨⟨b0, b1, b2, b3⟩, _, _⟩ := HB.out.parts
  have hszA : w.heap.size + 1 < wA.heap.size := HR.out.parts.2.2
  cases hf : t.erase.formed with
  | false =>
    have hv := Lib.hid (hR0.out 2 (hA2.out hf))
    have hff := Lib.hid (hfl.out.trans hf)
    clear hf
    go_wp2_with (first
      | (go_at_call 77; refine (all_calls (one_new (t := t) (Tm.In_below gA Hin.out) (Gr.rfl' _))).mono ?_; rintro e w' ⟨rfl, hb⟩; rewrite [hff.out]; have g2 : Gr wA w' := below_step hb (by go_grown); obtain ⟨⟨y0, y1, y2, y3⟩, ⟨f0, f1, f2, f3⟩, hlt⟩ := (HR.out.gr g2).parts; clear hb b0 b1 b2 b3)
      | fail)
    exact bodyPost_ret (by simp (maxDischargeDepth := 9) [results, Try.results70, go_sem, zeroTm, Tm.val, Tm.k, Tm.n, Tm.s, Tm.p, Tm.c, Tm.l, y0, y1, y2, y3]) rfl (hv.out _ (by have := gA.trans g2; go_grown))
  | true =>
    have hff := Lib.hid (hfl.out.trans hf)
    have Hf := Lib.hid hf
    clear hf
    cases hb : T.body t.erase with
    | none =>
      have hv := Lib.hid (hR0.out 7 (hA7.out Hf.out hb))
      have Hb := Lib.hid hb
      clear hb
      go_wp2_with (first
        | (go_at_call 77; refine (all_calls (one_new (t := t) (Tm.In_below gA Hin.out) (Gr.rfl' _))).mono ?_; rintro e w' ⟨rfl, hb⟩; rewrite [hff.out]; have g2 : Gr wA w' := below_step hb (by go_grown); clear hb b0 b1 b2 b3; obtain ⟨⟨b0, b1, b2, b3⟩, _, _⟩ := (HB.out.gr g2).parts)
        | (go_at_call 90; rewrite [← Hv.out]; refine (copy_calls (t := t) (Tm.In_below (gA.trans g2) Hin.out) Hf.out).mono ?_; rintro e w2 ⟨cm, hci, hce, rfl, hcb, hco⟩; have hcf := Lib.hid (hce ▸ Hf.out); have Hci := Lib.hid hci; have Hce := Lib.hid hce; have Hco := Lib.hid (Tm.On.and hco hci.on); have g3 := g2.trans hcb; clear hci hce hco hcb b0 b1 b2 b3)
        | (go_at_call 122; refine (body_calls (t := cm) (S := fun b => w'.heap.size ≤ b ∧ b < w2.heap.size) Hci.out hcf.out Hco.out (fun b hb => hb.2)).mono ?_; rw [Hce.out, Hb.out]; rintro e w3 ⟨bm, ok, rfl, hbi, rfl, _, hbb, _⟩; obtain ⟨kb, nb, sb, pb, cb, lb⟩ := bm; rewrite [tm_val]; have g4 := g3.trans hbb; obtain ⟨⟨y0, y1, y2, y3⟩, ⟨f0, f1, f2, f3⟩, hlt⟩ := (HR.out.gr g4).parts; clear hbi hbb)
        | fail)
      exact bodyPost_ret (by simp (maxDischargeDepth := 9) [results, Try.results70, go_sem, hlt, zeroTm, Tm.val, Tm.k, Tm.n, Tm.s, Tm.p, Tm.c, Tm.l, y0, y1, y2, y3]) rfl (hv.out _ (by have := gA.trans g4; go_grown))
    | some u =>
      have hv := Lib.hid (hA0.out u Hf.out hb)
      have Hb := Lib.hid hb
      clear hb
      go_wp2_with (first
        | (go_at_call 77; refine (all_calls (one_new (t := t) (Tm.In_below gA Hin.out) (Gr.rfl' _))).mono ?_; rintro e w' ⟨rfl, hb⟩; rewrite [hff.out]; have g2 : Gr wA w' := below_step hb (by go_grown); clear hb b0 b1 b2 b3; obtain ⟨⟨b0, b1, b2, b3⟩, _, _⟩ := (HB.out.gr g2).parts)
        | (go_at_call 90; rewrite [← Hv.out]; refine (copy_calls (t := t) (Tm.In_below (gA.trans g2) Hin.out) Hf.out).mono ?_; rintro e w2 ⟨cm, hci, hce, rfl, hcb, hco⟩; have hcf := Lib.hid (hce ▸ Hf.out); have Hci := Lib.hid hci; have Hce := Lib.hid hce; have Hco := Lib.hid (Tm.On.and hco hci.on); have g3 := g2.trans hcb; clear hci hce hco hcb b0 b1 b2 b3)
        | (go_at_call 122; refine (body_calls (t := cm) (S := fun b => w'.heap.size ≤ b ∧ b < w2.heap.size) Hci.out hcf.out Hco.out (fun b hb => hb.2)).mono ?_; rw [Hce.out, Hb.out]; rintro e w3 ⟨bm, ok, rfl, hbi, rfl, hbu, hbb, hbo⟩; have Hbi := Lib.hid hbi; have Hbu := Lib.hid (hbu u rfl); have Hbo := Lib.hid hbo; have hs2 := g2.size; have hs3 := g3.size; obtain ⟨kb, nb, sb, pb, cb, lb⟩ := bm; rewrite [tm_val]; have g4 := g3.trans hbb; obtain ⟨⟨y0, y1, y2, y3⟩, ⟨f0, f1, f2, f3⟩, hlt⟩ := (HR.out.gr g4).parts; clear hbi hbb hbu hbo)
        | fail)
      refine bodyPost_ret (v := .tuple #[(Tm.mk kb nb sb pb cb lb).val, .int .i64 0]) (by simp (maxDischargeDepth := 9) [results, Try.results70, go_sem, hlt, Tm.val, Tm.k, Tm.n, Tm.s, Tm.p, Tm.c, Tm.l, y0, y1, y2, y3]) rfl ?_
      refine hR1.out (.mk kb nb sb pb cb lb) (by rw [Hbu.out]; exact hv.out) _ ?_ (by have := gA.trans g4; go_grown)
      exact in_after' Hbi.out Hbo.out fun b h1 h2 o => by
        have h3 : b ≠ w.heap.size + 1 := by
          rcases h1 with h1 | h1
          · omega
          · omega
        rw [World.cell?_alloc_past _ _ _ (by simpa using h2), cell_set_ne h3, cell_set_ne h3, cell_set_ne h3, cell_set_ne h3]
end Go.Proofs.Ytmecghjnghhhkaa

namespace Go.Proofs.Ytmecghjnghhhkaa
open Go.RowKit Go.Maps

theorem mem_withVar (V : List Int) (n : Int) : n ∈ withVar V n := by
  unfold withVar
  split
  · assumption
  · exact List.mem_append_right _ (List.mem_singleton.2 rfl)

theorem eraseL_takes (l : List Tm) (k : Nat) : Tm.eraseL (l.take k) = (Tm.eraseL l).take k := by
  induction l generalizing k with
  | nil => simp [Tm.eraseL]
  | cons x xs ih =>
    cases k with
    | zero => simp [Tm.eraseL]
    | succ k => rw [List.take_succ_cons, Tm.eraseL, Tm.eraseL, List.take_succ_cons, ih]
theorem varsL_step (l : List Tm) (k : Nat) (hk : k < l.length) (V : List Int) : T.varsL (Tm.eraseL (l.take (k + 1))) V = T.vars l[k].erase (T.varsL (Tm.eraseL (l.take k)) V) := by
  rw [List.take_succ_eq_append_getElem hk, eraseL_append, T.varsL_append, Tm.eraseL, Tm.eraseL, T.varsL_single]
theorem formedL_erase {l : List Tm} (h : ∀ x ∈ l, x.erase.formed = true) : T.formedL (Tm.eraseL l) = true := by
  induction l with
  | nil => rw [Tm.eraseL, T.formedL]
  | cons x xs ih =>
    rw [Tm.eraseL, T.formedL, h x (List.mem_cons_self ..), ih fun y hy => h y (List.mem_cons_of_mem _ hy)]
    rfl
theorem mapL_step (l : List Tm) (hf : ∀ x ∈ l, x.erase.formed = true) (k : Nat) (hk : k < l.length) (d : Int) (V : List Int) :
    T.mapL (swapF d (T.varsL (Tm.eraseL (l.take (k + 1))) V)) (Tm.eraseL (l.take (k + 1))) =
      T.mapL (swapF d (T.varsL (Tm.eraseL (l.take k)) V)) (Tm.eraseL (l.take k)) ++ [T.map (swapF d (T.vars l[k].erase (T.varsL (Tm.eraseL (l.take k)) V))) l[k].erase] := by
  rw [T.mapL_erase _ l k hk, varsL_step l k hk V]
  congr 1
  exact T.mapL_swap (T.vars_prefix _ _) (T.varsL_within _ _ (formedL_erase fun x hx => hf x (List.mem_of_mem_take hx)))

set_option maxHeartbeats 4000000 in
set_option maxRecDepth 100000 in
theorem mapRen_any (NN : Nat) : ∀ (t : Tm) (d : Int) (V : List Int) (N M F : Nat) (w0 w : World), SizeOf.sizeOf t ≤ NN → t.In w0 → t.erase.formed = true → Gr w0 w → (w0.heap.size ≤ M ∧ w0.heap.size ≤ F) → (0 ≤ d ∧ d ≤ 1099511627777) → VarsOk V → RenSt d V N M F w →
    Calls Try.prog 142 #[t.val, .func (.func 152) #[] #[.pointer (some ⟨N, 0, none⟩), .pointer (some ⟨F, 0, none⟩)]] w (RetRen d V t.erase N M F w) := by
  induction NN with
  | zero => intro t d V N M F w0 w h; cases t; simp at h
  | succ NN ih =>
    intro t d V N M F w0 w hN h hfm hgr hMF hd hV hst
    obtain ⟨k, n, s, p, c, l⟩ := t
    by_cases hk1 : k = 1
    · subst hk1
      have hn := formed_var hfm
      refine (mapRen_var d V n s p c l N M F w hn.1 hd hV hst).mono ?_
      rintro e w' ⟨rfl, h1, h2⟩
      have hv : T.vars (Tm.mk 1 n s p c l).erase V = withVar V n := by rw [Tm.erase, T.vars, if_pos rfl]; rfl
      have hlen := (hV.one hn.1).len
      have hidx : (withVar V n).idxOf n < (withVar V n).length := List.idxOf_lt_length_of_mem (mem_withVar V n)
      have hmem := mem_withVar V n
      refine ⟨varTm _, varTm_in (by change (withVar V n).length ≤ _ at hlen; exact ⟨by omega, by omega⟩) _, ?_, rfl, by rw [hv]; exact h1, h2, varTm_on _⟩
      rw [hv, varTm_erase, Tm.erase, T.map, if_pos rfl, swapF, if_pos hmem]
    by_cases hk4 : k = 4
    · subst hk4
      obtain ⟨rfl, h100, hl1, hl50, hfl⟩ := formed_elem rfl hfm
      have hsz := fun x (hx : x ∈ l) => Tm.sizeOf_mem hx 4 0 s p c
      have HSl := Lib.hid h.sl
      rw [Tm.In] at h
      obtain ⟨hk, hn, hs, hlc, hc, hp, hIn⟩ := h
      obtain ⟨b, o, rfl⟩ := HSl.out.ptr (by omega)
      have Hih := Lib.hid ih
      have Hsz := Lib.hid hsz
      have Hfl := Lib.hid hfl
      have Hs := Lib.hid hs
      have HIn := Lib.hid hIn
      have Hst := Lib.hid hst
      have HV := Lib.hid hV
      have Hd := Lib.hid hd
      obtain ⟨hlN, hlM, hlF⟩ := hst.lts
      have hNe := hst.apart
      obtain ⟨hm0, hf0⟩ := hMF
      have hgs := hgr.size
      clear hp hIn ih hsz hfl hk hn hfm hst hV hd
      obtain ⟨i0, hi, hz0, hz1, hz2⟩ := info_parts infoTermM
      have Hi := Lib.hid hi
      clear hi
      rw [Tm.erase]
      have hR : Hid (∀ e w', RetRen d V (.mk 4 0 s.toList (Tm.eraseL l)) N M F w e w' → RetRen d V (.mk 4 0 s.toList (Tm.eraseL l)) N M F w e w') := fun _ _ h => h
      generalize hQ : RetRen d V (.mk 4 0 s.toList (Tm.eraseL l)) N M F w = Q at hR ⊢
      rw [← hQ] at hR
      have HQ := Lib.hid hQ
      clear hQ
      have hen : ∀ args w, (callFunc 152 args).run Try.prog w = .ok (.enter 152 args) w := fun args w => by kernel_rfl
      simp only [Tm.val, Tm.k, Tm.n, Tm.s, Tm.p, Tm.c, Tm.l]
      go_enter Try.func142, Try.ntmps142
      go_wp2_with
        (refine wpList_make_full _ rfl _ _ 25 rfl (w.heap.size) 27 i0 _ 4 Try.underlying25 Hi.out hz0 hz1 .i64 .i64 _ _ l.length rfl rfl rfl rfl (by rw [hz2]; omega) (by simp only [maxLen]; omega) (by simp; omega) ?_
         intro w1 hown hgrow
         have HF := fill_made (S := fun _ => False) hown
         have HA := (after_make hgrow).2
         obtain ⟨⟨b0, b1, b2, b3⟩, _, _⟩ := (after_make hgrow).1.parts
         clear hown hgrow)
      obtain ⟨HB, HRR, g1⟩ := HA.out
      replace HB := Lib.hid HB
      replace HRR := Lib.hid HRR
      have hg2 : w.heap.size + 1 + 1 < w1.heap.size := HF.out.lt
      clear b0 b1 b2 b3 HA
      have Hst1 : Hid (RenSt d V N M F w1) := Hst.out.gr g1
      go_loopg [25] l.length (fun m i wr => ∃ k : Nat, k ≤ l.length ∧ m = l.length - k ∧ i = .int .i64 k ∧
        Hid (∃ lm : List Tm, lm.length = k ∧ Tm.eraseL lm = T.mapL (swapF d (T.varsL (Tm.eraseL (l.take k)) V)) (Tm.eraseL (l.take k)) ∧ Filling wr (w.heap.size + 1 + 1) (fun _ => False) (w.heap.size + 1 + 1) l.length lm) ∧
        Hid (RenSt d (T.varsL (Tm.eraseL (l.take k)) V) N M F wr) ∧ Hid (VarsOk (T.varsL (Tm.eraseL (l.take k)) V)) ∧ Hid (Kp (fun b => MF M F b ∨ b = w.heap.size + 1 + 1) w1 wr))
      case atStart => exact ⟨0, Nat.zero_le _, rfl, rfl, ⟨[], rfl, by simp [T.mapL, Tm.eraseL], HF.out⟩, by rw [List.take_zero, Tm.eraseL, T.varsL]; exact Hst1.out, by rw [List.take_zero, Tm.eraseL, T.varsL]; exact HV.out, Kp.refl _ _⟩
      case round =>
        obtain ⟨k, hk, rfl, rfl, hlm, HSt, HVk, HK⟩ := hrel
        have HB' := Lib.hid (HB.out.kp HK.out (by omega))
        have HR' := Lib.hid (HRR.out.kp HK.out (by omega))
        have hbs := HK.out.size
        have g0 : Gr w0 wr := Below.trans (Gr.trans hgr g1) (HK.out.below (B := w0.heap.size) (fun b hb => by rcases hb with (hb | hb) | hb <;> omega) (by have := g1.size; omega))
        by_cases hlt : k < l.length
        · obtain ⟨⟨c0, c1, c2, c3⟩, _, _⟩ := (HSl.out.mono g0).elem k hlt
          have hmem : l[k] ∈ l := List.getElem_mem hlt
          have Hx := Lib.hid (Tm.InL_mem HIn.out _ hmem)
          have Hz := Hsz.out _ hmem
          have Hfx := Lib.hid (Hfl.out _ hmem)
          have Hv1 := Lib.hid (varsL_step l k hlt V)
          have Hm1 := Lib.hid (mapL_step l Hfl.out k hlt d V)
          clear hmem
          generalize l[k] = x at *
          go_upto_region 8 with fail
          have gE : Gr wr (wr.alloc (.cells #[.int .i64 x.k, .int .i64 x.n, .string x.s, .slice x.p x.l.length x.c] 27)) := by go_grown
          have hE := Blk4.new wr (.int .i64 x.k) (.int .i64 x.n) (.string x.s) (.slice x.p x.l.length x.c)
          have hszE : (wr.alloc (.cells #[.int .i64 x.k, .int .i64 x.n, .string x.s, .slice x.p x.l.length x.c] 27)).heap.size = wr.heap.size + 1 := by simp
          generalize wr.alloc (.cells #[.int .i64 x.k, .int .i64 x.n, .string x.s, .slice x.p x.l.length x.c] 27) = wE at *
          obtain ⟨⟨y0, y1, y2, y3⟩, _, _⟩ := hE.parts
          clear c0 c1 c2 c3 hE
          have hxv : x.val = .agg #[.int .i64 x.k, .int .i64 x.n, .string x.s, .slice x.p x.l.length x.c] := rfl
          have Hxv := Lib.hid hxv
          clear hxv
          go_wp2_with fail
          rw [← Hxv.out]
          refine (Hih.out x d _ N M F w0 wE (by omega) Hx.out Hfx.out (g0.trans gE) ⟨hm0, hf0⟩ Hd.out HVk.out (HSt.out.gr gE)).mono ?_
          rintro e w2 ⟨xm, hin, he, rfl, hst2, hk2, hon⟩
          obtain ⟨lm, hl0, he0, hF⟩ := hlm.out
          have hF2 : Filling w2 (w.heap.size + 1 + 1) (fun _ => False) (w.heap.size + 1 + 1) l.length lm := (hF.gr gE).kp hk2 (fun b hb h => by rcases h with h | h <;> omega)
          have HF2 := Lib.hid hF2
          obtain ⟨⟨q0, r0⟩, fr0⟩ := hF2.spot (j := k * 4) (by omega)
          obtain ⟨⟨q1, r1⟩, fr1⟩ := hF2.spot (j := k * 4 + 1) (by omega)
          obtain ⟨⟨q2, r2⟩, fr2⟩ := hF2.spot (j := k * 4 + 2) (by omega)
          obtain ⟨⟨q3, r3⟩, fr3⟩ := hF2.spot (j := k * 4 + 3) (by omega)
          have Hl0 := Lib.hid hl0
          have He0 := Lib.hid he0
          have Hin := Lib.hid hin
          have Hon := Lib.hid hon
          have He := Lib.hid he
          have Hst2 := Lib.hid hst2
          have Hk2 := Lib.hid ((HK.out.trans (Kp.of_gr gE)).trans (hk2.mono fun _ h => .inl h))
          clear hF hF2 hl0 he0 hin hon he hst2 hk2 hlm y0 y1 y2 y3
          obtain ⟨k', n', s', p', c', l'⟩ := xm
          simp only [Tm.val, Tm.k, Tm.n, Tm.s, Tm.p, Tm.c, Tm.l]
          go_wp2_with fail
          go_roundg (l.length - (k + 1))
          case measure => omega
          case rel =>
            refine ⟨k + 1, by omega, rfl, by go_num, ⟨lm ++ [.mk k' n' s' p' c' l'], by simp [Hl0.out], by rw [eraseL_append, He0.out, Hm1.out]; simp [Tm.eraseL, He.out], ?_⟩, by rw [Hv1.out]; exact Hst2.out.kp (Kp.set4 (C := fun b => b = w.heap.size + 1 + 1) rfl) (by omega) (by omega) (by omega),
              by rw [Hv1.out]; exact HVk.out.vars _ Hfx.out, Hk2.out.trans (Kp.set4 (.inr rfl))⟩
            have := HF2.out.store (x := .mk k' n' s' p' c' l') (by rw [Hl0.out]; exact hlt) Hin.out (Hon.out.mono fun b hb => ⟨.inr (by omega), by omega⟩)
            rw [Hl0.out] at this
            simpa only [Tm.k, Tm.n, Tm.s, Tm.p, Tm.c, Tm.l] using this
        · obtain rfl : k = l.length := by omega
          obtain ⟨lm, hl0, he0, hF⟩ := hlm.out
          obtain ⟨⟨b0, b1, b2, b3⟩, ⟨e0, e1, e2, e3⟩, hbs1⟩ := HB'.out.parts
          obtain ⟨⟨y0, y1, y2, y3⟩, ⟨f0, f1, f2, f3⟩, hbs2⟩ := HR'.out.parts
          have HF := Lib.hid hF
          have Hl0 := Lib.hid hl0
          have He0 := Lib.hid he0
          clear hF hl0 he0 hlm
          have hvE : Hid (T.vars (.mk 4 0 s.toList (Tm.eraseL l)) V = T.varsL (Tm.eraseL (l.take l.length)) V) := by show _ = _; rw [T.vars, if_neg (by decide), List.take_length]
          go_wp2_with fail
          refine bodyPost_ret (v := (Tm.mk 4 0 s (some ⟨w.heap.size + 1 + 1, 0, none⟩) l.length lm).val) (by simp [results, Try.results142, go_sem, Tm.val, Tm.k, Tm.n, Tm.s, Tm.p, Tm.c, Tm.l, Hl0.out, y0, y1, y2, y3]) rfl ?_
          rw [← HQ.out]
          have hK5 : ∀ v0 v1 v2 v3 v4 : Value, Kp (fun b => b = w.heap.size ∨ b = w.heap.size + 1) wr (((((wr.setCell ⟨w.heap.size, 3, none⟩ v0).setCell ⟨w.heap.size + 1, 0, none⟩ v1).setCell ⟨w.heap.size + 1, 1, none⟩ v2).setCell ⟨w.heap.size + 1, 2, none⟩ v3).setCell ⟨w.heap.size + 1, 3, none⟩ v4) :=
            fun v0 v1 v2 v3 v4 => (Kp.set (.inl rfl)).trans (Kp.set4 (.inr rfl))
          refine ⟨_, ?_, ?_, rfl, ?_, ?_, ?_⟩
          · have hsl := HF.out.sl Hl0.out (by omega)
            have hin : (Tm.mk 4 0 s (some ⟨w.heap.size + 1 + 1, 0, none⟩) l.length lm).In wr := compTm_in Hs.out hsl.1
            have hon : (Tm.mk 4 0 s (some ⟨w.heap.size + 1 + 1, 0, none⟩) l.length lm).On (fun b => False ∨ w.heap.size + 1 + 1 ≤ b) := by rw [Tm.On]; exact hsl.2
            exact in_after' hin hon fun b h1 h2 o => by
              have : b ≠ w.heap.size ∧ b ≠ w.heap.size + 1 := by
                rcases h1 with h1 | h1
                · exact h1.elim
                · omega
              rw [cell_set_ne this.2, cell_set_ne this.2, cell_set_ne this.2, cell_set_ne this.2, cell_set_ne this.1]
          · rw [Tm.erase, He0.out, hvE.out, T.map, if_neg (by decide), if_pos rfl, List.take_length]
          · rw [hvE.out]
            exact HSt.out.kp (hK5 _ _ _ _ _) (by omega) (by omega) (by omega)
          · exact (((Kp.of_gr g1).trans (HK.out.mono (C' := fun b => MF M F b ∨ w.heap.size ≤ b) fun b h => h.imp id fun h => by omega)).trans ((hK5 _ _ _ _ _).mono fun b h => .inr (by omega))).weaken fun b hb hc => hc.resolve_right (by omega)
          · have hsl := HF.out.sl Hl0.out (by omega)
            rw [Tm.On]
            exact ⟨hsl.2.1.imp id fun ⟨b, o, h1, h2⟩ => ⟨b, o, h1, h2.elim (fun h => h.elim) fun h => by omega⟩, hsl.2.2.mono fun b hb => hb.elim (fun h => h.elim) fun h => by omega⟩
    · rw [Tm.erase]
      refine (map_leaf k n s p c l _ w (Tm.In_below hgr h) hk1 hk4).mono fun e w' ⟨bm, h1, h2, h3, h4, h5⟩ => ?_
      have hl : Tm.eraseL l = [] := by
        rcases formed_args (by rw [Tm.erase] at hfm; exact hfm) with ⟨h6, _⟩ | ⟨_, h6⟩
        · exact absurd h6 hk4
        · exact h6
      have hv : T.vars (.mk k n s.toList (Tm.eraseL l)) V = V := by rw [T.vars, if_neg hk1, hl, T.varsL]
      exact ⟨bm, h1, by rw [h2, T.map, if_neg hk1, if_neg hk4], h3, by rw [hv]; exact hst.gr h4, Kp.of_gr h4, h5⟩
end Go.Proofs.Ytmecghjnghhhkaa
