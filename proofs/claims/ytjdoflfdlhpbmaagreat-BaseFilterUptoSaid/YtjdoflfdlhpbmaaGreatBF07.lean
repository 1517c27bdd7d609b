/-
  base.body: the other kinds
  base.Body
  term.Map with the function of term.Renamed: any term.
  term.Renamed
-/
import Derived.Test.YtjdoflfdlhpbmaaGreatBF06
import Derived.Deep.QuietTactic
import Derived.BigQuiet
namespace Go.Proofs.YtjdoflfdlhpbmaaGreat
open Go.RowKit


set_option maxHeartbeats 2000000 in
set_option maxRecDepth 100000 in
theorem body_walk_int (n : Int) (s : ByteArray) (p : Option Addr) (c : Nat) (l : List Tm) (S : Nat → Prop) (w : World) :
    Calls Tryz.prog 21 #[(Tm.mk 2 n s p c l).val] w (RetBody S none w) := by
  have hR : Hid (∀ w', Gr w w' → RetBody S none w (.returned (.tuple #[zeroTm.val, .bool false])) w') := fun w' hg => ⟨zeroTm, false, rfl, zeroTm_in _, rfl, (fun u hu => by cases hu), hg, (by rw [zeroTm, Tm.On, Tm.OnL]; exact ⟨.inl rfl, trivial⟩)⟩
  generalize hQ : RetBody S none w = Q at hR ⊢
  clear hQ
  simp only [tm_val]
  go_enter Tryz.func21, Tryz.ntmps21
  go_wp2_with fail
  refine bodyPost_ret (v := .tuple #[zeroTm.val, .bool false]) (by simp (maxDischargeDepth := 9) [results, Tryz.results21, go_sem, zeroTm, Tm.val, Tm.k, Tm.n, Tm.s, Tm.p, Tm.c, Tm.l]) rfl ?_
  exact hR.out _ (by go_grown)

set_option maxHeartbeats 4000000 in
set_option maxRecDepth 100000 in
theorem body_walk_rest (t : Tm) (hk1 : t.k ≠ 1) (hk2 : t.k ≠ 2) (ih : ∀ x ∈ t.l, bodyOf x) (S : Nat → Prop) (w : World) (hin : t.In w) (hfm : t.erase.formed = true) (hon : t.On S) (hS : ∀ b, S b → b < w.heap.size) :
    Calls Tryz.prog 21 #[t.val] w (RetBody S (T.body t.erase) w) := by
  have Hin := Lib.hid hin
  have Hon := Lib.hid hon
  have HS := Lib.hid hS
  have Hih := Lib.hid ih
  have Hfm := Lib.hid hfm
  have Hk := Lib.hid (And.intro hk1 hk2)
  have hk1' : (t.k == 1) = false := beq_eq_false_iff_ne.2 hk1
  have hk2' : (t.k == 2) = false := beq_eq_false_iff_ne.2 hk2
  generalize hQ : RetBody S (T.body t.erase) w = Q
  have HQ := Lib.hid hQ
  clear hQ hin hon hS ih hfm hk1 hk2
  have hv : t.val = .agg #[.int .i64 t.k, .int .i64 t.n, .string t.s, .slice t.p t.l.length t.c] := rfl
  have HV := Lib.hid hv
  rw [hv]
  clear hv
  go_enter Tryz.func21, Tryz.ntmps21
  try simp only [List.append_eq, List.cons_append, List.nil_append]
  go_upto_region 1 with fail
  obtain ⟨HB, HR, gA⟩ := two_blocks w (.int .i64 t.k) (.int .i64 t.n) (.string t.s) (.slice t.p t.l.length t.c) (.int .i64 0) (.int .i64 0) (.string ⟨#[]⟩) (.slice none 0 0)
  generalize (w.alloc (.cells #[.int .i64 t.k, .int .i64 t.n, .string t.s, .slice t.p t.l.length t.c] 24)).alloc (.cells #[.int .i64 0, .int .i64 0, .string ⟨#[]⟩, .slice none 0 0] 24) = wA at *
  obtain ⟨⟨b0, b1, b2, b3⟩, _, _⟩ := HB.out.parts
  go_upto_region 5 with fail
  clear b0 b1 b2 b3
  go_cut [20] from 20 to 33 (fun c wx => c = .bool (!t.erase.joins) ∧ Gr wA wx)
  case first =>
    obtain ⟨⟨b0, b1, b2, b3⟩, _, _⟩ := HB.out.parts
    have hj : t.erase.joins = (t.erase.isOf [44] 2 || t.erase.isOf [59] 2 || t.erase.isOf [45, 62] 2) := rfl
    have HJ := Lib.hid hj
    clear hj
    have h44 := Lib.hid (show t.erase.isOf (ByteArray.mk #[44]).toList 2 = t.erase.isOf [44] 2 by rw [bl44])
    have h59 := Lib.hid (show t.erase.isOf (ByteArray.mk #[59]).toList 2 = t.erase.isOf [59] 2 by rw [bl59])
    have h62 := Lib.hid (show t.erase.isOf (ByteArray.mk #[45, 62]).toList 2 = t.erase.isOf [45, 62] 2 by rw [bl4562])
    have gX : Gr wA wA := Gr.rfl' wA
    generalize t.erase.isOf [44] 2 = j1 at *
    generalize t.erase.isOf [59] 2 = j2 at *
    generalize t.erase.isOf [45, 62] 2 = j3 at *
    cases j1 <;> cases j2 <;> cases j3
    all_goals
      go_wp2_with (first
        | (go_at_call 20; rewrite [← HV.out]; refine (is_calls _ _ _ _).mono ?_; rintro e w' ⟨rfl, hb⟩; (first | rewrite [h44.out] | rewrite [h59.out] | rewrite [h62.out]); replace HB := Lib.hid (HB.out.gr hb); replace gX := Gr.trans gX hb; clear b0 b1 b2 b3; obtain ⟨⟨b0, b1, b2, b3⟩, _, _⟩ := HB.out.parts; clear hb)
        | fail)
      go_meet
      exact ⟨by rw [HJ.out]; rfl, gX⟩
  case rest =>
    obtain ⟨rfl, gx⟩ := hcut
    have HB2 := Lib.hid (HB.out.gr gx)
    have HR2 := Lib.hid (HR.out.gr gx)
    have g2 : Gr w wc := gA.trans gx
    have hws : w.heap.size + 2 ≤ wc.heap.size := by have h1 := HR2.out.parts.2.2; omega
    clear HB HR gx gA
    obtain ⟨⟨b0, b1, b2, b3⟩, _, _⟩ := HB2.out.parts
    obtain ⟨⟨y0, y1, y2, y3⟩, ⟨f0, f1, f2, f3⟩, hlt⟩ := HR2.out.parts
    cases hj : t.erase.joins with
    | false =>
      have hbd : Hid (T.body t.erase = some t.erase) := by
        obtain ⟨k, n, s, p, c, l⟩ := t
        exact body_plain Hk.out.1 Hk.out.2 hj
      go_wp2_with fail
      refine bodyPost_ret (v := .tuple #[t.val, .bool true]) (by simp (maxDischargeDepth := 9) [results, Tryz.results21, go_sem, Tm.val, y0, y1, y2, y3]) rfl ?_
      rw [← HQ.out, hbd.out]
      have hg : Gr w ((((wc.setCell ⟨w.heap.size + 1, 0, none⟩ (.int .i64 t.k)).setCell ⟨w.heap.size + 1, 1, none⟩ (.int .i64 t.n)).setCell ⟨w.heap.size + 1, 2, none⟩ (.string t.s)).setCell ⟨w.heap.size + 1, 3, none⟩ (.slice t.p t.l.length t.c)) := by go_grown
      exact ⟨t, true, rfl, Tm.In_below hg Hin.out, rfl, (fun u hu => by cases hu; rfl), hg, Hon.out.mono fun b hb => .inl hb⟩
    | true =>
      obtain ⟨x, y, hl⟩ : ∃ x y, t.l = [x, y] := by
        obtain ⟨k, n, s, X, Y, he⟩ := joins_two hj
        obtain ⟨k', n', s', p', c', l'⟩ := t
        rw [Tm.erase] at he
        injection he with _ _ _ he
        match l', he with
        | [x, y], _ => exact ⟨x, y, rfl⟩
        | [], he => rw [Tm.eraseL] at he; cases he
        | [_], he => rw [Tm.eraseL, Tm.eraseL] at he; cases he
        | _ :: _ :: _ :: _, he => rw [Tm.eraseL, Tm.eraseL, Tm.eraseL] at he; cases he
      have HJ := Lib.hid hj
      clear hj
      obtain ⟨k, n, s, p, c, l⟩ := t
      simp only [Tm.l] at hl
      subst hl
      simp only [Tm.k, Tm.n, Tm.s, Tm.p, Tm.c, Tm.l] at *
      have hsl := Lib.hid Hin.out.sl
      have hsz : s.size ≤ 140737488351232 := by have h := Hin.out; rw [Tm.In] at h; exact h.2.2.1
      have hbd := Lib.hid (body_joins (n := n) (x := x.erase) (y := y.erase) Hk.out.1 Hk.out.2 (by have := HJ.out; rw [Tm.erase, Tm.eraseL, Tm.eraseL, Tm.eraseL] at this; exact this))
      obtain ⟨b, o, rfl⟩ := hsl.out.ptr (by simp)
      obtain ⟨⟨x0, x1, x2, x3⟩, hxi, _⟩ := (hsl.out.mono g2).elem 0 (by simp)
      obtain ⟨⟨z0, z1, z2, z3⟩, hyi, _⟩ := (hsl.out.mono g2).elem 1 (by simp)
      simp only [List.getElem_cons_zero, List.getElem_cons_succ, Nat.zero_mul, Nat.add_zero, Nat.one_mul] at x0 x1 x2 x3 z0 z1 z2 z3 hxi hyi
      have hon2 := Hon.out
      rw [Tm.On, Tm.OnL, Tm.OnL] at hon2
      have hfm2 := formed_two_inv (x := x.erase) (y := y.erase) (by have := Hfm.out; rw [Tm.erase, Tm.eraseL, Tm.eraseL, Tm.eraseL] at this; exact this)
      have Hxi := Lib.hid hxi
      have Hyi := Lib.hid hyi
      have Hxo := Lib.hid hon2.2.1
      have Hyo := Lib.hid hon2.2.2.1
      have Hxf := Lib.hid hfm2.2.2.2.1
      have Hyf := Lib.hid hfm2.2.2.2.2
      have Hix := Lib.hid (Hih.out x (by simp))
      have Hiy := Lib.hid (Hih.out y (by simp))
      have Hxv := Lib.hid (show x.val = .agg #[.int .i64 x.k, .int .i64 x.n, .string x.s, .slice x.p x.l.length x.c] from rfl)
      have Hyv := Lib.hid (show y.val = .agg #[.int .i64 y.k, .int .i64 y.n, .string y.s, .slice y.p y.l.length y.c] from rfl)
      clear hxi hyi hon2 hfm2
      go_upto_region 8 with (first
        | (go_at_call 21; rewrite [← Hxv.out]; refine (Hix.out S wc Hxi.out Hxf.out Hxo.out (fun b hb => Nat.lt_of_lt_of_le (HS.out b hb) g2.size)).mono ?_; rintro e w3 ⟨am, ok1, rfl, hai, hao, hau, hga, haon⟩; have Hai := Lib.hid hai; have Hao := Lib.hid hao; have Hau := Lib.hid hau; have Haon := Lib.hid haon; clear hai hao hau haon; obtain ⟨ka, na, sa, pa, ca, la⟩ := am; rewrite [tm_val])
        | fail)
      have hAb := Blk4.new w3 (.int .i64 ka) (.int .i64 na) (.string sa) (.slice pa la.length ca)
      have g4' : Gr w3 (w3.alloc (.cells #[.int .i64 ka, .int .i64 na, .string sa, .slice pa la.length ca] 24)) := by go_grown
      have hs4 : (w3.alloc (.cells #[.int .i64 ka, .int .i64 na, .string sa, .slice pa la.length ca] 24)).heap.size = w3.heap.size + 1 := by simp
      generalize w3.alloc (.cells #[.int .i64 ka, .int .i64 na, .string sa, .slice pa la.length ca] 24) = w4 at *
      have g24 : Gr wc w4 := hga.trans g4'
      have g4 : Gr w w4 := g2.trans g24
      have HB4 := Lib.hid (HB2.out.gr g24)
      have HR4 := Lib.hid (HR2.out.gr g24)
      have HA4 := Lib.hid hAb
      replace z0 := Gr.at g24 z0
      replace z1 := Gr.at g24 z1
      replace z2 := Gr.at g24 z2
      replace z3 := Gr.at g24 z3
      have hs3 := hga.size
      have hs4' : w3.heap.size ≤ w4.heap.size := by omega
      clear hs4
      have Hai4 := Lib.hid (Tm.In_below g4' Hai.out)
      clear b0 b1 b2 b3 y0 y1 y2 y3 f0 f1 f2 f3 x0 x1 x2 x3 hAb hga g4' HB2 HR2 hlt
      obtain ⟨⟨b0, b1, b2, b3⟩, _, _⟩ := HB4.out.parts
      go_upto_region 9 with (first
        | (go_at_call 21; rewrite [← Hyv.out]; refine (Hiy.out S w4 (Tm.In_below g24 Hyi.out) Hyf.out Hyo.out (fun b hb => Nat.lt_of_lt_of_le (HS.out b hb) g4.size)).mono ?_; rintro e w5 ⟨bm, ok2, rfl, hbi, hbo, hbu, hgb, hbon⟩; have Hbi := Lib.hid hbi; have Hbo := Lib.hid hbo; have Hbu := Lib.hid hbu; have Hbon := Lib.hid hbon; clear hbi hbo hbu hbon; obtain ⟨kb, nb, sb, pb, cb, lb⟩ := bm; rewrite [tm_val])
        | fail)
      have hBb := Blk4.new w5 (.int .i64 kb) (.int .i64 nb) (.string sb) (.slice pb lb.length cb)
      have g6' : Gr w5 (w5.alloc (.cells #[.int .i64 kb, .int .i64 nb, .string sb, .slice pb lb.length cb] 24)) := by go_grown
      have hs6 : (w5.alloc (.cells #[.int .i64 kb, .int .i64 nb, .string sb, .slice pb lb.length cb] 24)).heap.size = w5.heap.size + 1 := by simp
      generalize w5.alloc (.cells #[.int .i64 kb, .int .i64 nb, .string sb, .slice pb lb.length cb] 24) = w6 at *
      have g46 : Gr w4 w6 := hgb.trans g6'
      have g6 : Gr w w6 := g4.trans g46
      have HB6 := Lib.hid (HB4.out.gr g46)
      have HR6 := Lib.hid (HR4.out.gr g46)
      have HA6 := Lib.hid (HA4.out.gr g46)
      have HBb6 := Lib.hid hBb
      have hs5 := hgb.size
      have hs6' : w5.heap.size ≤ w6.heap.size := by omega
      clear hs6
      have Hai6 := Lib.hid (Tm.In_below g46 Hai4.out)
      have Hbi6 := Lib.hid (Tm.In_below g6' Hbi.out)
      have hlt6 := HR6.out.parts.2.2
      clear b0 b1 b2 b3 z0 z1 z2 z3 hBb hgb g6' HB4 HR4 HA4
      obtain ⟨⟨b0, b1, b2, b3⟩, _, _⟩ := HB6.out.parts
      obtain ⟨⟨p0, p1, p2, p3⟩, _, _⟩ := HA6.out.parts
      obtain ⟨⟨q0, q1, q2, q3⟩, _, _⟩ := HBb6.out.parts
      have hres : Hid (∀ w', Gr (w6.alloc (.cells #[.int .i64 ka, .int .i64 na, .string sa, .slice pa la.length ca, .int .i64 kb, .int .i64 nb, .string sb, .slice pb lb.length cb] 24)) w' → Q (.returned (.tuple #[(compTm s (some ⟨w6.heap.size, 0, none⟩) 2 [.mk ka na sa pa ca la, .mk kb nb sb pb cb lb]).val, .bool (ok1 && ok2)])) ((((w'.setCell ⟨w.heap.size + 1, 0, none⟩ (.int .i64 4)).setCell ⟨w.heap.size + 1, 1, none⟩ (.int .i64 0)).setCell ⟨w.heap.size + 1, 2, none⟩ (.string s)).setCell ⟨w.heap.size + 1, 3, none⟩ (.slice (some ⟨w6.heap.size, 0, none⟩) 2 2))) := by
        intro w' hb
        have hsl2 := two_new (t := .mk ka na sa pa ca la) (u := .mk kb nb sb pb cb lb) Hai6.out Hbi6.out hb
        have gw : Gr w w' := g6.trans (below_step hb (by go_grown))
        have hS' : ∀ b, S b → b < w.heap.size := HS.out
        have hg : Gr w ((((w'.setCell ⟨w.heap.size + 1, 0, none⟩ (.int .i64 4)).setCell ⟨w.heap.size + 1, 1, none⟩ (.int .i64 0)).setCell ⟨w.heap.size + 1, 2, none⟩ (.string s)).setCell ⟨w.heap.size + 1, 3, none⟩ (.slice (some ⟨w6.heap.size, 0, none⟩) 2 2)) := by go_grown
        have hon : (compTm s (some ⟨w6.heap.size, 0, none⟩) 2 [.mk ka na sa pa ca la, .mk kb nb sb pb cb lb]).On fun b => S b ∨ w.heap.size + 2 ≤ b := by
          rw [compTm, Tm.On, Tm.OnL, Tm.OnL, Tm.OnL]
          exact ⟨.inr ⟨_, _, rfl, .inr (by omega)⟩, Haon.out.mono fun b hb => hb.imp id fun h => by omega, Hbon.out.mono fun b hb => hb.imp id fun h => by omega, trivial⟩
        rw [← HQ.out]
        refine ⟨_, _, rfl, ?_, ?_, ?_, hg, hon.mono fun b hb => hb.imp id fun h => by omega⟩
        · exact in_after' (compTm_in hsz hsl2) hon fun b h1 h2 o => by
            have : b ≠ w.heap.size + 1 := by
              rcases h1 with h1 | h1
              · have := hS' b h1; omega
              · omega
            rw [cell_set_ne this, cell_set_ne this, cell_set_ne this, cell_set_ne this]
        · rw [Tm.erase, Tm.eraseL, Tm.eraseL, Tm.eraseL, hbd.out, Hao.out, Hbo.out]
          cases T.body x.erase <;> cases T.body y.erase <;> rfl
        · intro u hu
          rw [Tm.erase, Tm.eraseL, Tm.eraseL, Tm.eraseL, hbd.out] at hu
          cases ha : T.body x.erase with
          | none => rw [ha] at hu; cases hu
          | some a =>
            cases hc : T.body y.erase with
            | none => rw [ha, hc] at hu; cases hu
            | some e =>
              rw [ha, hc] at hu
              cases hu
              rw [compTm, Tm.erase, Tm.eraseL, Tm.eraseL, Tm.eraseL, Hau.out a ha, Hbu.out e hc]
              rfl
      cases ok1 <;> cases ok2
      all_goals
        go_wp2_with (first
          | (go_at_call 47; refine (comp_calls _ _ _ _ _).mono ?_; rintro e w' ⟨rfl, hb⟩; have hfin := Lib.hid (hres.out w' hb); have gb : Gr w6 w' := below_step hb (by go_grown); obtain ⟨⟨y0, y1, y2, y3⟩, ⟨f0, f1, f2, f3⟩, hlt⟩ := (HR6.out.gr gb).parts; clear hb b0 b1 b2 b3 p0 p1 p2 p3 q0 q1 q2 q3)
          | fail)
        exact bodyPost_ret (by simp (maxDischargeDepth := 9) [results, Tryz.results21, go_sem, compTm, Tm.val, Tm.k, Tm.n, Tm.s, Tm.p, Tm.c, Tm.l, y0, y1, y2, y3]) rfl hfin.out

theorem body_any (NN : Nat) : ∀ t : Tm, SizeOf.sizeOf t ≤ NN → bodyOf t := by
  induction NN with
  | zero => intro t h; cases t; simp at h
  | succ NN ih =>
    intro t hN S w hin hfm hon hS
    by_cases hk1 : t.k = 1
    · obtain ⟨k, n, s, p, c, l⟩ := t
      obtain rfl : k = 1 := hk1
      have := body_walk_var n s p c l S w hin hon hS
      rw [Tm.erase] at this ⊢
      rw [body_var]
      exact this
    by_cases hk2 : t.k = 2
    · obtain ⟨k, n, s, p, c, l⟩ := t
      obtain rfl : k = 2 := hk2
      rw [Tm.erase, body_int]
      exact body_walk_int n s p c l S w
    refine body_walk_rest t hk1 hk2 (fun x hx => ih x ?_) S w hin hfm hon hS
    obtain ⟨k, n, s, p, c, l⟩ := t
    have := Tm.sizeOf_mem (l := l) hx k n s p c
    omega

theorem body_calls {t : Tm} {S : Nat → Prop} {w : World} (h : t.In w) (hf : t.erase.formed = true) (hon : t.On S) (hS : ∀ b, S b → b < w.heap.size) : Calls Tryz.prog 21 #[t.val] w (RetBody S (T.body t.erase) w) := body_any _ t (Nat.le_refl _) S w h hf hon hS
end Go.Proofs.YtjdoflfdlhpbmaaGreat

namespace Go.Proofs.YtjdoflfdlhpbmaaGreat
open Go.RowKit

/-- A term is handed back, and an error's number. -/
def RetTE (r : T × Int) (w : World) (e : Ending) (w' : World) : Prop := ∃ bm : Tm, e = .returned (.tuple #[bm.val, .int .i64 r.2]) ∧ bm.In w' ∧ bm.erase = r.1 ∧ Gr w w'

theorem formedL_one (t : Tm) : T.formedL (Tm.eraseL [t]) = t.erase.formed := by rw [Tm.eraseL, Tm.eraseL, T.formedL, T.formedL, Bool.and_true]

end Go.Proofs.YtjdoflfdlhpbmaaGreat

namespace Go.Proofs.YtjdoflfdlhpbmaaGreat
open Go.RowKit Go.Maps

theorem mem_withVar (V : List Int) (n : Int) : n ∈ withVar V n := by
  unfold withVar
  split
  · assumption
  · exact List.mem_append_right _ (List.mem_singleton.2 rfl)

theorem varsL_step (l : List Tm) (k : Nat) (hk : k < l.length) (V : List Int) : T.varsL (Tm.eraseL (l.take (k + 1))) V = T.vars l[k].erase (T.varsL (Tm.eraseL (l.take k)) V) := by
  rw [List.take_succ_eq_append_getElem hk, eraseL_append, T.varsL_append, Tm.eraseL, Tm.eraseL, T.varsL_single]
theorem formedL_erase {l : List Tm} (h : ∀ x ∈ l, x.erase.formed = true) : T.formedL (Tm.eraseL l) = true := by
  induction l with
  | nil => rw [Tm.eraseL, T.formedL]
  | cons x xs ih =>
    rw [Tm.eraseL, T.formedL, h x (List.mem_cons_self ..), ih fun y hy => h y (List.mem_cons_of_mem _ hy)]
    rfl
theorem mapL_step (l : List Tm) (hf : ∀ x ∈ l, x.erase.formed = true) (k : Nat) (hk : k < l.length) (d : Int) (V : List Int) :
    T.mapL (swapF d (T.varsL (Tm.eraseL (l.take (k + 1))) V)) (Tm.eraseL (l.take (k + 1))) =
      T.mapL (swapF d (T.varsL (Tm.eraseL (l.take k)) V)) (Tm.eraseL (l.take k)) ++ [T.map (swapF d (T.vars l[k].erase (T.varsL (Tm.eraseL (l.take k)) V))) l[k].erase] := by
  rw [T.mapL_erase _ l k hk, varsL_step l k hk V]
  congr 1
  exact T.mapL_swap (T.vars_prefix _ _) (T.varsL_within _ _ (formedL_erase fun x hx => hf x (List.mem_of_mem_take hx)))

set_option maxHeartbeats 4000000 in
set_option maxRecDepth 100000 in
theorem mapRen_any (NN : Nat) : ∀ (t : Tm) (d : Int) (V : List Int) (N M F : Nat) (w0 w : World), SizeOf.sizeOf t ≤ NN → t.In w0 → t.erase.formed = true → Gr w0 w → (w0.heap.size ≤ M ∧ w0.heap.size ≤ F) → (0 ≤ d ∧ d ≤ 1099511627777) → VarsOk V → RenSt d V N M F w →
    Calls Tryz.prog 49 #[t.val, .func (.func 50) #[] #[.pointer (some ⟨N, 0, none⟩), .pointer (some ⟨F, 0, none⟩)]] w (RetRen d V t.erase N M F w) := by
  induction NN with
  | zero => intro t d V N M F w0 w h; cases t; simp at h
  | succ NN ih =>
    intro t d V N M F w0 w hN h hfm hgr hMF hd hV hst
    obtain ⟨k, n, s, p, c, l⟩ := t
    by_cases hk1 : k = 1
    · subst hk1
      have hn := formed_var hfm
      refine (mapRen_var d V n s p c l N M F w hn.1 hd hV hst).mono ?_
      rintro e w' ⟨rfl, h1, h2⟩
      have hv : T.vars (Tm.mk 1 n s p c l).erase V = withVar V n := by rw [Tm.erase, T.vars, if_pos rfl]; rfl
      have hlen := (hV.one hn.1).len
      have hidx : (withVar V n).idxOf n < (withVar V n).length := List.idxOf_lt_length_of_mem (mem_withVar V n)
      have hmem := mem_withVar V n
      refine ⟨varTm _, varTm_in (by change (withVar V n).length ≤ _ at hlen; exact ⟨by omega, by omega⟩) _, ?_, rfl, by rw [hv]; exact h1, h2, varTm_on _⟩
      rw [hv, varTm_erase, Tm.erase, T.map, if_pos rfl, swapF, if_pos hmem]
    by_cases hk4 : k = 4
    · subst hk4
      obtain ⟨rfl, h100, hl1, hl50, hfl⟩ := formed_elem rfl hfm
      have hsz := fun x (hx : x ∈ l) => Tm.sizeOf_mem hx 4 0 s p c
      have HSl := Lib.hid h.sl
      rw [Tm.In] at h
      obtain ⟨hk, hn, hs, hlc, hc, hp, hIn⟩ := h
      obtain ⟨b, o, rfl⟩ := HSl.out.ptr (by omega)
      have Hih := Lib.hid ih
      have Hsz := Lib.hid hsz
      have Hfl := Lib.hid hfl
      have Hs := Lib.hid hs
      have HIn := Lib.hid hIn
      have Hst := Lib.hid hst
      have HV := Lib.hid hV
      have Hd := Lib.hid hd
      obtain ⟨hlN, hlM, hlF⟩ := hst.lts
      have hNe := hst.apart
      obtain ⟨hm0, hf0⟩ := hMF
      have hgs := hgr.size
      clear hp hIn ih hsz hfl hk hn hfm hst hV hd
      obtain ⟨i0, hi, hz0, hz1, hz2⟩ := info_parts infoTermM
      have Hi := Lib.hid hi
      clear hi
      rw [Tm.erase]
      have hR : Hid (∀ e w', RetRen d V (.mk 4 0 s.toList (Tm.eraseL l)) N M F w e w' → RetRen d V (.mk 4 0 s.toList (Tm.eraseL l)) N M F w e w') := fun _ _ h => h
      generalize hQ : RetRen d V (.mk 4 0 s.toList (Tm.eraseL l)) N M F w = Q at hR ⊢
      rw [← hQ] at hR
      have HQ := Lib.hid hQ
      clear hQ
      have hen : ∀ args w, (callFunc 50 args).run Tryz.prog w = .ok (.enter 50 args) w := fun args w => by kernel_rfl
      simp only [Tm.val, Tm.k, Tm.n, Tm.s, Tm.p, Tm.c, Tm.l]
      go_enter Tryz.func49, Tryz.ntmps49
      go_wp2_with
        (refine wpList_make_full _ rfl _ _ 22 rfl (w.heap.size) 24 i0 _ 4 Tryz.underlying22 Hi.out hz0 hz1 .i64 .i64 _ _ l.length rfl rfl rfl rfl (by rw [hz2]; omega) (by simp only [maxLen]; omega) (by simp; omega) ?_
         intro w1 hown hgrow
         have HF := fill_made (S := fun _ => False) hown
         have HA := (after_make hgrow).2
         obtain ⟨⟨b0, b1, b2, b3⟩, _, _⟩ := (after_make hgrow).1.parts
         clear hown hgrow)
      obtain ⟨HB, HRR, g1⟩ := HA.out
      replace HB := Lib.hid HB
      replace HRR := Lib.hid HRR
      have hg2 : w.heap.size + 1 + 1 < w1.heap.size := HF.out.lt
      clear b0 b1 b2 b3 HA
      have Hst1 : Hid (RenSt d V N M F w1) := Hst.out.gr g1
      go_loopg [25] l.length (fun m i wr => ∃ k : Nat, k ≤ l.length ∧ m = l.length - k ∧ i = .int .i64 k ∧
        Hid (∃ lm : List Tm, lm.length = k ∧ Tm.eraseL lm = T.mapL (swapF d (T.varsL (Tm.eraseL (l.take k)) V)) (Tm.eraseL (l.take k)) ∧ Filling wr (w.heap.size + 1 + 1) (fun _ => False) (w.heap.size + 1 + 1) l.length lm) ∧
        Hid (RenSt d (T.varsL (Tm.eraseL (l.take k)) V) N M F wr) ∧ Hid (VarsOk (T.varsL (Tm.eraseL (l.take k)) V)) ∧ Hid (Kp (fun b => MF M F b ∨ b = w.heap.size + 1 + 1) w1 wr))
      case atStart => exact ⟨0, Nat.zero_le _, rfl, rfl, ⟨[], rfl, by simp [T.mapL, Tm.eraseL], HF.out⟩, by rw [List.take_zero, Tm.eraseL, T.varsL]; exact Hst1.out, by rw [List.take_zero, Tm.eraseL, T.varsL]; exact HV.out, Kp.refl _ _⟩
      case round =>
        obtain ⟨k, hk, rfl, rfl, hlm, HSt, HVk, HK⟩ := hrel
        have HB' := Lib.hid (HB.out.kp HK.out (by omega))
        have HR' := Lib.hid (HRR.out.kp HK.out (by omega))
        have hbs := HK.out.size
        have g0 : Gr w0 wr := Below.trans (Gr.trans hgr g1) (HK.out.below (B := w0.heap.size) (fun b hb => by rcases hb with (hb | hb) | hb <;> omega) (by have := g1.size; omega))
        by_cases hlt : k < l.length
        · obtain ⟨⟨c0, c1, c2, c3⟩, _, _⟩ := (HSl.out.mono g0).elem k hlt
          have hmem : l[k] ∈ l := List.getElem_mem hlt
          have Hx := Lib.hid (Tm.InL_mem HIn.out _ hmem)
          have Hz := Hsz.out _ hmem
          have Hfx := Lib.hid (Hfl.out _ hmem)
          have Hv1 := Lib.hid (varsL_step l k hlt V)
          have Hm1 := Lib.hid (mapL_step l Hfl.out k hlt d V)
          clear hmem
          generalize l[k] = x at *
          go_upto_region 8 with fail
          have gE : Gr wr (wr.alloc (.cells #[.int .i64 x.k, .int .i64 x.n, .string x.s, .slice x.p x.l.length x.c] 24)) := by go_grown
          have hE := Blk4.new wr (.int .i64 x.k) (.int .i64 x.n) (.string x.s) (.slice x.p x.l.length x.c)
          have hszE : (wr.alloc (.cells #[.int .i64 x.k, .int .i64 x.n, .string x.s, .slice x.p x.l.length x.c] 24)).heap.size = wr.heap.size + 1 := by simp
          generalize wr.alloc (.cells #[.int .i64 x.k, .int .i64 x.n, .string x.s, .slice x.p x.l.length x.c] 24) = wE at *
          obtain ⟨⟨y0, y1, y2, y3⟩, _, _⟩ := hE.parts
          clear c0 c1 c2 c3 hE
          have hxv : x.val = .agg #[.int .i64 x.k, .int .i64 x.n, .string x.s, .slice x.p x.l.length x.c] := rfl
          have Hxv := Lib.hid hxv
          clear hxv
          go_wp2_with fail
          rw [← Hxv.out]
          refine (Hih.out x d _ N M F w0 wE (by omega) Hx.out Hfx.out (g0.trans gE) ⟨hm0, hf0⟩ Hd.out HVk.out (HSt.out.gr gE)).mono ?_
          rintro e w2 ⟨xm, hin, he, rfl, hst2, hk2, hon⟩
          obtain ⟨lm, hl0, he0, hF⟩ := hlm.out
          have hF2 : Filling w2 (w.heap.size + 1 + 1) (fun _ => False) (w.heap.size + 1 + 1) l.length lm := (hF.gr gE).kp hk2 (fun b hb h => by rcases h with h | h <;> omega)
          have HF2 := Lib.hid hF2
          obtain ⟨⟨q0, r0⟩, fr0⟩ := hF2.spot (j := k * 4) (by omega)
          obtain ⟨⟨q1, r1⟩, fr1⟩ := hF2.spot (j := k * 4 + 1) (by omega)
          obtain ⟨⟨q2, r2⟩, fr2⟩ := hF2.spot (j := k * 4 + 2) (by omega)
          obtain ⟨⟨q3, r3⟩, fr3⟩ := hF2.spot (j := k * 4 + 3) (by omega)
          have Hl0 := Lib.hid hl0
          have He0 := Lib.hid he0
          have Hin := Lib.hid hin
          have Hon := Lib.hid hon
          have He := Lib.hid he
          have Hst2 := Lib.hid hst2
          have Hk2 := Lib.hid ((HK.out.trans (Kp.of_gr gE)).trans (hk2.mono fun _ h => .inl h))
          clear hF hF2 hl0 he0 hin hon he hst2 hk2 hlm y0 y1 y2 y3
          obtain ⟨k', n', s', p', c', l'⟩ := xm
          simp only [Tm.val, Tm.k, Tm.n, Tm.s, Tm.p, Tm.c, Tm.l]
          go_wp2_with fail
          go_roundg (l.length - (k + 1))
          case measure => omega
          case rel =>
            refine ⟨k + 1, by omega, rfl, by go_num, ⟨lm ++ [.mk k' n' s' p' c' l'], by simp [Hl0.out], by rw [eraseL_append, He0.out, Hm1.out]; simp [Tm.eraseL, He.out], ?_⟩, by rw [Hv1.out]; exact Hst2.out.kp (Kp.set4 (C := fun b => b = w.heap.size + 1 + 1) rfl) (by omega) (by omega) (by omega),
              by rw [Hv1.out]; exact HVk.out.vars _ Hfx.out, Hk2.out.trans (Kp.set4 (.inr rfl))⟩
            have := HF2.out.store (x := .mk k' n' s' p' c' l') (by rw [Hl0.out]; exact hlt) Hin.out (Hon.out.mono fun b hb => ⟨.inr (by omega), by omega⟩)
            rw [Hl0.out] at this
            simpa only [Tm.k, Tm.n, Tm.s, Tm.p, Tm.c, Tm.l] using this
        · obtain rfl : k = l.length := by omega
          obtain ⟨lm, hl0, he0, hF⟩ := hlm.out
          obtain ⟨⟨b0, b1, b2, b3⟩, ⟨e0, e1, e2, e3⟩, hbs1⟩ := HB'.out.parts
          obtain ⟨⟨y0, y1, y2, y3⟩, ⟨f0, f1, f2, f3⟩, hbs2⟩ := HR'.out.parts
          have HF := Lib.hid hF
          have Hl0 := Lib.hid hl0
          have He0 := Lib.hid he0
          clear hF hl0 he0 hlm
          have hvE : Hid (T.vars (.mk 4 0 s.toList (Tm.eraseL l)) V = T.varsL (Tm.eraseL (l.take l.length)) V) := by show _ = _; rw [T.vars, if_neg (by decide), List.take_length]
          go_wp2_with fail
          refine bodyPost_ret (v := (Tm.mk 4 0 s (some ⟨w.heap.size + 1 + 1, 0, none⟩) l.length lm).val) (by simp [results, Tryz.results49, go_sem, Tm.val, Tm.k, Tm.n, Tm.s, Tm.p, Tm.c, Tm.l, Hl0.out, y0, y1, y2, y3]) rfl ?_
          rw [← HQ.out]
          have hK5 : ∀ v0 v1 v2 v3 v4 : Value, Kp (fun b => b = w.heap.size ∨ b = w.heap.size + 1) wr (((((wr.setCell ⟨w.heap.size, 3, none⟩ v0).setCell ⟨w.heap.size + 1, 0, none⟩ v1).setCell ⟨w.heap.size + 1, 1, none⟩ v2).setCell ⟨w.heap.size + 1, 2, none⟩ v3).setCell ⟨w.heap.size + 1, 3, none⟩ v4) :=
            fun v0 v1 v2 v3 v4 => (Kp.set (.inl rfl)).trans (Kp.set4 (.inr rfl))
          refine ⟨_, ?_, ?_, rfl, ?_, ?_, ?_⟩
          · have hsl := HF.out.sl Hl0.out (by omega)
            have hin : (Tm.mk 4 0 s (some ⟨w.heap.size + 1 + 1, 0, none⟩) l.length lm).In wr := compTm_in Hs.out hsl.1
            have hon : (Tm.mk 4 0 s (some ⟨w.heap.size + 1 + 1, 0, none⟩) l.length lm).On (fun b => False ∨ w.heap.size + 1 + 1 ≤ b) := by rw [Tm.On]; exact hsl.2
            exact in_after' hin hon fun b h1 h2 o => by
              have : b ≠ w.heap.size ∧ b ≠ w.heap.size + 1 := by
                rcases h1 with h1 | h1
                · exact h1.elim
                · omega
              rw [cell_set_ne this.2, cell_set_ne this.2, cell_set_ne this.2, cell_set_ne this.2, cell_set_ne this.1]
          · rw [Tm.erase, He0.out, hvE.out, T.map, if_neg (by decide), if_pos rfl, List.take_length]
          · rw [hvE.out]
            exact HSt.out.kp (hK5 _ _ _ _ _) (by omega) (by omega) (by omega)
          · exact (((Kp.of_gr g1).trans (HK.out.mono (C' := fun b => MF M F b ∨ w.heap.size ≤ b) fun b h => h.imp id fun h => by omega)).trans ((hK5 _ _ _ _ _).mono fun b h => .inr (by omega))).weaken fun b hb hc => hc.resolve_right (by omega)
          · have hsl := HF.out.sl Hl0.out (by omega)
            rw [Tm.On]
            exact ⟨hsl.2.1.imp id fun ⟨b, o, h1, h2⟩ => ⟨b, o, h1, h2.elim (fun h => h.elim) fun h => by omega⟩, hsl.2.2.mono fun b hb => hb.elim (fun h => h.elim) fun h => by omega⟩
    · rw [Tm.erase]
      refine (map_leaf k n s p c l _ w (Tm.In_below hgr h) hk1 hk4).mono fun e w' ⟨bm, h1, h2, h3, h4, h5⟩ => ?_
      have hl : Tm.eraseL l = [] := by
        rcases formed_args (by rw [Tm.erase] at hfm; exact hfm) with ⟨h6, _⟩ | ⟨_, h6⟩
        · exact absurd h6 hk4
        · exact h6
      have hv : T.vars (.mk k n s.toList (Tm.eraseL l)) V = V := by rw [T.vars, if_neg hk1, hl, T.varsL]
      exact ⟨bm, h1, by rw [h2, T.map, if_neg hk1, if_neg hk4], h3, by rw [hv]; exact hst.gr h4, Kp.of_gr h4, h5⟩
end Go.Proofs.YtjdoflfdlhpbmaaGreat

namespace Go.Proofs.YtjdoflfdlhpbmaaGreat
open Go.RowKit Go.Maps

theorem RenSt.below {d : Int} {V : List Int} {N M F B : Nat} {w w' : World} (h : RenSt d V N M F w) (hg : Below B w w') (hN : N < B) (hM : M < B) (hF : F < B) : RenSt d V N M F w' :=
  ⟨(hg.block N hN).trans h.box, (hg.block F hF).trans h.next, h.map.same (hg.block M hM), h.apart⟩

theorem Built.kp {C : Nat → Prop} {w w' : World} {B : Nat} {v : Value} {l : List Tm} (h : Built w B (fun _ => False) v l) (hg : Kp C w w') (hC : ∀ b, B ≤ b → ¬ C b) : Built w' B (fun _ => False) v l := by
  obtain ⟨h1, h2, h3⟩ := h
  refine ⟨⟨h1.1, h1.2.imp id ?_⟩, Tm.InL.same (fun b hb o => World.cell?_of_block (hg.block b hb.2.1 (hC b (hb.1.resolve_left id)))) h2 h3, h3.mono fun b hb => ⟨hb.1, Nat.lt_of_lt_of_le hb.2.1 hg.size, hb.2.2⟩⟩
  rintro ⟨g, cap, cur, rfl, h5, h6, h7⟩
  exact ⟨g, cap, cur, rfl, h5, by rw [hg.block g (Array.getElem?_eq_some_iff.1 h6).1 (hC g h5)]; exact h6, h7⟩

theorem start_ren (w : World) (d : Int) : RenSt d [] (w.heap.size + 2) (w.heap.size + 1) w.heap.size (((w.alloc (.cells #[.int .i64 d] 2)).alloc (.map #[] 0)).alloc (.cells #[.map (some (w.heap.size + 1))] 100)) := by
  have s1 : (w.alloc (.cells #[.int .i64 d] 2)).heap.size = w.heap.size + 1 := World.size_alloc ..
  have s2 : ((w.alloc (.cells #[.int .i64 d] 2)).alloc (.map #[] 0)).heap.size = w.heap.size + 2 := by rw [World.size_alloc, s1]
  refine ⟨?_, ?_, ?_, ⟨by omega, by omega, by omega⟩⟩
  · rw [← s2]; exact heap_alloc_new _ _
  · rw [heap_alloc_old _ _ (by rw [s2]; omega), heap_alloc_old _ _ (by rw [s1]; omega), heap_alloc_new]
    simp
  · have h := NumMap.made (w.alloc (.cells #[.int .i64 d] 2)) d
    rw [s1] at h
    exact h.same (heap_alloc_old _ _ (by rw [s2]; omega))

/-- Terms are handed back, and the number behind. -/
def RetRens (d : Int) (ts : List T) (w : World) (e : Ending) (w' : World) : Prop :=
  ∃ (p : Option Addr) (c : Nat) (lm : List Tm), e = .returned (.tuple #[.slice p lm.length c, .int .i64 (d + ((T.varsL ts []).length : Int))]) ∧ Tm.Sl w' p c lm ∧ Tm.eraseL lm = T.mapL (swapF d (T.varsL ts [])) ts ∧ Gr w w' ∧ Tm.SlOn (w.heap.size ≤ ·) p lm

set_option maxHeartbeats 4000000 in
set_option maxRecDepth 100000 in
theorem renamed_calls (d : Int) (p : Option Addr) (c : Nat) (l : List Tm) (w : World) (h : Tm.Sl w p c l) (hf : ∀ x ∈ l, x.erase.formed = true) (hd : 0 ≤ d ∧ d ≤ 1099511627777) :
    Calls Tryz.prog 24 #[.int .i64 d, .slice p l.length c] w (RetRens d (Tm.eraseL l) w) := by
  have hl64 : l.length * 56 ≤ 140737488351232 := h.2.1.1
  have hlc : l.length ≤ c := h.1
  have hc64 : c ≤ 9223372036854775807 := h.2.1.2
  have HSl := Lib.hid h
  have Hf := Lib.hid hf
  have Hd := Lib.hid hd
  have HIn := Lib.hid h.2.2.2
  clear h hf
  generalize hQ : RetRens d (Tm.eraseL l) w = Q
  have HQ := Lib.hid hQ
  clear hQ
  go_enter Tryz.func24, Tryz.ntmps24
  try simp only [List.append_eq, List.cons_append, List.nil_append]
  have hmm := @run_makeMap Tryz.prog
  go_upto_region 2 with fail
  have hst : RenSt d [] (w.heap.size + 2) (w.heap.size + 1) w.heap.size (((w.alloc (.cells #[.int .i64 d] 2)).alloc (.map #[] 0)).alloc (.cells #[.map (some (w.heap.size + 1))] 100)) := start_ren w d
  have g1 : Gr w (((w.alloc (.cells #[.int .i64 d] 2)).alloc (.map #[] 0)).alloc (.cells #[.map (some (w.heap.size + 1))] 100)) := by go_grown
  have hsz : (((w.alloc (.cells #[.int .i64 d] 2)).alloc (.map #[] 0)).alloc (.cells #[.map (some (w.heap.size + 1))] 100)).heap.size = w.heap.size + 3 := by simp
  generalize (((w.alloc (.cells #[.int .i64 d] 2)).alloc (.map #[] 0)).alloc (.cells #[.map (some (w.heap.size + 1))] 100)) = wA at *
  have Hst := Lib.hid hst
  clear hst hmm
  go_wp2_with fail
  have hfun : Hid (Gr w wA) := g1
  go_loopg [7, 13] l.length (fun m v i wr => ∃ k : Nat, k ≤ l.length ∧ m = l.length - k ∧ i = .int .i64 k ∧
    Hid (∃ lm : List Tm, lm.length = k ∧ Tm.eraseL lm = T.mapL (swapF d (T.varsL (Tm.eraseL (l.take k)) [])) (Tm.eraseL (l.take k)) ∧ Built wr (w.heap.size + 3) (fun _ => False) v lm) ∧
    Hid (RenSt d (T.varsL (Tm.eraseL (l.take k)) []) (w.heap.size + 2) (w.heap.size + 1) w.heap.size wr) ∧ Hid (VarsOk (T.varsL (Tm.eraseL (l.take k)) [])) ∧ Gr w wr ∧ w.heap.size + 3 ≤ wr.heap.size)
  case atStart => exact ⟨0, Nat.zero_le _, rfl, rfl, ⟨[], rfl, by simp [T.mapL, Tm.eraseL], Built.nil _ _ _⟩, by rw [List.take_zero, Tm.eraseL, T.varsL]; exact Hst.out, by rw [List.take_zero, Tm.eraseL, T.varsL]; exact VarsOk.nil, g1, by omega⟩
  case round =>
    obtain ⟨k, hk, rfl, rfl, hlm, HSt, HVk, gr, hws⟩ := hrel
    by_cases hlt : k < l.length
    · obtain ⟨b, o, rfl⟩ := HSl.out.ptr (by omega)
      obtain ⟨⟨c0, c1, c2, c3⟩, _, _⟩ := (HSl.out.mono gr).elem k hlt
      have hmem : l[k] ∈ l := List.getElem_mem hlt
      have Hx := Lib.hid (Tm.InL_mem HIn.out _ hmem)
      have Hfx := Lib.hid (Hf.out _ hmem)
      have Hv1 := Lib.hid (varsL_step l k hlt [])
      have Hm1 := Lib.hid (mapL_step l Hf.out k hlt d [])
      clear hmem
      generalize l[k] = x at *
      go_upto_region 6 with fail
      have gE : Gr wr (wr.alloc (.cells #[.int .i64 x.k, .int .i64 x.n, .string x.s, .slice x.p x.l.length x.c] 24)) := by go_grown
      have hE := Blk4.new wr (.int .i64 x.k) (.int .i64 x.n) (.string x.s) (.slice x.p x.l.length x.c)
      have hszE : (wr.alloc (.cells #[.int .i64 x.k, .int .i64 x.n, .string x.s, .slice x.p x.l.length x.c] 24)).heap.size = wr.heap.size + 1 := by simp
      generalize wr.alloc (.cells #[.int .i64 x.k, .int .i64 x.n, .string x.s, .slice x.p x.l.length x.c] 24) = wE at *
      obtain ⟨⟨y0, y1, y2, y3⟩, _, _⟩ := hE.parts
      clear c0 c1 c2 c3 hE
      have Hxv := Lib.hid (show x.val = .agg #[.int .i64 x.k, .int .i64 x.n, .string x.s, .slice x.p x.l.length x.c] from rfl)
      go_wp2_with fail
      rw [← Hxv.out]
      refine (mapRen_any _ x d _ (w.heap.size + 2) (w.heap.size + 1) w.heap.size w wE (Nat.le_refl _) Hx.out Hfx.out (gr.trans gE) ⟨by omega, by omega⟩ Hd.out HVk.out (HSt.out.gr gE)).mono ?_
      rintro e w2 ⟨xm, hin, he, rfl, hst2, hk2, hon⟩
      obtain ⟨lm, hl0, he0, hF⟩ := hlm.out
      have hF2 : Built w2 (w.heap.size + 3) (fun _ => False) _ lm := (hF.gr gE).kp hk2 (fun b hb h => by rcases h with h | h <;> omega)
      have HF2 := Lib.hid hF2
      have Hvl := Lib.hid hF2.1.lt
      have hs2 := hk2.size
      have Hl0 := Lib.hid hl0
      have He0 := Lib.hid he0
      have Hin := Lib.hid hin
      have Hon := Lib.hid hon
      have He := Lib.hid he
      have Hst2 := Lib.hid hst2
      have g2 : Gr w w2 := Below.trans (gr.trans gE) (hk2.below (B := w.heap.size) (fun b hb => by rcases hb with hb | hb <;> omega) (by omega))
      have Hvf := Lib.hid hF.1.lt
      clear hF hF2 hl0 he0 hin hon he hst2 hk2 hlm y0 y1 y2 y3
      obtain ⟨k', n', s', p2, c2, l2⟩ := xm
      simp only [Tm.val, Tm.k, Tm.n, Tm.s, Tm.p, Tm.c, Tm.l]
      go_wp2_with
        (at_builtin
         refine wpList_append_term rfl _ _ rfl rfl (w.heap.size + 3) (fun _ => False) _ lm (.mk k' n' s' p2 c2 l2) w2.heap.size 1 rfl rfl (HF2.out.gr (by go_grown)) (by simp; omega) (Tm.In_below (by go_grown) Hin.out) (Hon.out.mono fun b hb => ⟨.inr (by omega), fun e => by have := Hvf.out b e; omega⟩) (by have := Hl0.out; omega) (by show _ = some (Value.int .i64 k'); go_cell) (by show _ = some (Value.int .i64 n'); go_cell) (by show _ = some (Value.string s'); go_cell) (by show _ = some (Value.slice p2 l2.length c2); go_cell) ?_
         intro v' w4 hbt hbel _)
      go_roundg (l.length - (k + 1))
      case measure => omega
      case rel =>
        have hg4 : Below (w.heap.size + 3) w2 w4 := Below.trans (show Below (w.heap.size + 3) w2 _ by go_grown) hbel
        exact ⟨k + 1, by omega, rfl, by go_num, ⟨_, by rw [List.length_append, Hl0.out]; rfl, by rw [eraseL_append, He0.out, Hm1.out, ← He.out]; simp [Tm.eraseL], hbt⟩, by rw [Hv1.out]; exact Hst2.out.below hg4 (by omega) (by omega) (by omega), by rw [Hv1.out]; exact HVk.out.vars _ Hfx.out, Below.trans g2 (hg4.mono (by omega)), by have := hg4.size; omega⟩
    · obtain rfl : k = l.length := by omega
      obtain ⟨lm, hl0, he0, hF⟩ := hlm.out
      obtain ⟨pv, cv, rfl, hcv1, hcv2⟩ := hF.form
      have HF := Lib.hid hF
      have Hl0 := Lib.hid hl0
      have He0 := Lib.hid he0
      have cF := cell_of_row wr w.heap.size 0 _ _ _ HSt.out.next
      simp only [List.getElem?_toArray, List.getElem?_cons_zero, List.take_length] at cF
      clear hF hl0 he0 hlm
      go_wp2_with fail
      go_quiet (fail)
      go_wp2_with fail
      rw [← HQ.out]
      have hsl := HF.out.sl (by rw [Hl0.out]; exact hl64)
      exact ⟨pv, cv, lm, rfl, hsl.2.1.mono ((Gr.rfl' wr).drewN _), by rw [He0.out, List.take_length], gr.drewN _, hsl.2.2.mono fun b hb => hb.elim (fun h => h.elim) fun h => by omega⟩
end Go.Proofs.YtjdoflfdlhpbmaaGreat
