/-
  hornref.Body
  hornref.Reserved
  hornref.Has, hornref.vars, hornref.Vars
-/
import Derived.Test.YtjdoflfdlhpbmaaDoorBP07
import Derived.Test.YtjdoflfdlhpbmaaDoorBP08
import Derived.Test.YtjdoflfdlhpbmaaDoorBP16
namespace Go.Proofs.YtjdoflfdlhpbmaaDoor
open Go.RowKit

/-- A body is handed back, and whether there is one; nothing where there is none. -/
def RetRBody (S : Nat → Prop) (r : Option T) (w : World) (e : Ending) (w' : World) : Prop :=
  ∃ (bm : Tm) (ok : Bool), e = .returned (.tuple #[bm.val, .bool ok]) ∧ bm.In w' ∧ ok = r.isSome ∧ (∀ u, r = some u → bm.erase = u) ∧ Gr w w' ∧ (bm.On fun b => S b ∨ w.heap.size ≤ b) ∧ (r = none → bm.erase = zeroT)

def rbodyOf (t : Tm) : Prop := ∀ (S : Nat → Prop) (w : World), t.In w → t.erase.formed = true → t.On S → (∀ b, S b → b < w.heap.size) → Calls Tryd.prog 90 #[t.val] w (RetRBody S (T.body t.erase) w)

set_option maxHeartbeats 2000000 in
set_option maxRecDepth 100000 in
theorem rbody_walk_var (n : Int) (s : ByteArray) (p : Option Addr) (c : Nat) (l : List Tm) (S : Nat → Prop) (w : World) (hin : (Tm.mk 1 n s p c l).In w) (hon : (Tm.mk 1 n s p c l).On S) (hS : ∀ b, S b → b < w.heap.size) :
    Calls Tryd.prog 90 #[(Tm.mk 1 n s p c l).val] w (RetRBody S (some (compT sCallT [(Tm.mk 1 n s p c l).erase])) w) := by
  generalize hQ : RetRBody S (some (compT sCallT [(Tm.mk 1 n s p c l).erase])) w = Q
  have HQ := Lib.hid hQ
  have Hin := Lib.hid hin
  have Hon := Lib.hid hon
  have HS := Lib.hid hS
  clear hQ hin hon hS
  simp only [tm_val]
  go_enter Tryd.func90, Tryd.ntmps90
  try simp only [List.append_eq, List.cons_append, List.nil_append]
  go_upto_region 1 with fail
  obtain ⟨HB, HR, gA⟩ := two_blocks w (.int .i64 1) (.int .i64 n) (.string s) (.slice p l.length c) (.int .i64 0) (.int .i64 0) (.string ⟨#[]⟩) (.slice none 0 0)
  generalize (w.alloc (.cells #[.int .i64 1, .int .i64 n, .string s, .slice p l.length c] 34)).alloc (.cells #[.int .i64 0, .int .i64 0, .string ⟨#[]⟩, .slice none 0 0] 34) = wA at *
  obtain ⟨⟨b0, b1, b2, b3⟩, _, _⟩ := HB.out.parts
  go_wp2_with (first
    | (go_at_call 53; refine (rC_calls _ _ _ _ _).mono ?_; rintro e w' ⟨rfl, hb⟩; have HB2 := Lib.hid (one_new (t := .mk 1 n s p c l) (Tm.In_below gA Hin.out) hb); have g2 : Gr wA w' := below_step hb (by go_grown); obtain ⟨⟨y0, y1, y2, y3⟩, ⟨f0, f1, f2, f3⟩, hlt⟩ := (HR.out.gr g2).parts; clear hb b0 b1 b2 b3)
    | fail)
  refine bodyPost_ret (v := .tuple #[(compTm ⟨#[99, 97, 108, 108]⟩ (some ⟨wA.heap.size, 0, none⟩) 1 [.mk 1 n s p c l]).val, .bool true]) (by simp (maxDischargeDepth := 9) [results, Tryd.results90, go_sem, compTm, Tm.val, Tm.k, Tm.n, Tm.s, Tm.p, Tm.c, Tm.l, y0, y1, y2, y3]) rfl ?_
  rw [← HQ.out]
  have hg : Gr w w' := gA.trans g2
  have hs := gA.size
  refine ⟨compTm ⟨#[99, 97, 108, 108]⟩ (some ⟨wA.heap.size, 0, none⟩) 1 [.mk 1 n s p c l], true, rfl, ?_, rfl, fun u hu => ?_, by go_grown, ?_, fun h => by cases h⟩
  · refine in_after' (S := fun b => b ≠ w.heap.size + 1) (compTm_in (by decide) HB2.out) ?_ fun b h1 h2 o => by rw [cell_set_ne h1, cell_set_ne h1, cell_set_ne h1, cell_set_ne h1]
    rw [compTm, Tm.On, Tm.OnL, Tm.OnL]
    have := HR.out.parts.2.2
    exact ⟨.inr ⟨_, _, rfl, by omega⟩, Hon.out.mono fun b hb => by have := HS.out b hb; omega, trivial⟩
  · cases hu
    rw [compTm, Tm.erase, Tm.eraseL, Tm.eraseL, blCall]
    rfl
  · rw [compTm, Tm.On, Tm.OnL, Tm.OnL]
    exact ⟨.inr ⟨_, _, rfl, .inr hs⟩, Hon.out.mono fun b hb => .inl hb, trivial⟩

set_option maxHeartbeats 2000000 in
set_option maxRecDepth 100000 in
theorem rbody_walk_int (n : Int) (s : ByteArray) (p : Option Addr) (c : Nat) (l : List Tm) (S : Nat → Prop) (w : World) :
    Calls Tryd.prog 90 #[(Tm.mk 2 n s p c l).val] w (RetRBody S none w) := by
  have hR : Hid (∀ w', Gr w w' → RetRBody S none w (.returned (.tuple #[zeroTm.val, .bool false])) w') := fun w' hg => ⟨zeroTm, false, rfl, zeroTm_in _, rfl, (fun u hu => by cases hu), hg, (by rw [zeroTm, Tm.On, Tm.OnL]; exact ⟨.inl rfl, trivial⟩), fun _ => zeroTm_erase⟩
  generalize hQ : RetRBody S none w = Q at hR ⊢
  clear hQ
  simp only [tm_val]
  go_enter Tryd.func90, Tryd.ntmps90
  go_wp2_with fail
  refine bodyPost_ret (v := .tuple #[zeroTm.val, .bool false]) (by simp (maxDischargeDepth := 9) [results, Tryd.results90, go_sem, zeroTm, Tm.val, Tm.k, Tm.n, Tm.s, Tm.p, Tm.c, Tm.l]) rfl ?_
  exact hR.out _ (by go_grown)

set_option maxHeartbeats 4000000 in
set_option maxRecDepth 100000 in
theorem rbody_walk_rest (t : Tm) (hk1 : t.k ≠ 1) (hk2 : t.k ≠ 2) (ih : ∀ x ∈ t.l, rbodyOf x) (S : Nat → Prop) (w : World) (hin : t.In w) (hfm : t.erase.formed = true) (hon : t.On S) (hS : ∀ b, S b → b < w.heap.size) :
    Calls Tryd.prog 90 #[t.val] w (RetRBody S (T.body t.erase) w) := by
  have Hin := Lib.hid hin
  have Hon := Lib.hid hon
  have HS := Lib.hid hS
  have Hih := Lib.hid ih
  have Hfm := Lib.hid hfm
  have Hk := Lib.hid (And.intro hk1 hk2)
  have hk1' : (t.k == 1) = false := beq_eq_false_iff_ne.2 hk1
  have hk2' : (t.k == 2) = false := beq_eq_false_iff_ne.2 hk2
  generalize hQ : RetRBody S (T.body t.erase) w = Q
  have HQ := Lib.hid hQ
  clear hQ hin hon hS ih hfm hk1 hk2
  have hv : t.val = .agg #[.int .i64 t.k, .int .i64 t.n, .string t.s, .slice t.p t.l.length t.c] := rfl
  have HV := Lib.hid hv
  rw [hv]
  clear hv
  go_enter Tryd.func90, Tryd.ntmps90
  try simp only [List.append_eq, List.cons_append, List.nil_append]
  go_upto_region 1 with fail
  obtain ⟨HB, HR, gA⟩ := two_blocks w (.int .i64 t.k) (.int .i64 t.n) (.string t.s) (.slice t.p t.l.length t.c) (.int .i64 0) (.int .i64 0) (.string ⟨#[]⟩) (.slice none 0 0)
  generalize (w.alloc (.cells #[.int .i64 t.k, .int .i64 t.n, .string t.s, .slice t.p t.l.length t.c] 34)).alloc (.cells #[.int .i64 0, .int .i64 0, .string ⟨#[]⟩, .slice none 0 0] 34) = wA at *
  obtain ⟨⟨b0, b1, b2, b3⟩, _, _⟩ := HB.out.parts
  go_upto_region 5 with fail
  clear b0 b1 b2 b3
  go_cut [27] from 18 to 27 (fun c wx => c = .bool t.erase.joins ∧ Gr wA wx)
  case first =>
    obtain ⟨⟨b0, b1, b2, b3⟩, _, _⟩ := HB.out.parts
    have hj : t.erase.joins = (t.erase.isOf [44] 2 || t.erase.isOf [59] 2 || t.erase.isOf [45, 62] 2) := rfl
    have HJ := Lib.hid hj
    clear hj
    have h44 := Lib.hid (show t.erase.isOf (ByteArray.mk #[44]).toList 2 = t.erase.isOf [44] 2 by rw [bl44])
    have h59 := Lib.hid (show t.erase.isOf (ByteArray.mk #[59]).toList 2 = t.erase.isOf [59] 2 by rw [bl59])
    have h62 := Lib.hid (show t.erase.isOf (ByteArray.mk #[45, 62]).toList 2 = t.erase.isOf [45, 62] 2 by rw [bl4562])
    have gX : Gr wA wA := Gr.rfl' wA
    generalize t.erase.isOf [44] 2 = j1 at *
    generalize t.erase.isOf [59] 2 = j2 at *
    generalize t.erase.isOf [45, 62] 2 = j3 at *
    cases j1 <;> cases j2 <;> cases j3
    all_goals
      go_wp2_with (first
        | (go_at_call 47; rewrite [← HV.out]; refine (ris_calls _ _ _ _).mono ?_; rintro e w' ⟨rfl, hb⟩; (first | rewrite [h44.out] | rewrite [h59.out] | rewrite [h62.out]); replace HB := Lib.hid (HB.out.gr hb); replace gX := Gr.trans gX hb; clear b0 b1 b2 b3; obtain ⟨⟨b0, b1, b2, b3⟩, _, _⟩ := HB.out.parts; clear hb)
        | fail)
      go_meet
      exact ⟨by rw [HJ.out]; rfl, gX⟩
  case rest =>
    obtain ⟨rfl, gx⟩ := hcut
    have HB2 := Lib.hid (HB.out.gr gx)
    have HR2 := Lib.hid (HR.out.gr gx)
    have g2 : Gr w wc := gA.trans gx
    have hws : w.heap.size + 2 ≤ wc.heap.size := by have h1 := HR2.out.parts.2.2; omega
    clear HB HR gx gA
    obtain ⟨⟨b0, b1, b2, b3⟩, _, _⟩ := HB2.out.parts
    obtain ⟨⟨y0, y1, y2, y3⟩, ⟨f0, f1, f2, f3⟩, hlt⟩ := HR2.out.parts
    cases hj : t.erase.joins with
    | false =>
      have hbd : Hid (T.body t.erase = some t.erase) := by
        obtain ⟨k, n, s, p, c, l⟩ := t
        exact body_plain Hk.out.1 Hk.out.2 hj
      go_wp2_with fail
      refine bodyPost_ret (v := .tuple #[t.val, .bool true]) (by simp (maxDischargeDepth := 9) [results, Tryd.results90, go_sem, Tm.val, y0, y1, y2, y3]) rfl ?_
      rw [← HQ.out, hbd.out]
      have hg : Gr w ((((wc.setCell ⟨w.heap.size + 1, 0, none⟩ (.int .i64 t.k)).setCell ⟨w.heap.size + 1, 1, none⟩ (.int .i64 t.n)).setCell ⟨w.heap.size + 1, 2, none⟩ (.string t.s)).setCell ⟨w.heap.size + 1, 3, none⟩ (.slice t.p t.l.length t.c)) := by go_grown
      exact ⟨t, true, rfl, Tm.In_below hg Hin.out, rfl, (fun u hu => by cases hu; rfl), hg, Hon.out.mono (fun b hb => .inl hb), fun h => by cases h⟩
    | true =>
      obtain ⟨x, y, hl⟩ : ∃ x y, t.l = [x, y] := by
        obtain ⟨k, n, s, X, Y, he⟩ := joins_two hj
        obtain ⟨k', n', s', p', c', l'⟩ := t
        rw [Tm.erase] at he
        injection he with _ _ _ he
        match l', he with
        | [x, y], _ => exact ⟨x, y, rfl⟩
        | [], he => rw [Tm.eraseL] at he; cases he
        | [_], he => rw [Tm.eraseL, Tm.eraseL] at he; cases he
        | _ :: _ :: _ :: _, he => rw [Tm.eraseL, Tm.eraseL, Tm.eraseL] at he; cases he
      have HJ := Lib.hid hj
      clear hj
      obtain ⟨k, n, s, p, c, l⟩ := t
      simp only [Tm.l] at hl
      subst hl
      simp only [Tm.k, Tm.n, Tm.s, Tm.p, Tm.c, Tm.l] at *
      have hsl := Lib.hid Hin.out.sl
      have hsz : s.size ≤ 140737488351232 := by have h := Hin.out; rw [Tm.In] at h; exact h.2.2.1
      have hbd := Lib.hid (body_joins (n := n) (x := x.erase) (y := y.erase) Hk.out.1 Hk.out.2 (by have := HJ.out; rw [Tm.erase, Tm.eraseL, Tm.eraseL, Tm.eraseL] at this; exact this))
      obtain ⟨b, o, rfl⟩ := hsl.out.ptr (by simp)
      obtain ⟨⟨x0, x1, x2, x3⟩, hxi, _⟩ := (hsl.out.mono g2).elem 0 (by simp)
      obtain ⟨⟨z0, z1, z2, z3⟩, hyi, _⟩ := (hsl.out.mono g2).elem 1 (by simp)
      simp only [List.getElem_cons_zero, List.getElem_cons_succ, Nat.zero_mul, Nat.add_zero, Nat.one_mul] at x0 x1 x2 x3 z0 z1 z2 z3 hxi hyi
      have hon2 := Hon.out
      rw [Tm.On, Tm.OnL, Tm.OnL] at hon2
      have hfm2 := formed_two_inv (x := x.erase) (y := y.erase) (by have := Hfm.out; rw [Tm.erase, Tm.eraseL, Tm.eraseL, Tm.eraseL] at this; exact this)
      have Hxi := Lib.hid hxi
      have Hyi := Lib.hid hyi
      have Hxo := Lib.hid hon2.2.1
      have Hyo := Lib.hid hon2.2.2.1
      have Hxf := Lib.hid hfm2.2.2.2.1
      have Hyf := Lib.hid hfm2.2.2.2.2
      have Hix := Lib.hid (Hih.out x (by simp))
      have Hiy := Lib.hid (Hih.out y (by simp))
      have Hxv := Lib.hid (show x.val = .agg #[.int .i64 x.k, .int .i64 x.n, .string x.s, .slice x.p x.l.length x.c] from rfl)
      have Hyv := Lib.hid (show y.val = .agg #[.int .i64 y.k, .int .i64 y.n, .string y.s, .slice y.p y.l.length y.c] from rfl)
      clear hxi hyi hon2 hfm2
      go_upto_region 7 with (first
        | (go_at_call 90; rewrite [← Hxv.out]; refine (Hix.out S wc Hxi.out Hxf.out Hxo.out (fun b hb => Nat.lt_of_lt_of_le (HS.out b hb) g2.size)).mono ?_; rintro e w3 ⟨am, ok1, rfl, hai, hao, hau, hga, haon, _⟩; have Hai := Lib.hid hai; have Hao := Lib.hid hao; have Hau := Lib.hid hau; have Haon := Lib.hid haon; clear hai hao hau haon; obtain ⟨ka, na, sa, pa, ca, la⟩ := am; rewrite [tm_val])
        | fail)
      have hAb := Blk4.new w3 (.int .i64 ka) (.int .i64 na) (.string sa) (.slice pa la.length ca)
      have g4' : Gr w3 (w3.alloc (.cells #[.int .i64 ka, .int .i64 na, .string sa, .slice pa la.length ca] 34)) := by go_grown
      have hs4 : (w3.alloc (.cells #[.int .i64 ka, .int .i64 na, .string sa, .slice pa la.length ca] 34)).heap.size = w3.heap.size + 1 := by simp
      generalize w3.alloc (.cells #[.int .i64 ka, .int .i64 na, .string sa, .slice pa la.length ca] 34) = w4 at *
      have g24 : Gr wc w4 := hga.trans g4'
      have g4 : Gr w w4 := g2.trans g24
      have HB4 := Lib.hid (HB2.out.gr g24)
      have HR4 := Lib.hid (HR2.out.gr g24)
      have HA4 := Lib.hid hAb
      replace z0 := Gr.at g24 z0
      replace z1 := Gr.at g24 z1
      replace z2 := Gr.at g24 z2
      replace z3 := Gr.at g24 z3
      have hs3 := hga.size
      have hs4' : w3.heap.size ≤ w4.heap.size := by omega
      clear hs4
      have Hai4 := Lib.hid (Tm.In_below g4' Hai.out)
      clear b0 b1 b2 b3 y0 y1 y2 y3 f0 f1 f2 f3 x0 x1 x2 x3 hAb hga g4' HB2 HR2 hlt
      obtain ⟨⟨b0, b1, b2, b3⟩, _, _⟩ := HB4.out.parts
      go_upto_region 8 with (first
        | (go_at_call 90; rewrite [← Hyv.out]; refine (Hiy.out S w4 (Tm.In_below g24 Hyi.out) Hyf.out Hyo.out (fun b hb => Nat.lt_of_lt_of_le (HS.out b hb) g4.size)).mono ?_; rintro e w5 ⟨bm, ok2, rfl, hbi, hbo, hbu, hgb, hbon, _⟩; have Hbi := Lib.hid hbi; have Hbo := Lib.hid hbo; have Hbu := Lib.hid hbu; have Hbon := Lib.hid hbon; clear hbi hbo hbu hbon; obtain ⟨kb, nb, sb, pb, cb, lb⟩ := bm; rewrite [tm_val])
        | fail)
      have hBb := Blk4.new w5 (.int .i64 kb) (.int .i64 nb) (.string sb) (.slice pb lb.length cb)
      have g6' : Gr w5 (w5.alloc (.cells #[.int .i64 kb, .int .i64 nb, .string sb, .slice pb lb.length cb] 34)) := by go_grown
      have hs6 : (w5.alloc (.cells #[.int .i64 kb, .int .i64 nb, .string sb, .slice pb lb.length cb] 34)).heap.size = w5.heap.size + 1 := by simp
      generalize w5.alloc (.cells #[.int .i64 kb, .int .i64 nb, .string sb, .slice pb lb.length cb] 34) = w6 at *
      have g46 : Gr w4 w6 := hgb.trans g6'
      have g6 : Gr w w6 := g4.trans g46
      have HB6 := Lib.hid (HB4.out.gr g46)
      have HR6 := Lib.hid (HR4.out.gr g46)
      have HA6 := Lib.hid (HA4.out.gr g46)
      have HBb6 := Lib.hid hBb
      have hs5 := hgb.size
      have hs6' : w5.heap.size ≤ w6.heap.size := by omega
      clear hs6
      have Hai6 := Lib.hid (Tm.In_below g46 Hai4.out)
      have Hbi6 := Lib.hid (Tm.In_below g6' Hbi.out)
      have hlt6 := HR6.out.parts.2.2
      clear b0 b1 b2 b3 z0 z1 z2 z3 hBb hgb g6' HB4 HR4 HA4
      obtain ⟨⟨b0, b1, b2, b3⟩, _, _⟩ := HB6.out.parts
      obtain ⟨⟨p0, p1, p2, p3⟩, _, _⟩ := HA6.out.parts
      obtain ⟨⟨q0, q1, q2, q3⟩, _, _⟩ := HBb6.out.parts
      have hres : Hid ((ok1 && ok2) = true → ∀ w', Gr (w6.alloc (.cells #[.int .i64 ka, .int .i64 na, .string sa, .slice pa la.length ca, .int .i64 kb, .int .i64 nb, .string sb, .slice pb lb.length cb] 34)) w' → Q (.returned (.tuple #[(compTm s (some ⟨w6.heap.size, 0, none⟩) 2 [.mk ka na sa pa ca la, .mk kb nb sb pb cb lb]).val, .bool (ok1 && ok2)])) ((((w'.setCell ⟨w.heap.size + 1, 0, none⟩ (.int .i64 4)).setCell ⟨w.heap.size + 1, 1, none⟩ (.int .i64 0)).setCell ⟨w.heap.size + 1, 2, none⟩ (.string s)).setCell ⟨w.heap.size + 1, 3, none⟩ (.slice (some ⟨w6.heap.size, 0, none⟩) 2 2))) := by
        intro hok w' hb
        have hsl2 := two_new (t := .mk ka na sa pa ca la) (u := .mk kb nb sb pb cb lb) Hai6.out Hbi6.out hb
        have gw : Gr w w' := g6.trans (below_step hb (by go_grown))
        have hS' : ∀ b, S b → b < w.heap.size := HS.out
        have hg : Gr w ((((w'.setCell ⟨w.heap.size + 1, 0, none⟩ (.int .i64 4)).setCell ⟨w.heap.size + 1, 1, none⟩ (.int .i64 0)).setCell ⟨w.heap.size + 1, 2, none⟩ (.string s)).setCell ⟨w.heap.size + 1, 3, none⟩ (.slice (some ⟨w6.heap.size, 0, none⟩) 2 2)) := by go_grown
        have hon : (compTm s (some ⟨w6.heap.size, 0, none⟩) 2 [.mk ka na sa pa ca la, .mk kb nb sb pb cb lb]).On fun b => S b ∨ w.heap.size + 2 ≤ b := by
          rw [compTm, Tm.On, Tm.OnL, Tm.OnL, Tm.OnL]
          exact ⟨.inr ⟨_, _, rfl, .inr (by omega)⟩, Haon.out.mono fun b hb => hb.imp id fun h => by omega, Hbon.out.mono fun b hb => hb.imp id fun h => by omega, trivial⟩
        rw [← HQ.out]
        refine ⟨_, _, rfl, ?_, ?_, ?_, hg, hon.mono (fun b hb => hb.imp id fun h => by omega), fun hn => ?_⟩
        · exact in_after' (compTm_in hsz hsl2) hon fun b h1 h2 o => by
            have : b ≠ w.heap.size + 1 := by
              rcases h1 with h1 | h1
              · have := hS' b h1; omega
              · omega
            rw [cell_set_ne this, cell_set_ne this, cell_set_ne this, cell_set_ne this]
        · rw [Tm.erase, Tm.eraseL, Tm.eraseL, Tm.eraseL, hbd.out, Hao.out, Hbo.out]
          cases T.body x.erase <;> cases T.body y.erase <;> rfl
        · intro u hu
          rw [Tm.erase, Tm.eraseL, Tm.eraseL, Tm.eraseL, hbd.out] at hu
          cases ha : T.body x.erase with
          | none => rw [ha] at hu; cases hu
          | some a =>
            cases hc : T.body y.erase with
            | none => rw [ha, hc] at hu; cases hu
            | some e =>
              rw [ha, hc] at hu
              cases hu
              rw [compTm, Tm.erase, Tm.eraseL, Tm.eraseL, Tm.eraseL, Hau.out a ha, Hbu.out e hc]
              rfl
        · exfalso
          rw [Tm.erase, Tm.eraseL, Tm.eraseL, Tm.eraseL, hbd.out] at hn
          have h1 := Hao.out
          have h2 := Hbo.out
          subst h1 h2
          cases ha : T.body x.erase with
          | none => rw [ha] at hok; cases hok
          | some a =>
            cases hc : T.body y.erase with
            | none => rw [ha, hc] at hok; cases hok
            | some e => rw [ha, hc] at hn; cases hn
      have hz : Hid ((ok1 && ok2) = false → ∀ w', Gr w w' → Q (.returned (.tuple #[zeroTm.val, .bool false])) w') := by
        intro hok w' hg
        rw [← HQ.out]
        refine ⟨zeroTm, false, rfl, zeroTm_in _, ?_, ?_, hg, (by rw [zeroTm, Tm.On, Tm.OnL]; exact ⟨.inl rfl, trivial⟩), fun _ => zeroTm_erase⟩
        · rw [Tm.erase, Tm.eraseL, Tm.eraseL, Tm.eraseL, hbd.out]
          have h1 := Hao.out
          have h2 := Hbo.out
          subst h1 h2
          cases ha : T.body x.erase with
          | none => rfl
          | some a =>
            cases hc : T.body y.erase with
            | none => rfl
            | some e => rw [ha, hc] at hok; cases hok
        · intro u hu
          rw [Tm.erase, Tm.eraseL, Tm.eraseL, Tm.eraseL, hbd.out] at hu
          have h1 := Hao.out
          have h2 := Hbo.out
          subst h1 h2
          cases ha : T.body x.erase with
          | none => rw [ha] at hu; cases hu
          | some a =>
            cases hc : T.body y.erase with
            | none => rw [ha, hc] at hu; cases hu
            | some e => rw [ha, hc] at hok; cases hok
      cases ok1 with
      | false =>
        cases ok2
        all_goals
          obtain ⟨⟨y0, y1, y2, y3⟩, ⟨f0, f1, f2, f3⟩, _⟩ := HR6.out.parts
          clear p0 p1 p2 p3 q0 q1 q2 q3 b0 b1 b2 b3
          go_wp2_with fail
          exact bodyPost_ret (by simp (maxDischargeDepth := 9) [results, Tryd.results90, go_sem, zeroTm, Tm.val, Tm.k, Tm.n, Tm.s, Tm.p, Tm.c, Tm.l, y0, y1, y2, y3]) rfl (hz.out rfl _ (by go_grown))
      | true =>
        cases ok2 with
        | false =>
          obtain ⟨⟨y0, y1, y2, y3⟩, ⟨f0, f1, f2, f3⟩, _⟩ := HR6.out.parts
          clear p0 p1 p2 p3 q0 q1 q2 q3 b0 b1 b2 b3
          go_wp2_with fail
          exact bodyPost_ret (by simp (maxDischargeDepth := 9) [results, Tryd.results90, go_sem, zeroTm, Tm.val, Tm.k, Tm.n, Tm.s, Tm.p, Tm.c, Tm.l, y0, y1, y2, y3]) rfl (hz.out rfl _ (by go_grown))
        | true =>
          go_wp2_with (first
            | (go_at_call 53; refine (rC_calls _ _ _ _ _).mono ?_; rintro e w' ⟨rfl, hb⟩; have hfin := Lib.hid (hres.out rfl w' hb); have gb : Gr w6 w' := below_step hb (by go_grown); obtain ⟨⟨y0, y1, y2, y3⟩, ⟨f0, f1, f2, f3⟩, hlt⟩ := (HR6.out.gr gb).parts; clear hb b0 b1 b2 b3 p0 p1 p2 p3 q0 q1 q2 q3)
            | fail)
          exact bodyPost_ret (by simp (maxDischargeDepth := 9) [results, Tryd.results90, go_sem, compTm, Tm.val, Tm.k, Tm.n, Tm.s, Tm.p, Tm.c, Tm.l, y0, y1, y2, y3]) rfl hfin.out

theorem rbody_any (NN : Nat) : ∀ t : Tm, SizeOf.sizeOf t ≤ NN → rbodyOf t := by
  induction NN with
  | zero => intro t h; cases t; simp at h
  | succ NN ih =>
    intro t hN S w hin hfm hon hS
    by_cases hk1 : t.k = 1
    · obtain ⟨k, n, s, p, c, l⟩ := t
      obtain rfl : k = 1 := hk1
      have := rbody_walk_var n s p c l S w hin hon hS
      rw [Tm.erase] at this ⊢
      rw [body_var]
      exact this
    by_cases hk2 : t.k = 2
    · obtain ⟨k, n, s, p, c, l⟩ := t
      obtain rfl : k = 2 := hk2
      rw [Tm.erase, body_int]
      exact rbody_walk_int n s p c l S w
    refine rbody_walk_rest t hk1 hk2 (fun x hx => ih x ?_) S w hin hfm hon hS
    obtain ⟨k, n, s, p, c, l⟩ := t
    have := Tm.sizeOf_mem (l := l) hx k n s p c
    omega

theorem rbody_calls {t : Tm} {S : Nat → Prop} {w : World} (h : t.In w) (hf : t.erase.formed = true) (hon : t.On S) (hS : ∀ b, S b → b < w.heap.size) : Calls Tryd.prog 90 #[t.val] w (RetRBody S (T.body t.erase) w) := rbody_any _ t (Nat.le_refl _) S w h hf hon hS
end Go.Proofs.YtjdoflfdlhpbmaaDoor

namespace Go.Proofs.YtjdoflfdlhpbmaaDoor
open Go.RowKit

theorem hasB_true {l : List ByteArray} {s x : ByteArray} {j : Nat} (hx : l[j]? = some x) (h : (x.toList == s.toList) = true) : hasB l s = true := by
  rw [hasB, decide_eq_true_eq, ← beq_iff_eq.1 h]
  exact List.mem_map.2 ⟨x, List.mem_of_getElem? hx, rfl⟩

/-- It is none of the first ones. -/
def noneTo (l : List ByteArray) (s : ByteArray) (j : Nat) : Prop := ∀ i x, i < j → l[i]? = some x → x.toList ≠ s.toList
theorem noneTo_succ {l : List ByteArray} {s x : ByteArray} {j : Nat} (h : noneTo l s j) (hx : l[j]? = some x) (hne : (x.toList == s.toList) = false) : noneTo l s (j + 1) := by
  intro i y hi hy
  by_cases e : i = j
  · subst e
    rw [hx] at hy
    cases hy
    simpa using hne
  · exact h i y (by omega) hy
theorem hasB_false {l : List ByteArray} {s : ByteArray} (h : noneTo l s l.length) : hasB l s = false := by
  rw [hasB, decide_eq_false_iff_not]
  intro hm
  obtain ⟨x, hx, e⟩ := List.mem_map.1 hm
  obtain ⟨i, hi, rfl⟩ := List.getElem_of_mem hx
  exact h i _ hi (List.getElem?_eq_getElem hi) e

set_option maxHeartbeats 1000000 in
set_option maxRecDepth 100000 in
theorem rreserved_calls (s : ByteArray) (n : Int) (w : World) (m : Int) (hm : w.cell? ⟨0, 0, none⟩ = some (.int .i64 m)) : Calls Tryd.prog 48 #[.string s, .int .i64 n] w (Ret (.bool (reserved s.toList n)) w) := by
  have hR : Hid (∀ b, reserved s.toList n = b → ∀ w', Gr w w' → Ret (.bool (reserved s.toList n)) w (.returned (.bool b)) w') := fun b hb w' hg => ⟨by rw [hb], hg⟩
  generalize hQ : Ret (.bool (reserved s.toList n)) w = Q at hR ⊢
  clear hQ
  go_enter Tryd.func48, Tryd.ntmps48
  try simp only [List.append_eq, List.cons_append, List.nil_append]
  go_upto_region 2 with fail
  have hcells := strs_new w 9 resSs
  have gA : Gr w (w.alloc (.cells (resSs.map Value.string).toArray 9)) := by go_grown
  change Code.wp _ _ _ _ (w.alloc (.cells (resSs.map Value.string).toArray 9))
  have hmA := Lib.hid (gA.at hm)
  clear hm
  generalize w.alloc (.cells (resSs.map Value.string).toArray 9) = wA at *
  cases hc : (s.toList == [99, 97, 108, 108]) with
  | true =>
    have hv := Lib.hid (show reserved s.toList n = (decide (1 ≤ n) && decide (n ≤ 8)) by rw [isCall_true hc, reserved_call])
    by_cases h1 : 1 ≤ n
    · have hv3 := Lib.hid (show reserved s.toList n = decide (n ≤ 8) by rw [hv.out, decide_eq_true h1, Bool.true_and])
      clear hcells
      go_wp2_with fail
      exact hR.out _ hv3.out _ (by go_grown)
    · have hv3 := Lib.hid (show reserved s.toList n = false by rw [hv.out, decide_eq_false h1, Bool.false_and])
      clear hcells
      go_wp2_with fail
      exact hR.out _ hv3.out _ (by go_grown)
  | false =>
    by_cases h0 : n < 0
    · have hv := Lib.hid (reserved_out (isCall_false hc) (.inl h0))
      clear hcells
      go_wp2_with fail
      exact hR.out _ hv.out _ (by go_grown)
    by_cases h3 : 3 < n
    · have hv := Lib.hid (reserved_out (isCall_false hc) (.inr h3))
      clear hcells
      go_wp2_with fail
      exact hR.out _ hv.out _ (by go_grown)
    obtain ⟨k, hk⟩ : ∃ k : Nat, n = k := ⟨n.toNat, by omega⟩
    subst hk
    have hk4 : k < 4 := by omega
    obtain ⟨rs, hrs⟩ : ∃ rs, resSs[k]? = some rs := ⟨_, List.getElem?_eq_getElem (by simpa [resSs] using hk4)⟩
    have c0 := hcells k rs hrs
    obtain ⟨hsp, hsz⟩ := split_res k rs hrs
    have hv := Lib.hid (show reserved s.toList k = hasB (resB k) s by rw [reserved_in (isCall_false hc) (by omega) (by omega), hasB, resB_eq, Int.toNat_natCast])
    have hsplit : Hid (∀ wq : World, Gr wA wq → Calls Tryd.prog 87 #[.string rs, .string blank1] wq fun e w' => e = .returned (.slice (some ⟨wq.heap.size, 0, none⟩) (resB k).length (resB k).length) ∧ w' = wq.alloc (.cells ((resB k).map Value.string).toArray 9)) := by
      intro wq hq
      have hcn := Lib.splitB_all blank1 (by decide) 0 _ rs rfl
      have e : (resB k).length = Lib.countB rs blank1 + 1 := by rw [← hsp]; exact hcn
      rw [e, ← hsp]
      exact Tryd.strings_Split rs blank1 m wq (by omega) (hq.at hmA.out) (by decide)
    have hsm := resB_small k
    clear hsp hcells hmA hrs
    generalize resB k = l at *
    go_upto_region 7 with (first | (go_at_call 87; refine (hsplit.out _ (by go_grown)).mono ?_; rintro e w' ⟨rfl, rfl⟩) | fail)
    have hrow := strs_new wA 9 l
    have gB : Gr wA (wA.alloc (.cells (l.map Value.string).toArray 9)) := by go_grown
    have g2 := gA.trans gB
    clear hsplit c0 gB
    generalize wA.alloc (.cells (l.map Value.string).toArray 9) = wC at *
    go_wp2_with fail
    go_loopg [7] l.length (fun n i wr => ∃ j : Nat, j ≤ l.length ∧ n = l.length - j ∧ i = .int .i64 j ∧ wr = wC ∧ Hid (noneTo l s j))
    case atStart => exact ⟨0, Nat.zero_le _, rfl, rfl, rfl, fun i x hi => by omega⟩
    case round =>
      obtain ⟨j, hj, rfl, rfl, rfl, hno⟩ := hrel
      by_cases hlt : j < l.length
      · obtain ⟨x, hx⟩ : ∃ x, l[j]? = some x := ⟨_, List.getElem?_eq_getElem hlt⟩
        have c1 := hrow j x hx
        have HX := Lib.hid hx
        clear hx hrow
        cases he : (x.toList == s.toList) with
        | true =>
          have hv2 := Lib.hid (show reserved s.toList k = true by rw [hv.out]; exact hasB_true HX.out he)
          go_wp2_with fail
          exact hR.out _ hv2.out _ g2
        | false =>
          have hno2 : Hid (noneTo l s (j + 1)) := noneTo_succ hno.out HX.out he
          go_wp2_with fail
          go_roundg (l.length - (j + 1))
          case measure => omega
          case rel => exact ⟨j + 1, by omega, rfl, by go_num, rfl, hno2⟩
      · obtain rfl : j = l.length := by omega
        have hv2 := Lib.hid (show reserved s.toList k = false by rw [hv.out]; exact hasB_false hno.out)
        clear hrow
        go_wp2_with fail
        exact hR.out _ hv2.out _ g2
end Go.Proofs.YtjdoflfdlhpbmaaDoor

namespace Go.Proofs.YtjdoflfdlhpbmaaDoor
open Go.RowKit

def hasIdx (L : List Int) (n : Int) : Int := if n ∈ L then (L.idxOf n : Int) else -1

theorem idxOf_first {L : List Int} {n : Int} {k : Nat} (hk : L[k]? = some n) (hno : ∀ i, i < k → L[i]? ≠ some n) : L.idxOf n = k := by
  obtain ⟨hlt, he⟩ := List.getElem?_eq_some_iff.1 hk
  have hm : n ∈ L := he ▸ List.getElem_mem hlt
  have h1 := List.idxOf_lt_length_of_mem hm
  have h2 : L[L.idxOf n] = n := List.getElem_idxOf h1
  rcases Nat.lt_trichotomy (L.idxOf n) k with h | h | h
  · exact absurd (List.getElem?_eq_some_iff.2 ⟨h1, h2⟩) (hno _ h)
  · exact h
  · have := List.not_of_lt_findIdx (p := (· == n)) (xs := L) (i := k) (by exact h)
    simp [he] at this

set_option maxHeartbeats 1000000 in
set_option maxRecDepth 100000 in
theorem has_calls (p : Option Addr) (c : Nat) (L : List Int) (n : Int) (w : World) (h : IntSl w p c L) : Calls Tryd.prog 93 #[.slice p L.length c, .int .i64 n] w (Ret (.int .i64 (hasIdx L n)) w) := by
  have hR : Hid (∀ m, hasIdx L n = m → ∀ w', Gr w w' → Ret (.int .i64 (hasIdx L n)) w (.returned (.int .i64 m)) w') := fun b hb w' hg => ⟨by rw [hb], hg⟩
  have HH := Lib.hid (show hasIdx L n = if n ∈ L then (L.idxOf n : Int) else -1 from rfl)
  generalize hQ : Ret (.int .i64 (hasIdx L n)) w = Q at hR ⊢
  clear hQ
  generalize hasIdx L n = r at *
  have hlc : L.length ≤ c := h.1
  have hc : c ≤ 9223372036854775807 := h.2.1
  have H := Lib.hid h
  clear h
  go_enter Tryd.func93, Tryd.ntmps93
  try simp only [List.append_eq, List.cons_append, List.nil_append]
  go_wp2_with fail
  go_loopg [5] L.length (fun m i wr => ∃ k : Nat, k ≤ L.length ∧ m = L.length - k ∧ i = .int .i64 k ∧ wr = w ∧ Hid (∀ i, i < k → L[i]? ≠ some n))
  case atStart => exact ⟨0, Nat.zero_le _, rfl, rfl, rfl, fun i hi => by omega⟩
  case round =>
    obtain ⟨k, hk, rfl, rfl, rfl, hno⟩ := hrel
    by_cases hlt : k < L.length
    · obtain ⟨b, o, rfl, _, hr⟩ := H.out.ptr (by omega)
      have hy : L[k]? = some L[k] := List.getElem?_eq_getElem hlt
      have c0 := hr k _ hy
      clear hr
      generalize L[k] = y at *
      have HY := Lib.hid hy
      clear hy
      cases he : (y == n) with
      | true =>
        have hyn : y = n := beq_iff_eq.1 he
        have hv : Hid (r = (k : Int)) := by
          have hk2 : L[k]? = some n := hyn ▸ HY.out
          show _ = _
          rw [HH.out, if_pos (List.mem_of_getElem? hk2), idxOf_first hk2 hno.out]
        clear hyn
        go_wp2_with fail
        exact hR.out _ hv.out _ (Gr.rfl' _)
      | false =>
        have hno2 : Hid (∀ i, i < k + 1 → L[i]? ≠ some n) := fun i hi => by
          by_cases hik : i = k
          · subst hik
            rw [HY.out]
            intro e
            cases e
            simp at he
          · exact hno.out i (by omega)
        go_wp2_with fail
        go_roundg (L.length - (k + 1))
        case measure => omega
        case rel => exact ⟨k + 1, by omega, rfl, by go_num, rfl, hno2⟩
    · obtain rfl : k = L.length := by omega
      have hv : Hid (r = -1) := by
        show _ = _
        rw [HH.out, if_neg]
        intro hm
        obtain ⟨i, hi, he⟩ := List.getElem_of_mem hm
        exact hno.out i hi (List.getElem?_eq_some_iff.2 ⟨hi, he⟩)
      go_wp2_with fail
      exact hR.out _ hv.out _ (Gr.rfl' _)

end Go.Proofs.YtjdoflfdlhpbmaaDoor
