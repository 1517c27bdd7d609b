/-
  slices.Concat and slices.Insert where a base has its first clause.
  base.Make
-/
import Derived.Test.YtjdoflfdlhpbmaaGreatBF08
namespace Go.Proofs.YtjdoflfdlhpbmaaGreat
open Go.RowKit Go.Maps Go.Lib

theorem row_form {w : World} {base size n : Nat} {e : TypeId} {v : Value} {xs : List Value} (h : w.ownsRow base e size v n xs) : ∃ q cp, v = .slice q n cp ∧ n ≤ cp := by
  rcases h.2 with ⟨rfl, rfl⟩ | ⟨g, cap, cur, rfl, _, _, h, _⟩
  · exact ⟨none, 0, rfl, Nat.le_refl _⟩
  · exact ⟨_, _, rfl, h⟩

/-- The i-th of the three lists. -/
def thirdOf (b : Nat) (i : Nat) : Value := if i = 1 then .slice (some ⟨b, 0, none⟩) 1 1 else .slice none 0 0
def upTo (i : Nat) : Nat := if i ≤ 1 then 0 else 1

set_option maxHeartbeats 1000000 in
set_option maxRecDepth 100000 in
theorem concat_calls (a b : Nat) (x : List Value) (w : World) (hx : x.length = 9) (h1 : ∀ u ∈ x, u.oneCell' = true) (hb : ∀ j u, x[j]? = some u → w.cell? ⟨b, j, none⟩ = some u)
    (c0 : w.cell? ⟨a, 0, none⟩ = some (.slice none 0 0)) (c1 : w.cell? ⟨a, 1, none⟩ = some (.slice (some ⟨b, 0, none⟩) 1 1)) (c2 : w.cell? ⟨a, 2, none⟩ = some (.slice none 0 0)) :
    Calls Tryz.prog 27 #[.slice (some ⟨a, 0, none⟩) 3 3] w fun e w' => ∃ v, e = .returned v ∧ w'.ownsRow w.heap.size 73 9 v 1 x ∧ Gr w w' := by
  have Hb := Lib.hid hb
  have H1 := Lib.hid h1
  have Hx := Lib.hid hx
  have hR : Hid (∀ v w', w'.ownsRow w.heap.size 73 9 v 1 x → Gr w w' → (fun (e : Ending) (w' : World) => ∃ v, e = .returned v ∧ w'.ownsRow w.heap.size 73 9 v 1 x ∧ Gr w w') (.returned v) w') := fun v w' h hg => ⟨v, rfl, h, hg⟩
  generalize hQ : (fun (e : Ending) (w' : World) => ∃ v, e = .returned v ∧ w'.ownsRow w.heap.size 73 9 v 1 x ∧ Gr w w') = Q at hR ⊢
  clear hQ hb h1 hx
  have Hc : Hid (∀ i, i < 3 → w.cell? ⟨a, i, none⟩ = some (thirdOf b i)) := fun i hi => by
    match i, hi with
    | 0, _ => exact c0
    | 1, _ => exact c1
    | 2, _ => exact c2
  clear c0 c1 c2
  go_enter Tryz.func27, Tryz.ntmps27
  try simp only [List.append_eq, List.cons_append, List.nil_append]
  go_wp2_with fail
  go_loopg [3, 11] 3 (fun n s i wr => ∃ j : Nat, j ≤ 3 ∧ n = 3 - j ∧ s = .int .i64 (upTo j : Nat) ∧ i = .int .i64 j ∧ w = wr)
  case atStart => exact ⟨0, by omega, rfl, rfl, rfl, rfl⟩
  case round =>
    obtain ⟨j, hj, rfl, rfl, rfl, rfl⟩ := hrel
    match j, hj with
    | 0, _ =>
      have cj := Hc.out 0 (by omega)
      simp only [thirdOf, upTo] at cj ⊢
      go_wp2_with fail
      go_roundg (3 - 1)
      case measure => omega
      case rel => exact ⟨1, by omega, rfl, rfl, rfl, rfl⟩
    | 1, _ =>
      have cj := Hc.out 1 (by omega)
      simp only [thirdOf, upTo] at cj ⊢
      go_wp2_with fail
      go_roundg (3 - 2)
      case measure => omega
      case rel => exact ⟨2, by omega, rfl, rfl, rfl, rfl⟩
    | 2, _ =>
      have cj := Hc.out 2 (by omega)
      simp only [thirdOf, upTo] at cj ⊢
      go_wp2_with fail
      go_roundg (3 - 3)
      case measure => omega
      case rel => exact ⟨3, by omega, rfl, rfl, rfl, rfl⟩
    | 3, _ =>
      go_wp2_with (first
        | (go_at_call 54; refine (grow_calls _).mono ?_; rintro e w2 ⟨v0, rfl, ho, hg⟩; have Ho := Lib.hid ho; have Hg := hg; clear ho hg)
        | fail)
      go_loopg [6, 27] 3 (fun n v i wr => ∃ (j : Nat) (u : Value), u = v ∧ j ≤ 3 ∧ n = 3 - j ∧ i = .int .i64 j ∧ Gr w wr ∧ Hid (wr.ownsRow w.heap.size 73 9 u (upTo j) (if j ≤ 1 then [] else x)))
      case atStart => exact ⟨0, _, rfl, by omega, rfl, rfl, Hg, Ho⟩
      case round =>
        obtain ⟨i0, hi, _, _, _⟩ := info_parts infoHeld
        obtain ⟨j, v, rfl, hj, rfl, rfl, gr, ho⟩ := hrel
        match j, hj with
        | 0, _ =>
          have cj := Gr.at gr (Hc.out 0 (by omega))
          simp only [thirdOf] at cj
          have ho' : wr.ownsRow w.heap.size 73 9 v 0 [] := ho.out
          obtain ⟨q, cp, rfl, hcp⟩ := row_form ho'
          have hr := run_append_empty (P := Tryz.prog) wr 70 70 73 i0 Tryz.underlying70 hi q _ cp none 0 hcp
          go_wp2_with (first
            | (refine wpList_append_run wr rfl _ _ _ _ rfl _ _ (by rfl) (by rfl) _ _ hr ?_)
            | fail)
          go_roundg (3 - 1)
          case measure => omega
          case rel => exact ⟨1, _, rfl, by omega, rfl, rfl, gr, Lib.hid ho'⟩
        | 1, _ =>
          have cj := Gr.at gr (Hc.out 1 (by omega))
          simp only [thirdOf] at cj
          have ho' : wr.ownsRow w.heap.size 73 9 v 0 [] := ho.out
          have hlt := ho'.lt
          go_wp2_with (first
            | (refine wpList_append_one rfl _ _ 70 73 rfl Tryz.underlying70 infoHeld rfl (by decide) w.heap.size v 0 [] b 1 x (by rfl) (by rfl) ho' gr.size Hx.out (fun j u hu => Gr.at gr (Hb.out j u hu)) H1.out (by decide) (by decide) ?_
               intro v' w' h2 h3 h4
               have gr' : Gr w w' := Below.trans gr (grownBy_below h3 gr.size fun k hk => (hlt k hk).1)
               have Ho2 := Lib.hid h2
               clear h2 h3 h4)
            | fail)
          go_roundg (3 - 2)
          case measure => omega
          case rel => exact ⟨2, _, rfl, by omega, rfl, rfl, gr', Ho2⟩
        | 2, _ =>
          have cj := Gr.at gr (Hc.out 2 (by omega))
          simp only [thirdOf] at cj
          have ho' : wr.ownsRow w.heap.size 73 9 v 1 x := ho.out
          obtain ⟨q, cp, rfl, hcp⟩ := row_form ho'
          have hr := run_append_empty (P := Tryz.prog) wr 70 70 73 i0 Tryz.underlying70 hi q _ cp none 0 hcp
          go_wp2_with (first
            | (refine wpList_append_run wr rfl _ _ _ _ rfl _ _ (by rfl) (by rfl) _ _ hr ?_)
            | fail)
          go_roundg (3 - 3)
          case measure => omega
          case rel => exact ⟨3, _, rfl, by omega, rfl, rfl, gr, Lib.hid ho'⟩
        | 3, _ =>
          have ho' : wr.ownsRow w.heap.size 73 9 v 1 x := ho.out
          go_wp2_with fail
          exact hR.out v wr ho' gr
end Go.Proofs.YtjdoflfdlhpbmaaGreat

namespace Go.Proofs.YtjdoflfdlhpbmaaGreat
open Go.RowKit

/-- RetCE, and both lie on new blocks. -/
def RetCEO (r : (T × T) × Int) (w : World) (e : Ending) (w' : World) : Prop := ∃ hm bm : Tm, e = .returned (.tuple #[clVal hm bm, .int .i64 r.2]) ∧ hm.In w' ∧ bm.In w' ∧ (hm.erase, bm.erase) = r.1 ∧ Gr w w' ∧ hm.On (w.heap.size ≤ ·) ∧ bm.On (w.heap.size ≤ ·)
theorem zeroTm_onE {S : Nat → Prop} : zeroTm.On S := by rw [zeroTm, Tm.On, Tm.OnL]; exact ⟨.inl rfl, trivial⟩

set_option maxHeartbeats 8000000 in
set_option maxRecDepth 100000 in
theorem Make_callsO (t : Tm) (w : World) (hin : t.In w) : Calls Tryz.prog 6 #[t.val] w (RetCEO (makeAns t.erase) w) := by
  have Hin := Lib.hid hin
  have hR0 : Hid (∀ E : Int, makeAns t.erase = ((zeroT, zeroT), E) → ∀ w', Gr w w' → RetCEO (makeAns t.erase) w (.returned (.tuple #[clVal zeroTm zeroTm, .int .i64 E])) w') := fun E hE w' hg => by
    rw [hE]; exact ⟨zeroTm, zeroTm, rfl, zeroTm_in _, zeroTm_in _, by rw [zeroTm_erase], hg, zeroTm_onE, zeroTm_onE⟩
  have hR1 : Hid (∀ (hm bm : Tm), makeAns t.erase = ((hm.erase, bm.erase), 0) → ∀ w', hm.In w' → bm.In w' → Gr w w' → hm.On (w.heap.size ≤ ·) → bm.On (w.heap.size ≤ ·) → RetCEO (makeAns t.erase) w (.returned (.tuple #[clVal hm bm, .int .i64 0])) w') := fun hm bm hb w' h1 h2 hg o1 o2 => by rw [hb]; exact ⟨hm, bm, rfl, h1, h2, rfl, hg, o1, o2⟩
  have hA2 := Lib.hid (fun h => makeAns_bad (t := t.erase) h)
  have hA7 := Lib.hid (fun h h2 => makeAns_none (t := t.erase) h h2)
  have hA0 := Lib.hid (fun x h h2 => makeAns_some (t := t.erase) (x := x) h h2)
  have hfl := Lib.hid (formedL_one t)
  generalize makeAns t.erase = r at *
  generalize hQ : RetCEO r w = Q at *
  clear hQ hin
  have Hv := Lib.hid (show t.val = .agg #[.int .i64 t.k, .int .i64 t.n, .string t.s, .slice t.p t.l.length t.c] from rfl)
  rw [Hv.out]
  go_enter Tryz.func6, Tryz.ntmps6
  try simp only [List.append_eq, List.cons_append, List.nil_append]
  go_upto_region 1 with fail
  obtain ⟨HB, HR, gA⟩ := blocks48 w (.int .i64 t.k) (.int .i64 t.n) (.string t.s) (.slice t.p t.l.length t.c) (.int .i64 0) (.int .i64 0) (.string ⟨#[]⟩) (.slice none 0 0) (.int .i64 0) (.int .i64 0) (.string ⟨#[]⟩) (.slice none 0 0)
  generalize (w.alloc (.cells #[.int .i64 t.k, .int .i64 t.n, .string t.s, .slice t.p t.l.length t.c] 24)).alloc (.cells #[.int .i64 0, .int .i64 0, .string ⟨#[]⟩, .slice none 0 0, .int .i64 0, .int .i64 0, .string ⟨#[]⟩, .slice none 0 0] 29) = wA at *
  obtain ⟨⟨b0, b1, b2, b3⟩, _, _⟩ := HB.out.parts
  have hszA : w.heap.size + 1 < wA.heap.size := HR.out.lt
  cases hf : t.erase.formed with
  | false =>
    have hv := Lib.hid (hR0.out 2 (hA2.out hf))
    have hff := Lib.hid (hfl.out.trans hf)
    clear hf
    go_wp2_with (first
      | (go_at_call 18; refine (all_calls (one_new (t := t) (Tm.In_below gA Hin.out) (Gr.rfl' _))).mono ?_; rintro e w' ⟨rfl, hb⟩; rewrite [hff.out]; have g2 : Gr wA w' := below_step hb (by go_grown); obtain ⟨y0, y1, y2, y3, y4, y5, y6, y7⟩ := (HR.out.gr g2).cells; obtain ⟨f0, f1, f2, f3, f4, f5, f6, f7⟩ := (HR.out.gr g2).open_; clear hb b0 b1 b2 b3)
      | fail)
    exact bodyPost_ret (by simp (maxDischargeDepth := 9) [results, Tryz.results6, go_sem, clVal, zeroTm, Tm.k, Tm.n, Tm.s, Tm.p, Tm.c, Tm.l, y0, y1, y2, y3, y4, y5, y6, y7]) rfl (hv.out _ (by have := gA.trans g2; go_grown))
  | true =>
    have hff := Lib.hid (hfl.out.trans hf)
    have Hf := Lib.hid hf
    clear hf
    go_upto_region 3 with (first
      | (go_at_call 18; refine (all_calls (one_new (t := t) (Tm.In_below gA Hin.out) (Gr.rfl' _))).mono ?_; rintro e w' ⟨rfl, hb⟩; rewrite [hff.out]; have g2 : Gr wA w' := below_step hb (by go_grown); clear hb b0 b1 b2 b3)
      | fail)
    have HB2 := Lib.hid (HB.out.gr g2)
    have HR2 := Lib.hid (HR.out.gr g2)
    have g3 := gA.trans g2
    have hs2 := g2.size
    clear HB HR g2 gA
    go_cut [4, 5, 14, 15] from 14 to 15 (fun p q _ _ wx => ∃ b4 b5, p = .pointer (some ⟨b4, 0, none⟩) ∧ q = .pointer (some ⟨b5, 0, none⟩) ∧ b4 ≠ b5 ∧ w'.heap.size ≤ b4 ∧ w'.heap.size ≤ b5 ∧ Blk4 wx b4 (.int .i64 t.k) (.int .i64 t.n) (.string t.s) (.slice t.p t.l.length t.c) ∧ Blk4 wx b5 (.int .i64 3) (.int .i64 0) (.string ⟨#[116, 114, 117, 101]⟩) (.slice none 0 0) ∧ Gr w' wx)
    case first =>
      obtain ⟨⟨b0, b1, b2, b3⟩, _, hltB⟩ := HB2.out.parts
      have hlt1 : w.heap.size < w'.heap.size + 1 := by omega
      have hlt2 : w.heap.size < w'.heap.size + 1 + 1 := by omega
      have hlt3 : w.heap.size < w'.heap.size + 1 + 1 + 1 := by omega
      go_region_with (first
        | (go_at_call 19; refine (atomA_exact _ _).mono ?_; rintro e w'' ⟨rfl, rfl⟩)
        | fail)
      all_goals
        go_wp2_with fail
        go_meet
        refine ⟨_, _, rfl, rfl, by omega, by omega, by omega, ?_, ?_, by go_grown⟩ <;> first | exact three0 w' _ _ _ _ _ _ | exact three1 w' _ _ _ _ _ _ | exact three2 w' _ _ _ _ _ _
    case rest =>
      obtain ⟨b4, b5, rfl, rfl, hne, h4', h5', HK4, HK5, gx⟩ := hcut
      replace HK4 := Lib.hid HK4
      replace HK5 := Lib.hid HK5
      have h4 : w.heap.size + 2 ≤ b4 := by omega
      have h5 : w.heap.size + 2 ≤ b5 := by omega
      have gw := g3.trans gx
      have HBx := Lib.hid (HB2.out.gr gx)
      have HRx := Lib.hid (HR2.out.gr gx)
      clear h4' h5' gx g3 HB2 HR2
      obtain ⟨⟨b0, b1, b2, b3⟩, _, _⟩ := HBx.out.parts
      have HN := Lib.hid (show t.erase.isOf (ByteArray.mk #[58, 45]).toList 2 = t.erase.isOf sNeck 2 by rw [blNeck])
      cases hj : t.erase.isOf sNeck 2 with
      | false =>
        replace HN := Lib.hid (HN.out.trans hj)
        have Hpt : Hid (t.erase.parts = (t.erase, (atomTm ⟨#[116, 114, 117, 101]⟩).erase)) := by
          show _ = _
          rw [T.parts, hj, atomTm_erase, blTrue]
          rfl
        clear hj
        go_upto_region 6 with (first
          | (go_at_call 20; rewrite [← Hv.out]; refine (is_calls _ _ _ _).mono ?_; rintro e w3 ⟨rfl, hb⟩; rewrite [HN.out]; replace HK4 := Lib.hid (HK4.out.gr hb); replace HK5 := Lib.hid (HK5.out.gr hb); replace HRx := Lib.hid (HRx.out.gr hb); replace gw := gw.trans hb; clear hb b0 b1 b2 b3)
          | fail)
        have Him := Hin
        have Hib := Lib.hid (atomTm_in (s := ⟨#[116, 114, 117, 101]⟩) (by decide) w)
        replace HK5 : Hid (Blk4 w3 b5 (.int .i64 (atomTm ⟨#[116, 114, 117, 101]⟩).k) (.int .i64 (atomTm ⟨#[116, 114, 117, 101]⟩).n) (.string (atomTm ⟨#[116, 114, 117, 101]⟩).s) (.slice (atomTm ⟨#[116, 114, 117, 101]⟩).p (atomTm ⟨#[116, 114, 117, 101]⟩).l.length (atomTm ⟨#[116, 114, 117, 101]⟩).c)) := HK5
        obtain ⟨bm, hbm⟩ : ∃ bm : Tm, bm = atomTm ⟨#[116, 114, 117, 101]⟩ := ⟨_, rfl⟩
        rw [← hbm] at Hpt Hib HK5
        clear hbm
        have Hfp := Lib.hid (parts_formed Hf.out)
        rw [Hpt.out] at Hfp
        have Hbv := Lib.hid (show bm.val = .agg #[.int .i64 bm.k, .int .i64 bm.n, .string bm.s, .slice bm.p bm.l.length bm.c] from rfl)
        have Hhv := Lib.hid (show t.val = .agg #[.int .i64 t.k, .int .i64 t.n, .string t.s, .slice t.p t.l.length t.c] from rfl)
        obtain ⟨⟨q0, q1, q2, q3⟩, _, hlt5⟩ := HK5.out.parts
        have hlt4 := HK4.out.parts.2.2
        have hgs := gw.size
        go_upto_region 7 with (first
          | (go_at_call 21; rewrite [← Hbv.out]; refine (body_calls (t := bm) (S := (· < w.heap.size)) (Tm.In_below gw Hib.out) Hfp.out.2 Hib.out.on (fun b hb => Nat.lt_of_lt_of_le hb hgs)).mono ?_; rintro e w4 ⟨bm2, ok, rfl, hbi, hok, hbu, hbb, hbo⟩; have Hb2i := Lib.hid hbi; have Hok := Lib.hid hok; have Hb2u := Lib.hid hbu; have Hb2o := Lib.hid hbo; have HK44 := Lib.hid (HK4.out.gr hbb); have HK54 := Lib.hid (HK5.out.gr hbb); have HR4 := Lib.hid (HRx.out.gr hbb); have gw4 := gw.trans hbb; have hs4 := hbb.size; clear hbi hok hbu hbb hbo q0 q1 q2 q3; obtain ⟨kb, nb, sb, pb, cb, lb⟩ := bm2; rewrite [tm_val]; obtain ⟨⟨q0, q1, q2, q3⟩, ⟨f0, f1, f2, f3⟩, _⟩ := HK54.out.parts)
          | fail)
        have hK : Kp (fun b => b = b5) w4 ((((w4.setCell ⟨b5, 0, none⟩ (.int .i64 kb)).setCell ⟨b5, 1, none⟩ (.int .i64 nb)).setCell ⟨b5, 2, none⟩ (.string sb)).setCell ⟨b5, 3, none⟩ (.slice pb lb.length cb)) := Kp.set4 rfl
        have hB5 := HK54.out.set4 (.int .i64 kb) (.int .i64 nb) (.string sb) (.slice pb lb.length cb)
        generalize ((((w4.setCell ⟨b5, 0, none⟩ (.int .i64 kb)).setCell ⟨b5, 1, none⟩ (.int .i64 nb)).setCell ⟨b5, 2, none⟩ (.string sb)).setCell ⟨b5, 3, none⟩ (.slice pb lb.length cb)) = w6 at *
        have HK46 := Lib.hid (HK44.out.kp hK hne)
        have HK56 := Lib.hid hB5
        have HR6 := Lib.hid (HR4.out.kp hK (by omega))
        have hb2i : (Tm.mk kb nb sb pb cb lb).In w6 := in_after' Hb2i.out Hb2o.out fun b h1 h2 o => World.cell?_of_block (hK.block b h2 (by rcases h1 with h1 | h1 <;> omega))
        have Hb6 := Lib.hid hb2i
        have gw6 : Gr w w6 := Below.trans gw4 (hK.below (B := w.heap.size) (fun b hb => by omega) (by omega))
        clear hK hB5 hb2i q0 q1 q2 q3 f0 f1 f2 f3 HK4 HK5 HK44 HK54 HRx HR4
        obtain ⟨⟨p0, p1, p2, p3⟩, _, hlt46⟩ := HK46.out.parts
        obtain ⟨⟨q0, q1, q2, q3⟩, _, hlt56⟩ := HK56.out.parts
        cases hbd : T.body bm.erase with
        | none =>
          have hv := Lib.hid (hR0.out 7 (hA7.out Hf.out (by rw [T.make, Hpt.out]; simp only; rw [hbd])))
          obtain rfl : ok = false := by have := Hok.out; rw [hbd] at this; exact this
          clear hbd
          obtain ⟨y0, y1, y2, y3, y4, y5, y6, y7⟩ := (HR6.out).cells; obtain ⟨f0, f1, f2, f3, f4, f5, f6, f7⟩ := (HR6.out).open_
          go_wp2_with fail
          exact bodyPost_ret (by simp (maxDischargeDepth := 9) [results, Tryz.results6, go_sem, clVal, zeroTm, Tm.val, Tm.k, Tm.n, Tm.s, Tm.p, Tm.c, Tm.l, y0, y1, y2, y3, y4, y5, y6, y7]) rfl (hv.out _ (by go_grown))
        | some u =>
        obtain rfl : ok = true := by have := Hok.out; rw [hbd] at this; exact this
        have Hu : Hid ((Tm.mk kb nb sb pb cb lb).erase = u) := Hb2u.out u hbd
        have hmk : Hid (T.make reserved t.erase = if t.erase.callable && !reserved t.erase.s (t.erase.l.length : Int) then some (T.map (swapF 0 (T.varsL [t.erase, u] [])) t.erase, T.map (swapF 0 (T.varsL [t.erase, u] [])) u) else none) := by show _ = _; rw [T.make, Hpt.out]; simp only; rw [hbd]
        have Hbd := Lib.hid hbd
        have hes : Hid (t.erase.s = t.s.toList ∧ t.erase.l.length = t.l.length) := by obtain ⟨k, n, s, p, c, l⟩ := t; exact ⟨rfl, by rw [Tm.erase]; exact Tm.eraseL_length l⟩
        clear hbd
        cases hc : t.erase.callable with
        | false =>
          have hv := Lib.hid (hR0.out 7 (hA7.out Hf.out (by rw [hmk.out, hc]; rfl)))
          have Hc := Lib.hid hc
          clear hc
          go_wp2_with (first
            | (go_at_call 22; rewrite [← Hhv.out]; refine (callable_calls _ _).mono ?_; rw [Hc.out]; rintro e w7 ⟨rfl, hb⟩; obtain ⟨y0, y1, y2, y3, y4, y5, y6, y7⟩ := (HR6.out.gr hb).cells; obtain ⟨f0, f1, f2, f3, f4, f5, f6, f7⟩ := (HR6.out.gr hb).open_; have gw7 := gw6.trans hb; clear hb p0 p1 p2 p3 q0 q1 q2 q3)
            | fail)
          exact bodyPost_ret (by simp (maxDischargeDepth := 9) [results, Tryz.results6, go_sem, clVal, zeroTm, Tm.val, Tm.k, Tm.n, Tm.s, Tm.p, Tm.c, Tm.l, y0, y1, y2, y3, y4, y5, y6, y7]) rfl (hv.out _ (by go_grown))
        | true =>
        have Hc := Lib.hid hc
        clear hc
        cases hrs : reserved t.s.toList (t.l.length : Int) with
        | true =>
          have hv := Lib.hid (hR0.out 7 (hA7.out Hf.out (by rw [hmk.out, hes.out.1, hes.out.2, hrs, Hc.out]; rfl)))
          have Hrs := Lib.hid hrs
          clear hrs
          go_wp2_with (first
            | (go_at_call 22; rewrite [← Hhv.out]; refine (callable_calls _ _).mono ?_; rw [Hc.out]; rintro e w7 ⟨rfl, hb⟩; have HK47 := Lib.hid (HK46.out.gr hb); have HK57 := Lib.hid (HK56.out.gr hb); have HR7 := Lib.hid (HR6.out.gr hb); have gw7 := gw6.trans hb; have Hb7 := Lib.hid (Tm.In_below hb Hb6.out); clear hb p0 p1 p2 p3 q0 q1 q2 q3; obtain ⟨⟨p0, p1, p2, p3⟩, _, _⟩ := HK47.out.parts)
            | (go_at_call 23; refine (reserved_calls _ _ _).mono ?_; rw [Hrs.out]; rintro e w8 ⟨rfl, hb⟩; obtain ⟨y0, y1, y2, y3, y4, y5, y6, y7⟩ := (HR7.out.gr hb).cells; obtain ⟨f0, f1, f2, f3, f4, f5, f6, f7⟩ := (HR7.out.gr hb).open_; have gw8 := gw7.trans hb; clear hb p0 p1 p2 p3)
            | fail)
          exact bodyPost_ret (by simp (maxDischargeDepth := 9) [results, Tryz.results6, go_sem, clVal, zeroTm, Tm.val, Tm.k, Tm.n, Tm.s, Tm.p, Tm.c, Tm.l, y0, y1, y2, y3, y4, y5, y6, y7]) rfl (hv.out _ (by go_grown))
        | false =>
          have hv : Hid (T.make reserved t.erase = some (T.map (swapF 0 (T.varsL [t.erase, u] [])) t.erase, T.map (swapF 0 (T.varsL [t.erase, u] [])) u)) := by show _ = _; rw [hmk.out, hes.out.1, hes.out.2, hrs, Hc.out]; rfl
          have Hrs := Lib.hid hrs
          clear hrs
          have hall : Hid (∀ z ∈ ([t, .mk kb nb sb pb cb lb] : List Tm), z.erase.formed = true) := by
            intro z hz
            simp only [List.mem_cons, List.mem_nil_iff, or_false] at hz
            rcases hz with h | h
            · rw [h]; exact Hfp.out.1
            · rw [h, Hu.out]; exact body_formed _ _ _ (Nat.le_refl _) Hfp.out.2 Hbd.out
          go_upto_region 10 with (first
            | (go_at_call 22; rewrite [← Hhv.out]; refine (callable_calls _ _).mono ?_; rw [Hc.out]; rintro e w7 ⟨rfl, hb⟩; have HK47 := Lib.hid (HK46.out.gr hb); have HK57 := Lib.hid (HK56.out.gr hb); have HR7 := Lib.hid (HR6.out.gr hb); have gw7 := gw6.trans hb; have Hb7 := Lib.hid (Tm.In_below hb Hb6.out); clear hb p0 p1 p2 p3 q0 q1 q2 q3; obtain ⟨⟨p0, p1, p2, p3⟩, _, _⟩ := HK47.out.parts)
            | (go_at_call 23; refine (reserved_calls _ _ _).mono ?_; rw [Hrs.out]; rintro e w8 ⟨rfl, hb⟩; have HR8 := Lib.hid (HR7.out.gr hb); have gw8 := gw7.trans hb; have Hb8 := Lib.hid (Tm.In_below hb Hb7.out); have HK48 := Lib.hid (HK47.out.gr hb); have HK58 := Lib.hid (HK57.out.gr hb); clear hb p0 p1 p2 p3; obtain ⟨⟨p0, p1, p2, p3⟩, _, _⟩ := HK48.out.parts; obtain ⟨⟨q0, q1, q2, q3⟩, _, _⟩ := HK58.out.parts)
            | (go_at_call 24; refine (renamed_calls 0 _ 2 [t, .mk kb nb sb pb cb lb] _ (two_new (t := t) (u := .mk kb nb sb pb cb lb) (Tm.In_below gw8 Him.out) Hb8.out (Gr.rfl' _)) hall.out ⟨by omega, by omega⟩).mono ?_; rintro e w9 ⟨pr, cr, lm, rfl, hsl, hel, hg, hso⟩; have HR9 := Lib.hid (HR8.out.gr (below_step hg (by go_grown))); have gw9 : Gr w w9 := gw8.trans (below_step hg (by go_grown)); have Hsl := Lib.hid hsl; have Hel := Lib.hid hel; have Hso := Lib.hid hso; have hs9 := hg.size; clear hsl hel hg hso p0 p1 p2 p3 q0 q1 q2 q3)
            | fail)
          obtain ⟨h2, b2, rfl⟩ : ∃ h2 b2, lm = [h2, b2] := by
            have hl := congrArg List.length Hel.out
            rw [Tm.eraseL_length, T.mapL_length, Tm.eraseL_length] at hl
            match lm, hl with
            | [h2, b2], _ => exact ⟨h2, b2, rfl⟩
          obtain ⟨b10, o10, rfl⟩ := Hsl.out.ptr (by simp)
          obtain ⟨⟨x0, x1, x2, x3⟩, hx2, _⟩ := Hsl.out.elem 0 (by simp)
          obtain ⟨⟨z0, z1, z2, z3⟩, hz2, _⟩ := Hsl.out.elem 1 (by simp)
          simp only [List.getElem_cons_zero, List.getElem_cons_succ, Nat.zero_mul, Nat.add_zero, Nat.one_mul] at x0 x1 x2 x3 z0 z1 z2 z3 hx2 hz2
          have hel := Hel.out
          rw [Tm.eraseL, Tm.eraseL, Tm.eraseL, Tm.eraseL, Tm.eraseL, Tm.eraseL, T.mapL, T.mapL, T.mapL, Hu.out] at hel
          injection hel with he1 hel
          injection hel with he2 _
          have hv2 := Lib.hid (hA0.out _ Hf.out (hv.out.trans (by rw [← he1, ← he2])))
          have Hx2 := Lib.hid hx2
          have Hz2 := Lib.hid hz2
          obtain ⟨y0, y1, y2, y3, y4, y5, y6, y7⟩ := HR9.out.cells
          obtain ⟨f0, f1, f2, f3, f4, f5, f6, f7⟩ := HR9.out.open_
          have hltR := HR9.out.lt
          clear hx2 hz2 he1 he2 Hel
          have hson := Hso.out.2
          rw [Tm.OnL, Tm.OnL] at hson
          have Hxo2 := Lib.hid hson.1
          have Hzo2 := Lib.hid hson.2.1
          have hR8 := HR8.out.lt
          clear hson Hso
          have hfin : Hid (∀ W, Kp (fun b => b = w.heap.size + 1) w9 W → Q (.returned (.tuple #[clVal h2 b2, .int .i64 0])) W) := by
            intro W hK
            exact hR1.out h2 b2 hv2.out W (in_after' Hx2.out Hxo2.out fun b h1 hb o => World.cell?_of_block (hK.block b hb (by simp only [World.size_alloc] at h1; omega))) (in_after' Hz2.out Hzo2.out fun b h1 hb o => World.cell?_of_block (hK.block b hb (by simp only [World.size_alloc] at h1; omega))) (Below.trans gw9 (hK.below (B := w.heap.size) (fun b hb => by omega) (by omega))) (Hxo2.out.mono fun b hb => by simp only [World.size_alloc] at hb; omega) (Hzo2.out.mono fun b hb => by simp only [World.size_alloc] at hb; omega)
          go_region
          go_wp2_with fail
          refine bodyPost_ret (v := .tuple #[clVal h2 b2, .int .i64 0]) (by simp (maxDischargeDepth := 9) [results, Tryz.results6, go_sem, clVal, y0, y1, y2, y3, y4, y5, y6, y7]) rfl ?_
          exact hfin.out _ (kp_set8 rfl)
      | true =>
        obtain ⟨x, y, hl⟩ : ∃ x y, t.l = [x, y] := by
          obtain ⟨k, n, X, Y, he⟩ := isOf_two hj
          obtain ⟨k', n', s', p', c', l'⟩ := t
          rw [Tm.erase] at he
          injection he with _ _ _ he
          match l', he with
          | [x, y], _ => exact ⟨x, y, rfl⟩
          | [], he => rw [Tm.eraseL] at he; cases he
          | [_], he => rw [Tm.eraseL, Tm.eraseL] at he; cases he
          | _ :: _ :: _ :: _, he => rw [Tm.eraseL, Tm.eraseL, Tm.eraseL] at he; cases he
        replace HN := Lib.hid (HN.out.trans hj)
        have Hpt : Hid (t.erase.parts = (x.erase, y.erase)) := by
          show _ = _
          rw [T.parts, hj]
          obtain ⟨k', n', s', p', c', l'⟩ := t
          simp only [Tm.l] at hl
          subst hl
          rw [Tm.erase, Tm.eraseL, Tm.eraseL, Tm.eraseL]
          rfl
        have Hl := Lib.hid hl
        clear hj hl
        go_upto_region 5 with (first
          | (go_at_call 20; rewrite [← Hv.out]; refine (is_calls _ _ _ _).mono ?_; rintro e w2 ⟨rfl, hb⟩; rewrite [HN.out]; replace HK4 := Lib.hid (HK4.out.gr hb); replace HK5 := Lib.hid (HK5.out.gr hb); replace HRx := Lib.hid (HRx.out.gr hb); replace gw := gw.trans hb; replace HBx := Lib.hid (HBx.out.gr hb); clear hb b0 b1 b2 b3; obtain ⟨⟨b0, b1, b2, b3⟩, _, _⟩ := HBx.out.parts)
          | fail)
        have hl := Hl.out
        clear Hl
        obtain ⟨k, n, s, p, c, l⟩ := t
        simp only [Tm.l] at hl
        subst hl
        simp only [Tm.k, Tm.n, Tm.s, Tm.p, Tm.c, Tm.l] at b0 b1 b2 b3 HK4
        obtain ⟨bb, oo, rfl⟩ := Hin.out.sl.ptr (by simp)
        obtain ⟨⟨x0, x1, x2, x3⟩, _, _⟩ := (Hin.out.sl.mono gw).elem 0 (by simp)
        obtain ⟨⟨z0, z1, z2, z3⟩, _, _⟩ := (Hin.out.sl.mono gw).elem 1 (by simp)
        simp only [List.getElem_cons_zero, List.getElem_cons_succ, Nat.zero_mul, Nat.add_zero, Nat.one_mul] at x0 x1 x2 x3 z0 z1 z2 z3
        have Him : Hid (x.In w) := Tm.InL_mem Hin.out.sl.2.2.2 x (by simp)
        have Hib : Hid (y.In w) := Tm.InL_mem Hin.out.sl.2.2.2 y (by simp)
        obtain ⟨⟨p0, p1, p2, p3⟩, ⟨f0, f1, f2, f3⟩, _⟩ := HK4.out.parts
        obtain ⟨⟨q0, q1, q2, q3⟩, ⟨e0, e1, e2, e3⟩, _⟩ := HK5.out.parts
        go_region
        obtain ⟨hk4, hk5, hkk⟩ := set44 HK4.out HK5.out hne (.int .i64 x.k) (.int .i64 x.n) (.string x.s) (.slice x.p x.l.length x.c) (.int .i64 y.k) (.int .i64 y.n) (.string y.s) (.slice y.p y.l.length y.c)
        generalize ((((((((w2.setCell ⟨b4, 0, none⟩ (.int .i64 x.k)).setCell ⟨b4, 1, none⟩ (.int .i64 x.n)).setCell ⟨b4, 2, none⟩ (.string x.s)).setCell ⟨b4, 3, none⟩ (.slice x.p x.l.length x.c)).setCell ⟨b5, 0, none⟩ (.int .i64 y.k)).setCell ⟨b5, 1, none⟩ (.int .i64 y.n)).setCell ⟨b5, 2, none⟩ (.string y.s)).setCell ⟨b5, 3, none⟩ (.slice y.p y.l.length y.c)).drew = w3 at *
        replace HRx := Lib.hid (HRx.out.kp hkk (by omega))
        replace gw : Gr w w3 := Below.trans gw (hkk.below (B := w.heap.size) (fun b hb => by omega) (by have := gw.size; omega))
        clear HK4 HK5 hkk HBx b0 b1 b2 b3 x0 x1 x2 x3 z0 z1 z2 z3 p0 p1 p2 p3 q0 q1 q2 q3 f0 f1 f2 f3 e0 e1 e2 e3
        have HK4 := Lib.hid hk4
        have HK5 := Lib.hid hk5
        clear hk4 hk5
        have Hfp := Lib.hid (parts_formed Hf.out)
        rw [Hpt.out] at Hfp
        have Hbv := Lib.hid (show y.val = .agg #[.int .i64 y.k, .int .i64 y.n, .string y.s, .slice y.p y.l.length y.c] from rfl)
        have Hhv := Lib.hid (show x.val = .agg #[.int .i64 x.k, .int .i64 x.n, .string x.s, .slice x.p x.l.length x.c] from rfl)
        obtain ⟨⟨q0, q1, q2, q3⟩, _, hlt5⟩ := HK5.out.parts
        have hlt4 := HK4.out.parts.2.2
        have hgs := gw.size
        go_upto_region 7 with (first
          | (go_at_call 21; rewrite [← Hbv.out]; refine (body_calls (t := y) (S := (· < w.heap.size)) (Tm.In_below gw Hib.out) Hfp.out.2 Hib.out.on (fun b hb => Nat.lt_of_lt_of_le hb hgs)).mono ?_; rintro e w4 ⟨bm2, ok, rfl, hbi, hok, hbu, hbb, hbo⟩; have Hb2i := Lib.hid hbi; have Hok := Lib.hid hok; have Hb2u := Lib.hid hbu; have Hb2o := Lib.hid hbo; have HK44 := Lib.hid (HK4.out.gr hbb); have HK54 := Lib.hid (HK5.out.gr hbb); have HR4 := Lib.hid (HRx.out.gr hbb); have gw4 := gw.trans hbb; have hs4 := hbb.size; clear hbi hok hbu hbb hbo q0 q1 q2 q3; obtain ⟨kb, nb, sb, pb, cb, lb⟩ := bm2; rewrite [tm_val]; obtain ⟨⟨q0, q1, q2, q3⟩, ⟨f0, f1, f2, f3⟩, _⟩ := HK54.out.parts)
          | fail)
        have hK : Kp (fun b => b = b5) w4 ((((w4.setCell ⟨b5, 0, none⟩ (.int .i64 kb)).setCell ⟨b5, 1, none⟩ (.int .i64 nb)).setCell ⟨b5, 2, none⟩ (.string sb)).setCell ⟨b5, 3, none⟩ (.slice pb lb.length cb)) := Kp.set4 rfl
        have hB5 := HK54.out.set4 (.int .i64 kb) (.int .i64 nb) (.string sb) (.slice pb lb.length cb)
        generalize ((((w4.setCell ⟨b5, 0, none⟩ (.int .i64 kb)).setCell ⟨b5, 1, none⟩ (.int .i64 nb)).setCell ⟨b5, 2, none⟩ (.string sb)).setCell ⟨b5, 3, none⟩ (.slice pb lb.length cb)) = w6 at *
        have HK46 := Lib.hid (HK44.out.kp hK hne)
        have HK56 := Lib.hid hB5
        have HR6 := Lib.hid (HR4.out.kp hK (by omega))
        have hb2i : (Tm.mk kb nb sb pb cb lb).In w6 := in_after' Hb2i.out Hb2o.out fun b h1 h2 o => World.cell?_of_block (hK.block b h2 (by rcases h1 with h1 | h1 <;> omega))
        have Hb6 := Lib.hid hb2i
        have gw6 : Gr w w6 := Below.trans gw4 (hK.below (B := w.heap.size) (fun b hb => by omega) (by omega))
        clear hK hB5 hb2i q0 q1 q2 q3 f0 f1 f2 f3 HK4 HK5 HK44 HK54 HRx HR4
        obtain ⟨⟨p0, p1, p2, p3⟩, _, hlt46⟩ := HK46.out.parts
        obtain ⟨⟨q0, q1, q2, q3⟩, _, hlt56⟩ := HK56.out.parts
        cases hbd : T.body y.erase with
        | none =>
          have hv := Lib.hid (hR0.out 7 (hA7.out Hf.out (by rw [T.make, Hpt.out]; simp only; rw [hbd])))
          obtain rfl : ok = false := by have := Hok.out; rw [hbd] at this; exact this
          clear hbd
          obtain ⟨y0, y1, y2, y3, y4, y5, y6, y7⟩ := (HR6.out).cells; obtain ⟨f0, f1, f2, f3, f4, f5, f6, f7⟩ := (HR6.out).open_
          go_wp2_with fail
          exact bodyPost_ret (by simp (maxDischargeDepth := 9) [results, Tryz.results6, go_sem, clVal, zeroTm, Tm.val, Tm.k, Tm.n, Tm.s, Tm.p, Tm.c, Tm.l, y0, y1, y2, y3, y4, y5, y6, y7]) rfl (hv.out _ (by go_grown))
        | some u =>
        obtain rfl : ok = true := by have := Hok.out; rw [hbd] at this; exact this
        have Hu : Hid ((Tm.mk kb nb sb pb cb lb).erase = u) := Hb2u.out u hbd
        have hmk : Hid (T.make reserved (Tm.mk k n s (some ⟨bb, oo, none⟩) c [x, y]).erase = if x.erase.callable && !reserved x.erase.s (x.erase.l.length : Int) then some (T.map (swapF 0 (T.varsL [x.erase, u] [])) x.erase, T.map (swapF 0 (T.varsL [x.erase, u] [])) u) else none) := by show _ = _; rw [T.make, Hpt.out]; simp only; rw [hbd]
        have Hbd := Lib.hid hbd
        have hes : Hid (x.erase.s = x.s.toList ∧ x.erase.l.length = x.l.length) := by obtain ⟨k, n, s, p, c, l⟩ := x; exact ⟨rfl, by rw [Tm.erase]; exact Tm.eraseL_length l⟩
        clear hbd
        cases hc : x.erase.callable with
        | false =>
          have hv := Lib.hid (hR0.out 7 (hA7.out Hf.out (by rw [hmk.out, hc]; rfl)))
          have Hc := Lib.hid hc
          clear hc
          go_wp2_with (first
            | (go_at_call 22; rewrite [← Hhv.out]; refine (callable_calls _ _).mono ?_; rw [Hc.out]; rintro e w7 ⟨rfl, hb⟩; obtain ⟨y0, y1, y2, y3, y4, y5, y6, y7⟩ := (HR6.out.gr hb).cells; obtain ⟨f0, f1, f2, f3, f4, f5, f6, f7⟩ := (HR6.out.gr hb).open_; have gw7 := gw6.trans hb; clear hb p0 p1 p2 p3 q0 q1 q2 q3)
            | fail)
          exact bodyPost_ret (by simp (maxDischargeDepth := 9) [results, Tryz.results6, go_sem, clVal, zeroTm, Tm.val, Tm.k, Tm.n, Tm.s, Tm.p, Tm.c, Tm.l, y0, y1, y2, y3, y4, y5, y6, y7]) rfl (hv.out _ (by go_grown))
        | true =>
        have Hc := Lib.hid hc
        clear hc
        cases hrs : reserved x.s.toList (x.l.length : Int) with
        | true =>
          have hv := Lib.hid (hR0.out 7 (hA7.out Hf.out (by rw [hmk.out, hes.out.1, hes.out.2, hrs, Hc.out]; rfl)))
          have Hrs := Lib.hid hrs
          clear hrs
          go_wp2_with (first
            | (go_at_call 22; rewrite [← Hhv.out]; refine (callable_calls _ _).mono ?_; rw [Hc.out]; rintro e w7 ⟨rfl, hb⟩; have HK47 := Lib.hid (HK46.out.gr hb); have HK57 := Lib.hid (HK56.out.gr hb); have HR7 := Lib.hid (HR6.out.gr hb); have gw7 := gw6.trans hb; have Hb7 := Lib.hid (Tm.In_below hb Hb6.out); clear hb p0 p1 p2 p3 q0 q1 q2 q3; obtain ⟨⟨p0, p1, p2, p3⟩, _, _⟩ := HK47.out.parts)
            | (go_at_call 23; refine (reserved_calls _ _ _).mono ?_; rw [Hrs.out]; rintro e w8 ⟨rfl, hb⟩; obtain ⟨y0, y1, y2, y3, y4, y5, y6, y7⟩ := (HR7.out.gr hb).cells; obtain ⟨f0, f1, f2, f3, f4, f5, f6, f7⟩ := (HR7.out.gr hb).open_; have gw8 := gw7.trans hb; clear hb p0 p1 p2 p3)
            | fail)
          exact bodyPost_ret (by simp (maxDischargeDepth := 9) [results, Tryz.results6, go_sem, clVal, zeroTm, Tm.val, Tm.k, Tm.n, Tm.s, Tm.p, Tm.c, Tm.l, y0, y1, y2, y3, y4, y5, y6, y7]) rfl (hv.out _ (by go_grown))
        | false =>
          have hv : Hid (T.make reserved (Tm.mk k n s (some ⟨bb, oo, none⟩) c [x, y]).erase = some (T.map (swapF 0 (T.varsL [x.erase, u] [])) x.erase, T.map (swapF 0 (T.varsL [x.erase, u] [])) u)) := by show _ = _; rw [hmk.out, hes.out.1, hes.out.2, hrs, Hc.out]; rfl
          have Hrs := Lib.hid hrs
          clear hrs
          have hall : Hid (∀ z ∈ ([x, .mk kb nb sb pb cb lb] : List Tm), z.erase.formed = true) := by
            intro z hz
            simp only [List.mem_cons, List.mem_nil_iff, or_false] at hz
            rcases hz with h | h
            · rw [h]; exact Hfp.out.1
            · rw [h, Hu.out]; exact body_formed _ _ _ (Nat.le_refl _) Hfp.out.2 Hbd.out
          go_upto_region 10 with (first
            | (go_at_call 22; rewrite [← Hhv.out]; refine (callable_calls _ _).mono ?_; rw [Hc.out]; rintro e w7 ⟨rfl, hb⟩; have HK47 := Lib.hid (HK46.out.gr hb); have HK57 := Lib.hid (HK56.out.gr hb); have HR7 := Lib.hid (HR6.out.gr hb); have gw7 := gw6.trans hb; have Hb7 := Lib.hid (Tm.In_below hb Hb6.out); clear hb p0 p1 p2 p3 q0 q1 q2 q3; obtain ⟨⟨p0, p1, p2, p3⟩, _, _⟩ := HK47.out.parts)
            | (go_at_call 23; refine (reserved_calls _ _ _).mono ?_; rw [Hrs.out]; rintro e w8 ⟨rfl, hb⟩; have HR8 := Lib.hid (HR7.out.gr hb); have gw8 := gw7.trans hb; have Hb8 := Lib.hid (Tm.In_below hb Hb7.out); have HK48 := Lib.hid (HK47.out.gr hb); have HK58 := Lib.hid (HK57.out.gr hb); clear hb p0 p1 p2 p3; obtain ⟨⟨p0, p1, p2, p3⟩, _, _⟩ := HK48.out.parts; obtain ⟨⟨q0, q1, q2, q3⟩, _, _⟩ := HK58.out.parts)
            | (go_at_call 24; refine (renamed_calls 0 _ 2 [x, .mk kb nb sb pb cb lb] _ (two_new (t := x) (u := .mk kb nb sb pb cb lb) (Tm.In_below gw8 Him.out) Hb8.out (Gr.rfl' _)) hall.out ⟨by omega, by omega⟩).mono ?_; rintro e w9 ⟨pr, cr, lm, rfl, hsl, hel, hg, hso⟩; have HR9 := Lib.hid (HR8.out.gr (below_step hg (by go_grown))); have gw9 : Gr w w9 := gw8.trans (below_step hg (by go_grown)); have Hsl := Lib.hid hsl; have Hel := Lib.hid hel; have Hso := Lib.hid hso; have hs9 := hg.size; clear hsl hel hg hso p0 p1 p2 p3 q0 q1 q2 q3)
            | fail)
          obtain ⟨h2, b2, rfl⟩ : ∃ h2 b2, lm = [h2, b2] := by
            have hl := congrArg List.length Hel.out
            rw [Tm.eraseL_length, T.mapL_length, Tm.eraseL_length] at hl
            match lm, hl with
            | [h2, b2], _ => exact ⟨h2, b2, rfl⟩
          obtain ⟨b10, o10, rfl⟩ := Hsl.out.ptr (by simp)
          obtain ⟨⟨x0, x1, x2, x3⟩, hx2, _⟩ := Hsl.out.elem 0 (by simp)
          obtain ⟨⟨z0, z1, z2, z3⟩, hz2, _⟩ := Hsl.out.elem 1 (by simp)
          simp only [List.getElem_cons_zero, List.getElem_cons_succ, Nat.zero_mul, Nat.add_zero, Nat.one_mul] at x0 x1 x2 x3 z0 z1 z2 z3 hx2 hz2
          have hel := Hel.out
          rw [Tm.eraseL, Tm.eraseL, Tm.eraseL, Tm.eraseL, Tm.eraseL, Tm.eraseL, T.mapL, T.mapL, T.mapL, Hu.out] at hel
          injection hel with he1 hel
          injection hel with he2 _
          have hv2 := Lib.hid (hA0.out _ Hf.out (hv.out.trans (by rw [← he1, ← he2])))
          have Hx2 := Lib.hid hx2
          have Hz2 := Lib.hid hz2
          obtain ⟨y0, y1, y2, y3, y4, y5, y6, y7⟩ := HR9.out.cells
          obtain ⟨f0, f1, f2, f3, f4, f5, f6, f7⟩ := HR9.out.open_
          have hltR := HR9.out.lt
          clear hx2 hz2 he1 he2 Hel
          have hson := Hso.out.2
          rw [Tm.OnL, Tm.OnL] at hson
          have Hxo2 := Lib.hid hson.1
          have Hzo2 := Lib.hid hson.2.1
          have hR8 := HR8.out.lt
          clear hson Hso
          have hfin : Hid (∀ W, Kp (fun b => b = w.heap.size + 1) w9 W → Q (.returned (.tuple #[clVal h2 b2, .int .i64 0])) W) := by
            intro W hK
            exact hR1.out h2 b2 hv2.out W (in_after' Hx2.out Hxo2.out fun b h1 hb o => World.cell?_of_block (hK.block b hb (by simp only [World.size_alloc] at h1; omega))) (in_after' Hz2.out Hzo2.out fun b h1 hb o => World.cell?_of_block (hK.block b hb (by simp only [World.size_alloc] at h1; omega))) (Below.trans gw9 (hK.below (B := w.heap.size) (fun b hb => by omega) (by omega))) (Hxo2.out.mono fun b hb => by simp only [World.size_alloc] at hb; omega) (Hzo2.out.mono fun b hb => by simp only [World.size_alloc] at hb; omega)
          go_region
          go_wp2_with fail
          refine bodyPost_ret (v := .tuple #[clVal h2 b2, .int .i64 0]) (by simp (maxDischargeDepth := 9) [results, Tryz.results6, go_sem, clVal, y0, y1, y2, y3, y4, y5, y6, y7]) rfl ?_
          exact hfin.out _ (kp_set8 rfl)
/-- base.Make. -/
theorem Make_calls (t : Tm) (w : World) (hin : t.In w) : Calls Tryz.prog 6 #[t.val] w (RetCE (makeAns t.erase) w) :=
  (Make_callsO t w hin).mono fun _ _ ⟨hm, bm, h1, h2, h3, h4, h5, _⟩ => ⟨hm, bm, h1, h2, h3, h4, h5⟩
end Go.Proofs.YtjdoflfdlhpbmaaGreat
