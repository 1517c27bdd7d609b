/-
  The order of terms: a total one (plain).
  base.Plain
  slices.Insert and (*base.Base).Add where the base is new.
-/
import Derived.Test.YtjdoflfdlhpbmaaGreatBF05
import Derived.Test.YtjdoflfdlhpbmaaGreatBF04
import Derived.Test.YtjdoflfdlhpbmaaGreatBF08
import Derived.Test.YtjdoflfdlhpbmaaGreatBF09
import Derived.Deep.QuietTactic
import Derived.BigRegion
namespace Go.Proofs.YtjdoflfdlhpbmaaGreat

def lex (x y : Int) : Int := if x = 0 then y else x

/-- Three comparisons that fit. -/
structure Tri (x y z : Int) : Prop where
  le : x ≤ 0 → y ≤ 0 → z ≤ 0 ∧ (z = 0 → x = 0 ∧ y = 0)
  l : x = 0 → z = y
  r : y = 0 → z = x

theorem Tri.lex {x y z x' y' z' : Int} (h : Tri x y z) (h' : x = 0 → y = 0 → Tri x' y' z') : Tri (lex x x') (lex y y') (lex z z') := by
  unfold Go.Proofs.YtjdoflfdlhpbmaaGreat.lex
  by_cases hx : x = 0
  · have hz := h.l hx
    by_cases hy : y = 0
    · have hz0 : z = 0 := by omega
      rw [if_pos hx, if_pos hy, if_pos hz0]
      exact h' hx hy
    · rw [if_pos hx, if_neg hy, if_neg (by omega), hz]
      exact ⟨fun _ h2 => ⟨h2, fun h3 => absurd h3 hy⟩, fun _ => rfl, fun h2 => absurd h2 hy⟩
  · by_cases hy : y = 0
    · have hz := h.r hy
      rw [if_neg hx, if_pos hy, if_neg (by omega), hz]
      exact ⟨fun h1 _ => ⟨h1, fun h3 => absurd h3 hx⟩, fun h1 => absurd h1 hx, fun _ => rfl⟩
    · rw [if_neg hx, if_neg hy]
      refine ⟨fun h1 h2 => ?_, fun h1 => absurd h1 hx, fun h2 => absurd h2 hy⟩
      obtain ⟨h3, h4⟩ := h.le h1 h2
      have hz : z ≠ 0 := fun e => hx (h4 e).1
      rw [if_neg hz]
      exact ⟨h3, fun e => absurd e hz⟩

theorem cmpI_zero {a b : Int} : cmpI a b = 0 ↔ a = b := by
  unfold cmpI
  constructor
  · intro h; split at h <;> (try split at h) <;> omega
  · rintro rfl; simp

def cb1 (a b : UInt8) : Int := if a < b then -1 else if b < a then 1 else 0
theorem cb1_eq (a b : UInt8) : cb1 a b = cmpI a.toNat b.toNat := by
  unfold cb1 cmpI
  simp only [UInt8.lt_iff_toNat_lt]
  split <;> split <;> (try split) <;> (try split) <;> omega

theorem cb_cons (a b : UInt8) (x y : List UInt8) : Lib.compareBytes (a :: x) (b :: y) = lex (cb1 a b) (Lib.compareBytes x y) := by
  rw [Lib.compareBytes, lex, cb1]
  split
  · rfl
  · split <;> rfl

theorem lex_zero {x y : Int} : lex x y = 0 ↔ x = 0 ∧ y = 0 := by
  unfold lex
  split <;> constructor <;> omega

theorem cb_zero : ∀ a b : List UInt8, Lib.compareBytes a b = 0 ↔ a = b
  | [], [] => by simp [Lib.compareBytes]
  | [], _ :: _ => by simp [Lib.compareBytes]
  | _ :: _, [] => by simp [Lib.compareBytes]
  | a :: x, b :: y => by
    rw [cb_cons, lex_zero, cb1_eq, cmpI_zero, cb_zero x y, List.cons.injEq]
    constructor
    · rintro ⟨h1, h2⟩; exact ⟨by rw [← UInt8.toNat_inj]; omega, h2⟩
    · rintro ⟨h1, h2⟩; exact ⟨by rw [h1], h2⟩

theorem order_eq (k n : Int) (s : List UInt8) (l : List T) (k' n' : Int) (s' : List UInt8) (l' : List T) :
    T.order (.mk k n s l) (.mk k' n' s' l') = lex (cmpI k k') (if k = 3 then Lib.compareBytes s s' else if k = 4 then lex (lex (cmpI l.length l'.length) (Lib.compareBytes s s')) (T.orderL l l') else cmpI n n') := by
  rw [T.order]
  unfold lex
  by_cases h : k = k'
  · rw [if_pos h, if_pos (cmpI_zero.2 h)]
  · rw [if_neg h, if_neg (fun e => h (cmpI_zero.1 e))]




mutual
theorem same_iff : ∀ a b : T, T.same a b = true ↔ a = b
  | .mk k n s l, .mk k' n' s' l' => by
    rw [T.same]
    simp only [Bool.and_eq_true, decide_eq_true_eq, T.mk.injEq]
    constructor
    · rintro ⟨⟨⟨⟨h1, h2⟩, h3⟩, h4⟩, h5⟩; exact ⟨h1, h2, h3, (sameL_iff l l' h4).1 h5⟩
    · rintro ⟨h1, h2, h3, h4⟩; exact ⟨⟨⟨⟨h1, h2⟩, h3⟩, by rw [h4]⟩, (sameL_iff l l' (by rw [h4])).2 h4⟩
theorem sameL_iff : ∀ a b : List T, a.length = b.length → (T.sameL a b = true ↔ a = b)
  | [], [], _ => by simp [T.sameL]
  | [], _ :: _, h => by simp at h
  | _ :: _, [], h => by simp at h
  | a :: x, b :: y, h => by
    rw [T.sameL, Bool.and_eq_true, same_iff a b, sameL_iff x y (by simpa using h), List.cons.injEq]
end

mutual
theorem order_zero : ∀ a b : T, a.formed = true → b.formed = true → (T.order a b = 0 ↔ a = b)
  | .mk k n s l, .mk k' n' s' l', ha, hb => by
    rw [order_eq, lex_zero, cmpI_zero, T.mk.injEq]
    by_cases hk : k = k'
    · subst hk
      rw [T.formed] at ha hb
      by_cases h1 : k = 1
      · subst h1
        simp at ha hb
        simp [cmpI_zero, ha, hb]
      by_cases h2 : k = 2
      · subst h2
        simp at ha hb
        simp [cmpI_zero, ha, hb]
      by_cases h3 : k = 3
      · subst h3
        simp at ha hb
        simp [cb_zero, ha, hb]
      by_cases h4 : k = 4
      · subst h4
        simp at ha hb
        simp only [show ¬ (4 : Int) = 3 by decide, if_false, if_true, lex_zero, cmpI_zero, cb_zero, true_and]
        constructor
        · rintro ⟨⟨e1, e2⟩, e3⟩
          exact ⟨by rw [ha.1.1.1.1, hb.1.1.1.1], e2, (orderL_zero l l' ha.2 hb.2).1 e3⟩
        · rintro ⟨e1, e2, e3⟩
          exact ⟨⟨by rw [e3], e2⟩, (orderL_zero l l' ha.2 hb.2).2 e3⟩
      · simp [h1, h2, h3, h4] at ha
    · constructor
      · rintro ⟨e, _⟩; exact absurd e hk
      · rintro ⟨e, _⟩; exact absurd e hk
theorem orderL_zero : ∀ a b : List T, T.formedL a = true → T.formedL b = true → (T.orderL a b = 0 ↔ a = b)
  | [], [], _, _ => by simp [T.orderL]
  | [], _ :: _, _, _ => by simp [T.orderL]
  | _ :: _, [], _, _ => by simp [T.orderL]
  | a :: x, b :: y, ha, hb => by
    rw [T.formedL, Bool.and_eq_true] at ha hb
    have h1 := order_zero a b ha.1 hb.1
    have h2 := orderL_zero x y ha.2 hb.2
    have h : T.orderL (a :: x) (b :: y) = lex (T.order a b) (T.orderL x y) := by simp only [T.orderL]; rfl
    rw [h, lex_zero, h1, h2, List.cons.injEq]
end
end Go.Proofs.YtjdoflfdlhpbmaaGreat

namespace Go.Proofs.YtjdoflfdlhpbmaaGreat
open Go.RowKit

def plainAns (h b : T) : T × Int := (if plainErr reserved h b = 0 then clauseT h b else zeroT, plainErr reserved h b)
theorem plainAns_bad {h b : T} {E : Int} (hE : plainErr reserved h b = E) (h0 : E ≠ 0) : plainAns h b = (zeroT, E) := by rw [plainAns, hE, if_neg h0]
theorem plainAns_ok {h b : T} (hE : plainErr reserved h b = 0) : plainAns h b = (clauseT h b, 0) := by rw [plainAns, hE, if_pos rfl]

set_option maxHeartbeats 8000000 in
set_option maxRecDepth 100000 in
theorem Plain_calls (h b : Tm) (w : World) (hh : h.In w) (hb : b.In w) : Calls Tryz.prog 25 #[clVal h b] w (RetTE (plainAns h.erase b.erase) w) := by
  have Hh := Lib.hid hh
  have Hb := Lib.hid hb
  have hR0 : Hid (∀ E : Int, plainErr reserved h.erase b.erase = E → E ≠ 0 → ∀ w', Gr w w' → RetTE (plainAns h.erase b.erase) w (.returned (.tuple #[zeroTm.val, .int .i64 E])) w') := fun E hE h0 w' hg => by rw [plainAns_bad hE h0]; exact ⟨zeroTm, rfl, zeroTm_in _, zeroTm_erase, hg⟩
  have hR1 : Hid (plainErr reserved h.erase b.erase = 0 → ∀ (bm : Tm), bm.erase = clauseT h.erase b.erase → ∀ w', bm.In w' → Gr w w' → RetTE (plainAns h.erase b.erase) w (.returned (.tuple #[bm.val, .int .i64 0])) w') := fun hE bm he w' hi hg => by rw [plainAns_ok hE]; exact ⟨bm, rfl, hi, he, hg⟩
  have hPE := Lib.hid (show plainErr reserved h.erase b.erase = if h.erase.formed && b.erase.formed then (match T.make reserved (clauseT h.erase b.erase) with
    | none => 7
    | some (h', b') => if T.same h' h.erase && T.same b' b.erase then 0 else 7) else 2 from rfl)
  generalize hQ : RetTE (plainAns h.erase b.erase) w = Q at *
  clear hQ hh hb
  generalize plainErr reserved h.erase b.erase = E at *
  have hfl : Hid (T.formedL (Tm.eraseL [h, b]) = (h.erase.formed && b.erase.formed)) := by show _ = _; rw [Tm.eraseL, Tm.eraseL, Tm.eraseL, T.formedL, T.formedL, T.formedL, Bool.and_true]
  have Hcv := Lib.hid (clVal_eq h b)
  have Hhv := Lib.hid (show h.val = .agg #[.int .i64 h.k, .int .i64 h.n, .string h.s, .slice h.p h.l.length h.c] from rfl)
  have Hbv := Lib.hid (show b.val = .agg #[.int .i64 b.k, .int .i64 b.n, .string b.s, .slice b.p b.l.length b.c] from rfl)
  rw [clVal_eq]
  go_enter Tryz.func25, Tryz.ntmps25
  try simp only [List.append_eq, List.cons_append, List.nil_append]
  go_upto_region 1 with fail
  obtain ⟨HB, HR, gA⟩ := blocks84 w (.int .i64 h.k) (.int .i64 h.n) (.string h.s) (.slice h.p h.l.length h.c) (.int .i64 b.k) (.int .i64 b.n) (.string b.s) (.slice b.p b.l.length b.c) (.int .i64 0) (.int .i64 0) (.string ⟨#[]⟩) (.slice none 0 0)
  generalize (w.alloc (.cells #[.int .i64 h.k, .int .i64 h.n, .string h.s, .slice h.p h.l.length h.c, .int .i64 b.k, .int .i64 b.n, .string b.s, .slice b.p b.l.length b.c] 29)).alloc (.cells #[.int .i64 0, .int .i64 0, .string ⟨#[]⟩, .slice none 0 0] 24) = wA at *
  have hszA : w.heap.size + 1 < wA.heap.size := HR.out.parts.2.2
  obtain ⟨c0, c1, c2, c3, c4, c5, c6, c7⟩ := HB.out.cells
  cases hf : (h.erase.formed && b.erase.formed) with
  | false =>
    have hv := Lib.hid (hR0.out 2 (by rw [hPE.out, hf]; rfl) (by decide))
    have hff := Lib.hid (hfl.out.trans hf)
    clear hf
    go_wp2_with (first
      | (go_at_call 18; refine (all_calls (two_new (t := h) (u := b) (Tm.In_below gA Hh.out) (Tm.In_below gA Hb.out) (Gr.rfl' _))).mono ?_; rintro e w' ⟨rfl, hb⟩; rewrite [hff.out]; have g2 : Gr wA w' := below_step hb (by go_grown); obtain ⟨⟨y0, y1, y2, y3⟩, ⟨f0, f1, f2, f3⟩, hlt⟩ := (HR.out.gr g2).parts; clear hb c0 c1 c2 c3 c4 c5 c6 c7)
      | fail)
    exact bodyPost_ret (by simp (maxDischargeDepth := 9) [results, Tryz.results25, go_sem, zeroTm, Tm.val, Tm.k, Tm.n, Tm.s, Tm.p, Tm.c, Tm.l, y0, y1, y2, y3]) rfl (hv.out _ (by have := gA.trans g2; go_grown))
  | true =>
    have hff := Lib.hid (hfl.out.trans hf)
    have Hf := Lib.hid (Bool.and_eq_true_iff.1 hf)
    have Hcf := Lib.hid (clause_formed Hf.out.1 Hf.out.2)
    have hPE2 : Hid (E = match T.make reserved (clauseT h.erase b.erase) with
      | none => 7
      | some (h', b') => if T.same h' h.erase && T.same b' b.erase then 0 else 7) := by show _ = _; rw [hPE.out, hf]; rfl
    clear hf
    go_upto_region 4 with (first
      | (go_at_call 18; refine (all_calls (two_new (t := h) (u := b) (Tm.In_below gA Hh.out) (Tm.In_below gA Hb.out) (Gr.rfl' _))).mono ?_; rintro e w' ⟨rfl, hb⟩; rewrite [hff.out]; have g2 : Gr wA w' := below_step hb (by go_grown); have HB2 := Lib.hid (HB.out.gr g2); have HR2 := Lib.hid (HR.out.gr g2); clear hb c0 c1 c2 c3 c4 c5 c6 c7; obtain ⟨c0, c1, c2, c3, c4, c5, c6, c7⟩ := HB2.out.cells)
      | (go_at_call 51; rewrite [← Hcv.out]; refine (plain_calls h b _ (Tm.In_below (gA.trans g2) Hh.out) (Tm.In_below (gA.trans g2) Hb.out)).mono ?_; rintro e w3 ⟨pm, hpi, hpe, rfl, hg⟩; have Hpi := Lib.hid hpi; have Hpe := Lib.hid hpe; have g3 := g2.trans hg; have HB3 := Lib.hid (HB2.out.gr hg); have HR3 := Lib.hid (HR2.out.gr hg); have Hpv := Lib.hid (show pm.val = .agg #[.int .i64 pm.k, .int .i64 pm.n, .string pm.s, .slice pm.p pm.l.length pm.c] from rfl); rewrite [Hpv.out]; clear hpi hpe hg c0 c1 c2 c3 c4 c5 c6 c7)
      | fail)
    have hK := Blk4.new w3 (.int .i64 pm.k) (.int .i64 pm.n) (.string pm.s) (.slice pm.p pm.l.length pm.c)
    have g4' : Gr w3 (w3.alloc (.cells #[.int .i64 pm.k, .int .i64 pm.n, .string pm.s, .slice pm.p pm.l.length pm.c] 24)) := by go_grown
    generalize w3.alloc (.cells #[.int .i64 pm.k, .int .i64 pm.n, .string pm.s, .slice pm.p pm.l.length pm.c] 24) = w4 at *
    have g4 := g3.trans g4'
    have HB4 := Lib.hid (HB3.out.gr g4')
    have HR4 := Lib.hid (HR3.out.gr g4')
    have HK4 := Lib.hid hK
    have Hp4 := Lib.hid (Tm.In_below g4' Hpi.out)
    clear hK g4'
    obtain ⟨⟨p0, p1, p2, p3⟩, _, _⟩ := HK4.out.parts
    go_upto_region 5 with (first
      | (go_at_call 6; rewrite [← Hpv.out]; refine (Make_calls pm w4 Hp4.out).mono ?_; rintro e w5 ⟨hm, bm, rfl, hmi, hbi, hme, hg⟩; rw [Hpe.out] at hme ⊢; have Hmi := Lib.hid hmi; have Hbi := Lib.hid hbi; have Hme := Lib.hid hme; have g5 := g4.trans hg; have HB5 := Lib.hid (HB4.out.gr hg); have HR5 := Lib.hid (HR4.out.gr hg); have HK5 := Lib.hid (HK4.out.gr hg); have Hp5 := Lib.hid (Tm.In_below hg Hp4.out); rewrite [clVal_eq]; clear hmi hbi hme hg p0 p1 p2 p3)
      | fail)
    have hD : Blk8 (w5.alloc (.cells #[.int .i64 hm.k, .int .i64 hm.n, .string hm.s, .slice hm.p hm.l.length hm.c, .int .i64 bm.k, .int .i64 bm.n, .string bm.s, .slice bm.p bm.l.length bm.c] 29)) w5.heap.size (.int .i64 hm.k) (.int .i64 hm.n) (.string hm.s) (.slice hm.p hm.l.length hm.c) (.int .i64 bm.k) (.int .i64 bm.n) (.string bm.s) (.slice bm.p bm.l.length bm.c) := heap_alloc_new _ _
    have g6' : Gr w5 (w5.alloc (.cells #[.int .i64 hm.k, .int .i64 hm.n, .string hm.s, .slice hm.p hm.l.length hm.c, .int .i64 bm.k, .int .i64 bm.n, .string bm.s, .slice bm.p bm.l.length bm.c] 29)) := by go_grown
    generalize w5.alloc (.cells #[.int .i64 hm.k, .int .i64 hm.n, .string hm.s, .slice hm.p hm.l.length hm.c, .int .i64 bm.k, .int .i64 bm.n, .string bm.s, .slice bm.p bm.l.length bm.c] 29) = w6 at *
    have g6 : Gr w w6 := (gA.trans g5).trans g6'
    have HB6 := Lib.hid (HB5.out.gr g6')
    have HR6 := Lib.hid (HR5.out.gr g6')
    have HK6 := Lib.hid (HK5.out.gr g6')
    have HD6 := Lib.hid hD
    have Hmi6 := Lib.hid (Tm.In_below g6' Hmi.out)
    have Hbi6 := Lib.hid (Tm.In_below g6' Hbi.out)
    have Hp6 := Lib.hid (Tm.In_below g6' Hp5.out)
    have Hmv := Lib.hid (show hm.val = .agg #[.int .i64 hm.k, .int .i64 hm.n, .string hm.s, .slice hm.p hm.l.length hm.c] from rfl)
    have Hbmv := Lib.hid (show bm.val = .agg #[.int .i64 bm.k, .int .i64 bm.n, .string bm.s, .slice bm.p bm.l.length bm.c] from rfl)
    clear hD g6'
    obtain ⟨c0, c1, c2, c3, c4, c5, c6, c7⟩ := HB6.out.cells
    obtain ⟨d0, d1, d2, d3, d4, d5, d6, d7⟩ := HD6.out.cells
    cases hmk : T.make reserved (clauseT h.erase b.erase) with
    | none =>
      have hv := Lib.hid (hR0.out 7 (by rw [hPE2.out, hmk]) (by decide))
      rewrite [makeAns_none Hcf.out hmk]
      clear hmk
      obtain ⟨⟨y0, y1, y2, y3⟩, ⟨f0, f1, f2, f3⟩, hlt⟩ := HR6.out.parts
      go_wp2_with fail
      exact bodyPost_ret (by simp (maxDischargeDepth := 9) [results, Tryz.results25, go_sem, zeroTm, Tm.val, Tm.k, Tm.n, Tm.s, Tm.p, Tm.c, Tm.l, y0, y1, y2, y3]) rfl (hv.out _ (by go_grown))
    | some hb' =>
      obtain ⟨h', b'⟩ := hb'
      have hme := Hme.out
      rw [makeAns_some Hcf.out hmk] at hme
      simp only [Prod.mk.injEq] at hme
      have hff2 := make_formed Hcf.out hmk
      have hE : Hid (E = if T.same h' h.erase && T.same b' b.erase then 0 else 7) := by show _ = _; rw [hPE2.out, hmk]
      rewrite [makeAns_some Hcf.out hmk]
      have Hq := Lib.hid hme
      have hz1 : Hid (T.order h.erase hm.erase = 0 ↔ h.erase = h') := by show _ ↔ _; rw [hme.1]; exact order_zero _ _ Hf.out.1 hff2.1
      have hz2 : Hid (T.order b.erase bm.erase = 0 ↔ b.erase = b') := by show _ ↔ _; rw [hme.2]; exact order_zero _ _ Hf.out.2 hff2.2
      generalize ho1 : T.order h.erase hm.erase = o1 at hz1
      generalize ho2 : T.order b.erase bm.erase = o2 at hz2
      have Ho1 := Lib.hid ho1
      have Ho2 := Lib.hid ho2
      clear hmk hme hff2 ho1 ho2
      by_cases e1 : o1 = 0
      · subst e1
        have h1 := hz1.out.1 rfl
        by_cases e2 : o2 = 0
        · subst e2
          have h2 := hz2.out.1 rfl
          have hv := Lib.hid (hR1.out (by rw [hE.out, ← h1, ← h2, (same_iff _ _).2 rfl, (same_iff _ _).2 rfl]; rfl))
          clear h1 h2
          go_wp2_with (first
            | (go_at_call 52; rewrite [← Hhv.out, ← Hmv.out]; refine (order_calls (t := h) (u := hm) (Tm.In_below g6 Hh.out) Hmi6.out).mono ?_; rw [Ho1.out]; rintro e w7 ⟨rfl, hb⟩; have HB7 := Lib.hid (HB6.out.gr hb); have HR7 := Lib.hid (HR6.out.gr hb); have HK7 := Lib.hid (HK6.out.gr hb); have HD7 := Lib.hid (HD6.out.gr hb); have g7 := g6.trans hb; have Hbi7 := Lib.hid (Tm.In_below hb Hbi6.out); have Hp7 := Lib.hid (Tm.In_below hb Hp6.out); clear hb c0 c1 c2 c3 c4 c5 c6 c7 d0 d1 d2 d3 d4 d5 d6 d7; obtain ⟨c0, c1, c2, c3, c4, c5, c6, c7⟩ := HB7.out.cells; obtain ⟨d0, d1, d2, d3, d4, d5, d6, d7⟩ := HD7.out.cells; obtain ⟨⟨y0, y1, y2, y3⟩, ⟨f0, f1, f2, f3⟩, hlt⟩ := HR7.out.parts)
            | (go_at_call 52; rewrite [← Hbv.out, ← Hbmv.out]; refine (order_calls (t := b) (u := bm) (Tm.In_below g7 Hb.out) Hbi7.out).mono ?_; rw [Ho2.out]; rintro e w8 ⟨rfl, hb⟩; have g8 := g7.trans hb; have HR8 := Lib.hid (HR7.out.gr hb); have HK8 := Lib.hid (HK7.out.gr hb); have Hp8 := Lib.hid (Tm.In_below hb Hp7.out); clear hb c0 c1 c2 c3 c4 c5 c6 c7 d0 d1 d2 d3 d4 d5 d6 d7 y0 y1 y2 y3 f0 f1 f2 f3 hlt; obtain ⟨⟨y0, y1, y2, y3⟩, ⟨f0, f1, f2, f3⟩, hlt⟩ := HR8.out.parts; obtain ⟨⟨p0, p1, p2, p3⟩, _, _⟩ := HK8.out.parts)
            | (go_at_call 53; rewrite [← Hpv.out]; refine (copy_calls (t := pm) Hp8.out (Hpe.out ▸ Hcf.out)).mono ?_; rintro e w9 ⟨cm, hci, hce, rfl, hcb, hco⟩; have Hci := Lib.hid hci; have Hce := Lib.hid (hce.trans Hpe.out); have Hco := Lib.hid hco; have hs8 := HR8.out.parts.2.2; have g9 := g8.trans hcb; obtain ⟨kc, nc, sc, pc, cc, lc⟩ := cm; rewrite [tm_val]; clear p0 p1 p2 p3 y0 y1 y2 y3 f0 f1 f2 f3 hlt; obtain ⟨⟨y0, y1, y2, y3⟩, ⟨f0, f1, f2, f3⟩, hlt⟩ := (HR8.out.gr hcb).parts; clear hci hce hco hcb)
            | fail)
          refine bodyPost_ret (v := .tuple #[(Tm.mk kc nc sc pc cc lc).val, .int .i64 0]) (by simp (maxDischargeDepth := 9) [results, Tryz.results25, go_sem, Tm.val, Tm.k, Tm.n, Tm.s, Tm.p, Tm.c, Tm.l, y0, y1, y2, y3]) rfl ?_
          refine hv.out (.mk kc nc sc pc cc lc) Hce.out _ ?_ (by go_grown)
          exact in_after' Hci.out Hco.out fun x hx1 hx2 o => by
            have h3 : x ≠ w.heap.size + 1 := by omega
            rw [cell_set_ne h3, cell_set_ne h3, cell_set_ne h3, cell_set_ne h3]
        · have h2 : ¬ b.erase = b' := fun e => e2 (hz2.out.2 e)
          have hv := Lib.hid (hR0.out 7 (by
            rw [hE.out]
            cases hs : T.same b' b.erase
            · rw [Bool.and_false]; rfl
            · exact absurd ((same_iff _ _).1 hs).symm h2) (by decide))
          have e2' : (o2 == 0) = false := beq_eq_false_iff_ne.2 e2
          clear h1 h2
          go_wp2_with (first
            | (go_at_call 52; rewrite [← Hhv.out, ← Hmv.out]; refine (order_calls (t := h) (u := hm) (Tm.In_below g6 Hh.out) Hmi6.out).mono ?_; rw [Ho1.out]; rintro e w7 ⟨rfl, hb⟩; have HB7 := Lib.hid (HB6.out.gr hb); have HR7 := Lib.hid (HR6.out.gr hb); have HK7 := Lib.hid (HK6.out.gr hb); have HD7 := Lib.hid (HD6.out.gr hb); have g7 := g6.trans hb; have Hbi7 := Lib.hid (Tm.In_below hb Hbi6.out); have Hp7 := Lib.hid (Tm.In_below hb Hp6.out); clear hb c0 c1 c2 c3 c4 c5 c6 c7 d0 d1 d2 d3 d4 d5 d6 d7; obtain ⟨c0, c1, c2, c3, c4, c5, c6, c7⟩ := HB7.out.cells; obtain ⟨d0, d1, d2, d3, d4, d5, d6, d7⟩ := HD7.out.cells; obtain ⟨⟨y0, y1, y2, y3⟩, ⟨f0, f1, f2, f3⟩, hlt⟩ := HR7.out.parts)
            | (go_at_call 52; rewrite [← Hbv.out, ← Hbmv.out]; refine (order_calls (t := b) (u := bm) (Tm.In_below g7 Hb.out) Hbi7.out).mono ?_; rw [Ho2.out]; rintro e w8 ⟨rfl, hb⟩; have g8 := g7.trans hb; have HR8 := Lib.hid (HR7.out.gr hb); have HK8 := Lib.hid (HK7.out.gr hb); have Hp8 := Lib.hid (Tm.In_below hb Hp7.out); clear hb c0 c1 c2 c3 c4 c5 c6 c7 d0 d1 d2 d3 d4 d5 d6 d7 y0 y1 y2 y3 f0 f1 f2 f3 hlt; obtain ⟨⟨y0, y1, y2, y3⟩, ⟨f0, f1, f2, f3⟩, hlt⟩ := HR8.out.parts; obtain ⟨⟨p0, p1, p2, p3⟩, _, _⟩ := HK8.out.parts)
            | fail)
          exact bodyPost_ret (by simp (maxDischargeDepth := 9) [results, Tryz.results25, go_sem, zeroTm, Tm.val, Tm.k, Tm.n, Tm.s, Tm.p, Tm.c, Tm.l, y0, y1, y2, y3]) rfl (hv.out _ (by go_grown))
      · have h1 : ¬ h.erase = h' := fun e => e1 (hz1.out.2 e)
        have hv := Lib.hid (hR0.out 7 (by
          rw [hE.out]
          cases hs : T.same h' h.erase
          · rfl
          · exact absurd ((same_iff _ _).1 hs).symm h1) (by decide))
        have e1' : (o1 == 0) = false := beq_eq_false_iff_ne.2 e1
        clear h1
        go_wp2_with (first
          | (go_at_call 52; rewrite [← Hhv.out, ← Hmv.out]; refine (order_calls (t := h) (u := hm) (Tm.In_below g6 Hh.out) Hmi6.out).mono ?_; rw [Ho1.out]; rintro e w7 ⟨rfl, hb⟩; have HB7 := Lib.hid (HB6.out.gr hb); have HR7 := Lib.hid (HR6.out.gr hb); have HK7 := Lib.hid (HK6.out.gr hb); have HD7 := Lib.hid (HD6.out.gr hb); have g7 := g6.trans hb; have Hbi7 := Lib.hid (Tm.In_below hb Hbi6.out); have Hp7 := Lib.hid (Tm.In_below hb Hp6.out); clear hb c0 c1 c2 c3 c4 c5 c6 c7 d0 d1 d2 d3 d4 d5 d6 d7; obtain ⟨c0, c1, c2, c3, c4, c5, c6, c7⟩ := HB7.out.cells; obtain ⟨d0, d1, d2, d3, d4, d5, d6, d7⟩ := HD7.out.cells; obtain ⟨⟨y0, y1, y2, y3⟩, ⟨f0, f1, f2, f3⟩, hlt⟩ := HR7.out.parts)
          | fail)
        exact bodyPost_ret (by simp (maxDischargeDepth := 9) [results, Tryz.results25, go_sem, zeroTm, Tm.val, Tm.k, Tm.n, Tm.s, Tm.p, Tm.c, Tm.l, y0, y1, y2, y3]) rfl (hv.out _ (by go_grown))
end Go.Proofs.YtjdoflfdlhpbmaaGreat

namespace Go.Proofs.YtjdoflfdlhpbmaaGreat
open Go.RowKit Go.Maps Go.Lib

theorem infoInt : (Tryz.prog.info? 3).map (fun i => (i.zero, i.size, i.bytes)) = some (some (.int .i64 0), 1, 8) := by kernel_rfl

set_option maxHeartbeats 1000000 in
set_option maxRecDepth 100000 in
theorem insert_calls (b : Nat) (x : Int) (w : World) (c0 : w.cell? ⟨b, 0, none⟩ = some (.int .i64 x)) :
    Calls Tryz.prog 29 #[.slice none 0 0, .int .i64 0, .slice (some ⟨b, 0, none⟩) 1 1] w fun e w' => ∃ q c, e = .returned (.slice q 1 c) ∧ Gr w w' := by
  have hR : Hid (∀ q c w', Gr w w' → (fun (e : Ending) (w' : World) => ∃ q c, e = .returned (.slice q 1 c) ∧ Gr w w') (.returned (.slice q 1 c)) w') := fun q c w' hg => ⟨q, c, rfl, hg⟩
  generalize hQ : (fun (e : Ending) (w' : World) => ∃ q c, e = .returned (.slice q 1 c) ∧ Gr w w') = Q at hR ⊢
  clear hQ
  have Hc := Lib.hid c0
  clear c0
  go_enter Tryz.func29, Tryz.ntmps29
  try simp only [List.append_eq, List.cons_append, List.nil_append]
  go_wp2_with (first
    | (refine wpList_append_one rfl _ _ 36 3 rfl Tryz.underlying36 infoInt rfl (by decide) w.heap.size (.slice none 0 0) 0 [] b 1 [.int .i64 x] (by rfl) (by rfl) (World.ownsRow_nil w _ _ 1) (Nat.le_refl _) rfl (by
         intro j u hu
         match j, hu with
         | 0, hu => cases hu; exact Hc.out
         | j + 1, hu => simp at hu) (by
         intro u hu
         simp only [List.mem_cons, List.mem_nil_iff, or_false] at hu
         rw [hu]; rfl) (by decide) (by decide) ?_
       intro v' w' h2 h3 h4
       have gr' : Gr w w' := grownBy_below h3 (Nat.le_refl _) fun k hk => by cases hk
       obtain ⟨q, cq, rfl, _⟩ := row_form h2
       clear h2 h3 h4)
    | fail)
  exact hR.out _ _ _ gr'

/-! ### What a base is -/
theorem bpred_row : 68 < Tryz.prog.types.size := of_decide_eq_true (by kernel_rfl)
theorem bpred_wide : (match Tryz.prog.underlying 68 with | some (.array _ _) | some (.struct _) => true | _ => false) = true := by rw [Tryz.underlying68]
set_option maxRecDepth 100000 in
theorem bpred_law : WideMaps.KeyLaw Tryz.prog 68 := deep_law_laid laidOut_ (m := 2) (by omega) bpred_row (by kernel_rfl) bpred_wide
theorem bpred_keyed : Keyed Tryz.prog 68 := Keyed.of_law bpred_law
def bpredLit (s : List UInt8) (n : Int) : Lit := .string (keyBytes [.string s, .int .i64 n])
theorem keyOf_bpred {s : ByteArray} {n : Int} (hs : s.size ≤ maxLen) (hn : (Lit.int .i64 n).wf = true) : keyOf Tryz.prog 68 (.agg #[.string s, .int .i64 n]) = some (bpredLit s.data.toList n) := by
  have hk : Tryz.prog.keyType 68 = true := by kernel_rfl
  have hc : Tryz.prog.cellsOf 68 = 2 := by kernel_rfl
  have hcs : Tryz.prog.cellsOf 9 = 1 := by kernel_rfl
  have hci : Tryz.prog.cellsOf 3 = 1 := by kernel_rfl
  have hf : (Value.agg #[.string s, .int .i64 n]).formed Tryz.prog 68 = true := by simp [Value.formed, Tryz.underlying68, hc]
  obtain ⟨m, hm⟩ : ∃ m, Tryz.prog.types.size = m + 1 := ⟨Tryz.prog.types.size - 1, by have := bpred_row; omega⟩
  unfold keyOf
  rw [Tryz.underlying68]
  simp only [hk, hf, Bool.and_self, if_true]
  rw [show Tryz.prog.types.size + 1 = (m + 1) + 1 by omega]
  unfold Program.keyLits
  simp only [Tryz.underlying68]
  unfold Program.keyLits
  simp [Value.cells, hc, hcs, hci, Tryz.underlying9, Tryz.underlying3, hs, hn, bpredLit]

def kPred (x : ByteArray × Int) : Value := .agg #[.string x.1, .int .i64 x.2]
def kInt (n : Int) : Value := .int .i64 n
theorem kPred_inj {x y : ByteArray × Int} (h : kPred y = kPred x) : y = x := by
  obtain ⟨s, n⟩ := x
  obtain ⟨s', n'⟩ := y
  simpa [kPred] using h
theorem kInt_inj {x y : Int} (h : kInt y = kInt x) : y = x := by simpa [kInt] using h
theorem zero_held (w : World) : (zeroValue 70).run Tryz.prog w = .ok (.slice none 0 0) w := by kernel_rfl
theorem zero_bpred (w : World) : (zeroValue 68).run Tryz.prog w = .ok (.agg #[.string ⟨#[]⟩, .int .i64 0]) w := by kernel_rfl

/-- A base in which nothing is. -/
structure NewBase (w : World) (B M1 M2 : Nat) : Prop where
  blk : BlkT w B 57 #[.int .i64 0, .slice none 0 0, .map (some M1), .map (some M2)]
  m1 : GMap 68 kPred w M1 fun _ => none
  m2 : GMap 3 kInt w M2 fun _ => none
  n1 : M1 ≠ B
  n2 : M2 ≠ B
  n3 : M1 ≠ M2

theorem put_fun {K : Type} (x : K) (v : Value) : ∃ f : K → Option Value, f x = some v ∧ ∀ y, y ≠ x → f y = none := by
  classical
  exact ⟨fun y => if y = x then some v else none, if_pos rfl, fun y hy => if_neg hy⟩

def heldCells (i : Int) (h b : Tm) : List Value := [.int .i64 i, .int .i64 h.k, .int .i64 h.n, .string h.s, .slice h.p h.l.length h.c, .int .i64 b.k, .int .i64 b.n, .string b.s, .slice b.p b.l.length b.c]
theorem heldCells_one (i : Int) (h b : Tm) : ∀ u ∈ heldCells i h b, u.oneCell' = true := by
  intro u hu
  simp only [heldCells, List.mem_cons, List.mem_nil_iff, or_false] at hu
  rcases hu with rfl | rfl | rfl | rfl | rfl | rfl | rfl | rfl | rfl <;> rfl

/-- A base with one clause, of such a predicate. -/
structure OneBase (w : World) (B M1 M2 : Nat) (s : ByteArray) (n : Int) (t u : T) : Prop where
  blk : ∃ v, BlkT w B 57 #[.int .i64 1, v, .map (some M1), .map (some M2)]
  m1 : ∃ hv f, GMap 68 kPred w M1 f ∧ f (s, n) = some hv ∧ ∃ h b : Tm, w.ownsRow 0 73 9 hv 1 (heldCells 1 h b) ∧ h.In w ∧ b.In w ∧ h.erase = t ∧ b.erase = u
  m2 : ∃ f, GMap 3 kInt w M2 f ∧ f 1 = some (.agg #[.string s, .int .i64 n])

theorem OneBase.gr {w w' : World} {B M1 M2 : Nat} {s : ByteArray} {n : Int} {t u : T} (h : OneBase w B M1 M2 s n t u) (hg : Gr w w') : OneBase w' B M1 M2 s n t u := by
  obtain ⟨⟨v, h1⟩, ⟨hv, f, h2, h3, a, b, h4, h5, h6, h7⟩, ⟨f2, h8, h9⟩⟩ := h
  exact ⟨⟨v, h1.gr hg⟩, ⟨hv, f, h2.gr hg, h3, a, b, ownsRow_gr h4 hg, Tm.In_below hg h5, Tm.In_below hg h6, h7⟩, ⟨f2, h8.gr hg, h9⟩⟩

/-! ### What is made on the way -/
def heldV (S : Nat → Prop) (t u : T) : VP := fun v w => ∃ h b : Tm, v = .agg (heldCells 1 h b).toArray ∧ h.In w ∧ b.In w ∧ h.erase = t ∧ b.erase = u ∧ h.On S ∧ b.On S
theorem heldV_stable {S : Nat → Prop} {t u : T} : ∀ v w w', heldV S t u v w → Gr w w' → heldV S t u v w' := fun _ _ _ ⟨h, b, h1, h2, h3, h4⟩ hg => ⟨h, b, h1, Tm.In_below hg h2, Tm.In_below hg h3, h4⟩
def rowV (S : Nat → Prop) (t u : T) : VP := fun v w => ∃ (h b : Tm) (g : Nat), v = .slice (some ⟨g, 0, none⟩) 1 1 ∧ (∀ j x, (heldCells 1 h b)[j]? = some x → w.cell? ⟨g, j, none⟩ = some x) ∧ h.In w ∧ b.In w ∧ h.erase = t ∧ b.erase = u ∧ h.On S ∧ b.On S
theorem rowV_stable {S : Nat → Prop} {t u : T} : ∀ v w w', rowV S t u v w → Gr w w' → rowV S t u v w' := fun _ _ _ ⟨h, b, g, h1, h0, h2, h3, h4⟩ hg => ⟨h, b, g, h1, fun j x hx => Gr.at hg (h0 j x hx), Tm.In_below hg h2, Tm.In_below hg h3, h4⟩
def threeV (S : Nat → Prop) (t u : T) : VP := fun v w => ∃ (h b : Tm) (g a : Nat), v = .slice (some ⟨a, 0, none⟩) 3 3 ∧ w.cell? ⟨a, 0, none⟩ = some (.slice none 0 0) ∧ w.cell? ⟨a, 1, none⟩ = some (.slice (some ⟨g, 0, none⟩) 1 1) ∧ w.cell? ⟨a, 2, none⟩ = some (.slice none 0 0) ∧
  (∀ j x, (heldCells 1 h b)[j]? = some x → w.cell? ⟨g, j, none⟩ = some x) ∧ h.In w ∧ b.In w ∧ h.erase = t ∧ b.erase = u ∧ h.On S ∧ b.On S
theorem threeV_stable {S : Nat → Prop} {t u : T} : ∀ v w w', threeV S t u v w → Gr w w' → threeV S t u v w' := fun _ _ _ ⟨h, b, g, a, h1, c0, c1, c2, h0, h2, h3, h4⟩ hg => ⟨h, b, g, a, h1, Gr.at hg c0, Gr.at hg c1, Gr.at hg c2, fun j x hx => Gr.at hg (h0 j x hx), Tm.In_below hg h2, Tm.In_below hg h3, h4⟩
def ownV (B0 : Nat) (S : Nat → Prop) (t u : T) : VP := fun v w => ∃ h b : Tm, w.ownsRow B0 73 9 v 1 (heldCells 1 h b) ∧ h.In w ∧ b.In w ∧ h.erase = t ∧ b.erase = u ∧ h.On S ∧ b.On S
theorem row_cells {w : World} {base : Nat} {e : TypeId} {v : Value} {x : List Value} {size : Nat} (h : w.ownsRow base e size v 1 x) : ∃ g cap, v = .slice (some ⟨g, 0, none⟩) 1 cap ∧ 1 ≤ cap ∧ ∀ j u, x[j]? = some u → w.cell? ⟨g, j, none⟩ = some u := by
  rcases h.2 with ⟨_, h0⟩ | ⟨g, cap, cur, rfl, _, _, h1, _⟩
  · cases h0
  · refine ⟨g, cap, rfl, h1, fun j u hu => ?_⟩
    have := World.ownsRow.cells (g := g) h rfl j u hu
    rwa [Go.WideShapes.add_plain, Nat.zero_add] at this
theorem row_le {w : World} {base base' size n : Nat} {e : TypeId} {v : Value} {xs : List Value} (h : w.ownsRow base e size v n xs) (hb : base' ≤ base) : w.ownsRow base' e size v n xs :=
  ⟨h.1, h.2.imp id fun ⟨g, cap, cur, hv, hg, r⟩ => ⟨g, cap, cur, hv, Nat.le_trans hb hg, r⟩⟩
theorem ownsRow_kp {C : Nat → Prop} {w w' : World} {base : Nat} {e : TypeId} {size : Nat} {v : Value} {n : Nat} {xs : List Value} (h : w.ownsRow base e size v n xs) (hK : Kp C w w') (hC : ∀ b, base ≤ b → ¬ C b) : w'.ownsRow base e size v n xs := by
  refine ⟨h.1, h.2.imp id ?_⟩
  rintro ⟨g, cap, cur, rfl, h2, h3, h4⟩
  exact ⟨g, cap, cur, rfl, h2, by rw [hK.block g (Array.getElem?_eq_some_iff.1 h3).1 (hC g h2)]; exact h3, h4⟩
def oneIntV (x : Int) : VP := fun v w => ∃ g : Nat, v = .slice (some ⟨g, 0, none⟩) 1 1 ∧ w.cell? ⟨g, 0, none⟩ = some (.int .i64 x)
theorem oneIntV_stable {x : Int} : ∀ v w w', oneIntV x v w → Gr w w' → oneIntV x v w' := fun _ _ _ ⟨g, h1, h2⟩ hg => ⟨g, h1, Gr.at hg h2⟩
def sliceV : VP := fun v _ => ∃ (q : Option Addr) (n c : Nat), v = .slice q n c
theorem sliceV_stable : ∀ v w w', sliceV v w → Gr w w' → sliceV v w' := fun _ _ _ h _ => h
theorem ownV_stable {B0 : Nat} {S : Nat → Prop} {t u : T} : ∀ v w w', ownV B0 S t u v w → Gr w w' → ownV B0 S t u v w' := fun _ _ _ ⟨h, b, h1, h2, h3, h4⟩ hg => ⟨h, b, ownsRow_gr h1 hg, Tm.In_below hg h2, Tm.In_below hg h3, h4⟩
end Go.Proofs.YtjdoflfdlhpbmaaGreat
