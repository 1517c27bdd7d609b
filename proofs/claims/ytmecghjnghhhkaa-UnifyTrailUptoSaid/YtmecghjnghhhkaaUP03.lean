/-
  hornlaw.stored: one step of both stores.
-/
import Derived.Test.YtmecghjnghhhkaaUP02
namespace Go.Proofs.Ytmecghjnghhhkaa
open Go.RowKit Go.Maps Go.Lib

/-- Both stores hold the pairs E. -/
def PlayEx (B : Nat) (w : World) (P M Q : Nat) (E : List (T × T)) (k : Nat) : Prop := ∃ S vt vm vq σ ρ tr mk lp, Play B w P M Q S vt vm vq σ ρ tr mk lp ∧ seePrs lp = E ∧ lp.length ≤ k
def RetStored (B P M Q : Nat) (vt vm : Value) (E' : List (T × T)) (k : Nat) (w : World) (e : Ending) (w' : World) : Prop := e = .returned (.bool true) ∧ PlayEx B w' P M Q E' k ∧ Kp (MutQ P M Q vt vm) w w'
theorem Took.unformed {E E' : List (T × T)} {xa xb : Tm} {xn : Int} (h : Took E ⟨0, xa, xb, xn⟩ E') (hf : ¬ (xa.erase.formed = true ∧ xb.erase.formed = true)) : E' = E := by
  rw [Took, if_neg (fun h => hf ⟨h.2.1, h.2.2⟩), if_neg (fun h => by have h9 := h.1; simp at h9), if_neg (fun h => by have h9 := h.1; simp at h9)] at h
  exact h
theorem Took.pair {E E' : List (T × T)} {xa xb : Tm} {xn : Int} (h : Took E ⟨0, xa, xb, xn⟩ E') (ha : xa.erase.formed = true) (hb : xb.erase.formed = true) : (∃ ρ, Rob varT (E ++ [(xa.erase, xb.erase)]) (.done ρ) ∧ E' = E ++ [(xa.erase, xb.erase)]) ∨ (Rob varT (E ++ [(xa.erase, xb.erase)]) .clash ∧ E' = E) := by
  rw [Took, if_pos ⟨rfl, ha, hb⟩] at h
  exact h
theorem Took.cut {E E' : List (T × T)} {xa xb : Tm} {xn : Int} (h : Took E ⟨1, xa, xb, xn⟩ E') (h0 : 0 ≤ xn) (h1 : xn ≤ E.length) : E' = E.take xn.toNat := by
  rw [Took, if_neg (fun h => by have h9 := h.1; simp at h9), if_pos ⟨rfl, h0, h1⟩] at h
  exact h
theorem Took.nocut {E E' : List (T × T)} {xa xb : Tm} {xn : Int} (h : Took E ⟨1, xa, xb, xn⟩ E') (h0 : ¬ (0 ≤ xn ∧ xn ≤ E.length)) : E' = E := by
  rw [Took, if_neg (fun h => by have h9 := h.1; simp at h9), if_neg (fun h => h0 h.2), if_neg (fun h => by have h9 := h.1; simp at h9)] at h
  exact h
theorem Took.slim {E E' : List (T × T)} {xa xb : Tm} {xn : Int} (h : Took E ⟨2, xa, xb, xn⟩ E') (ha : xa.erase.formed = true) : (∀ ρ, Rob varT E (.done ρ) → ¬ Fat (T.map ρ xa.erase)) ∧ E' = E := by
  rw [Took, if_neg (fun h => by have h9 := h.1; simp at h9), if_neg (fun h => by have h9 := h.1; simp at h9), if_pos ⟨rfl, ha⟩] at h
  exact h
theorem Took.noslim {E E' : List (T × T)} {xa xb : Tm} {xn : Int} (h : Took E ⟨2, xa, xb, xn⟩ E') (ha : xa.erase.formed = false) : E' = E := by
  rw [Took, if_neg (fun h => by have h9 := h.1; simp at h9), if_neg (fun h => by have h9 := h.1; simp at h9), if_neg (fun h => by rw [ha] at h; exact absurd h.2 (by decide))] at h
  exact h
theorem Took.other {E E' : List (T × T)} {x : Stp} (h : Took E x E') (h0 : x.k ≠ 0) (h1 : x.k ≠ 1) (h2 : x.k ≠ 2) : E' = E := by
  rw [Took, if_neg (fun h => h0 h.1), if_neg (fun h => h1 h.1), if_neg (fun h => h2 h.1)] at h
  exact h

set_option maxHeartbeats 2000000 in
set_option maxRecDepth 100000 in
theorem stored0_calls {B : Nat} {w : World} {P M Q : Nat} {S : Nat → Prop} {vt vm vq : Value} {σ : Int → Option T} {ρ : Int → T} {tr mk : List Int} {lp : List Pr} (hp : Play B w P M Q S vt vm vq σ ρ tr mk lp) (xa xb : Tm) (xn : Int) (ia : xa.In w) (ib : xb.In w) (oa : xa.On (· < B)) (ob : xb.On (· < B)) {E' : List (T × T)} (ht : Took (seePrs lp) ⟨0, xa, xb, xn⟩ E') (hl : (lp.length + 1) * 112 ≤ 140737488351232) :
    Calls Try.prog 19 #[.pointer (some ⟨P, 0, none⟩), .pointer (some ⟨Q, 0, none⟩), .agg #[.int .i64 0, .int .i64 xa.k, .int .i64 xa.n, .string xa.s, .slice xa.p xa.l.length xa.c, .int .i64 xb.k, .int .i64 xb.n, .string xb.s, .slice xb.p xb.l.length xb.c, .int .i64 xn]] w (RetStored B P M Q vt vm E' (lp.length + 1) w) := by
  have HP := Lib.hid hp
  have Ia := Lib.hid ia
  have Ib := Lib.hid ib
  have Oa := Lib.hid oa
  have Ob := Lib.hid ob
  have Hmk := Lib.hid hp.lens
  have hPl := hp.sm.blk.lt
  have hQl := hp.rs.blk.lt
  have hQ0 : Hid (∀ w', PlayEx B w' P M Q E' (lp.length + 1) → Kp (MutQ P M Q vt vm) w w' → RetStored B P M Q vt vm E' (lp.length + 1) w (.returned (.bool true)) w') := fun w' h1 h2 => ⟨rfl, h1, h2⟩
  generalize RetStored B P M Q vt vm E' (lp.length + 1) w = R at hQ0 ⊢
  have HQ := hQ0
  have Ht := Lib.hid ht
  clear ht
  clear hp ia ib oa ob hQ0
  go_enter Try.func19, Try.ntmps19
  try simp only [List.append_eq, List.cons_append, List.nil_append]
  go_upto_region 1 with fail
  have hB := BlkT.new w 45 #[.int .i64 0, .int .i64 xa.k, .int .i64 xa.n, .string xa.s, .slice xa.p xa.l.length xa.c, .int .i64 xb.k, .int .i64 xb.n, .string xb.s, .slice xb.p xb.l.length xb.c, .int .i64 xn]
  have gA : Gr w (w.alloc (.cells #[.int .i64 0, .int .i64 xa.k, .int .i64 xa.n, .string xa.s, .slice xa.p xa.l.length xa.c, .int .i64 xb.k, .int .i64 xb.n, .string xb.s, .slice xb.p xb.l.length xb.c, .int .i64 xn] 45)) := by go_grown
  generalize w.alloc (.cells #[.int .i64 0, .int .i64 xa.k, .int .i64 xa.n, .string xa.s, .slice xa.p xa.l.length xa.c, .int .i64 xb.k, .int .i64 xb.n, .string xb.s, .slice xb.p xb.l.length xb.c, .int .i64 xn] 45) = wA at *
  have hpA := HP.out.gr gA
  have hsz : w.heap.size < wA.heap.size := hB.lt
  have HB := Lib.hid hB
  have Hun := Lib.hid (show Calls Try.prog 26 #[.pointer (some ⟨P, 0, none⟩), .agg #[.int .i64 xa.k, .int .i64 xa.n, .string xa.s, .slice xa.p xa.l.length xa.c], .agg #[.int .i64 xb.k, .int .i64 xb.n, .string xb.s, .slice xb.p xb.l.length xb.c]] wA (RetSU S B P M vt vm σ tr mk ρ xa.erase xb.erase wA) from unify_calls hpA.sm hpA.ok xa xb (Tm.In_below gA Ia.out) (Tm.In_below gA Ib.out) (by rw [Hmk.out]; omega))
  have Hfa := Lib.hid (fun (W : World) (g : xa.In W) => show Calls Try.prog 34 #[.agg #[.int .i64 xa.k, .int .i64 xa.n, .string xa.s, .slice xa.p xa.l.length xa.c]] W (Ret (.bool xa.erase.formed) W) from rformed_calls (t := xa) g)
  have Hfb := Lib.hid (fun (W : World) (g : xb.In W) => show Calls Try.prog 34 #[.agg #[.int .i64 xb.k, .int .i64 xb.n, .string xb.s, .slice xb.p xb.l.length xb.c]] W (Ret (.bool xb.erase.formed) W) from rformed_calls (t := xb) g)
  by_cases hf : (xa.erase.formed && xb.erase.formed) = true
  · have Hf : Hid (xa.erase.formed = true ∧ xb.erase.formed = true) := by
      show _ ∧ _
      simpa using hf
    rw [Hf.out.1] at Hfa
    rw [Hf.out.2] at Hfb
    clear hf hB
    have HpA := Lib.hid hpA
    have c0 := (HB.out).cell 0 (v := .int .i64 0) rfl
    have c1 := (HB.out).cell 1 (v := .int .i64 xa.k) rfl
    have c2 := (HB.out).cell 2 (v := .int .i64 xa.n) rfl
    have c3 := (HB.out).cell 3 (v := .string xa.s) rfl
    have c4 := (HB.out).cell 4 (v := .slice xa.p xa.l.length xa.c) rfl
    have c5 := (HB.out).cell 5 (v := .int .i64 xb.k) rfl
    have c6 := (HB.out).cell 6 (v := .int .i64 xb.n) rfl
    have c7 := (HB.out).cell 7 (v := .string xb.s) rfl
    have c8 := (HB.out).cell 8 (v := .slice xb.p xb.l.length xb.c) rfl
    have c9 := (HB.out).cell 9 (v := .int .i64 xn) rfl
    clear hpA
    go_wp2_with fail
    refine Hun.out.mono ?_
    rintro e w1 (⟨hbad, -, -⟩ | ⟨-, S', r, vt', vm', σ', ρ', tr', mk', hS1, hS2, rfl, hj⟩)
    · rw [Hf.out.1, Hf.out.2] at hbad
      cases hbad
    have hB1 := HB.out.kp hj.kp fun hm => by
      have := (HP.out.mut w.heap.size (.inl hm)).2
      omega
    have HB1 := Lib.hid hB1
    have Ia1 := Lib.hid (kp_in (Tm.In_below gA Ia.out) Oa.out HpA.out.low_nA hj.kp)
    have Ib1 := Lib.hid (kp_in (Tm.In_below gA Ib.out) Ob.out HpA.out.low_nA hj.kp)
    have Hrs := Lib.hid (HpA.out.rs_kp hj.kp)
    have hfp : FormedP (seePrs lp ++ [(xa.erase, xb.erase)]) := fun p hp => by
      rcases List.mem_append.1 hp with hp | hp
      · exact formedP_see HP.out.rs.form p hp
      · rw [List.mem_singleton] at hp; rw [hp]; exact Hf.out
    have Hfp := Lib.hid hfp
    have Hj := Lib.hid hj
    have HS1 := Lib.hid hS1
    have HS2 := Lib.hid hS2
    have Hru := Lib.hid (fun (W : World) (g : Gr w1 W) => show Calls Try.prog 82 #[.pointer (some ⟨Q, 0, none⟩), .agg #[.int .i64 xa.k, .int .i64 xa.n, .string xa.s, .slice xa.p xa.l.length xa.c], .agg #[.int .i64 xb.k, .int .i64 xb.n, .string xb.s, .slice xb.p xb.l.length xb.c]] W (RetRU (· < B) Q (lp ++ [⟨xa, xb⟩]) W) from rsUnify_calls (Hrs.out.gr g) xa xb (Tm.In_below g Ia1.out) (Tm.In_below g Ib1.out) Oa.out Ob.out Hf.out.1 Hf.out.2 hl)
    clear hB1 hj hS1 hS2 hfp c0 c1 c2 c3 c4 c5 c6 c7 c8 c9
    rcases Ht.out.pair Hf.out.1 Hf.out.2 with ⟨ρ2, hrob, hE⟩ | ⟨hcl, hE⟩
    · have Hrob := Lib.hid hrob
      have HE := Lib.hid hE
      have hr : r = true := by
        cases r with
        | true => rfl
        | false =>
          have hh := (hrob.holds Hfp.out).2.1
          refine absurd (hh (xa.erase, xb.erase) (List.mem_append_right _ (List.mem_singleton.2 rfl))) ((Hj.out.no rfl).2.2.2.2 ρ2 (HP.out.hist.holds.2 ρ2 fun p hp => hh p (List.mem_append_left _ hp)))
      subst hr
      clear hrob hE
      have c0 := (HB1.out).cell 0 (v := .int .i64 0) rfl
      have c1 := (HB1.out).cell 1 (v := .int .i64 xa.k) rfl
      have c2 := (HB1.out).cell 2 (v := .int .i64 xa.n) rfl
      have c3 := (HB1.out).cell 3 (v := .string xa.s) rfl
      have c4 := (HB1.out).cell 4 (v := .slice xa.p xa.l.length xa.c) rfl
      have c5 := (HB1.out).cell 5 (v := .int .i64 xb.k) rfl
      have c6 := (HB1.out).cell 6 (v := .int .i64 xb.n) rfl
      have c7 := (HB1.out).cell 7 (v := .string xb.s) rfl
      have c8 := (HB1.out).cell 8 (v := .slice xb.p xb.l.length xb.c) rfl
      have c9 := (HB1.out).cell 9 (v := .int .i64 xn) rfl
      go_wp2_with fail
      refine (Hfa.out w1 Ia1.out).mono ?_
      rintro e w2 ⟨rfl, g2⟩
      replace g2 : Gr w1 w2 := g2
      clear c0 c1 c2 c3 c4 c5 c6 c7 c8 c9
      have c0 := (HB1.out.gr g2).cell 0 (v := .int .i64 0) rfl
      have c1 := (HB1.out.gr g2).cell 1 (v := .int .i64 xa.k) rfl
      have c2 := (HB1.out.gr g2).cell 2 (v := .int .i64 xa.n) rfl
      have c3 := (HB1.out.gr g2).cell 3 (v := .string xa.s) rfl
      have c4 := (HB1.out.gr g2).cell 4 (v := .slice xa.p xa.l.length xa.c) rfl
      have c5 := (HB1.out.gr g2).cell 5 (v := .int .i64 xb.k) rfl
      have c6 := (HB1.out.gr g2).cell 6 (v := .int .i64 xb.n) rfl
      have c7 := (HB1.out.gr g2).cell 7 (v := .string xb.s) rfl
      have c8 := (HB1.out.gr g2).cell 8 (v := .slice xb.p xb.l.length xb.c) rfl
      have c9 := (HB1.out.gr g2).cell 9 (v := .int .i64 xn) rfl
      go_wp2_with fail
      refine (Hfb.out w2 (Tm.In_below g2 Ib1.out)).mono ?_
      rintro e w3 ⟨rfl, g3⟩
      replace g3 : Gr w1 w3 := Gr.trans g2 g3
      clear c0 c1 c2 c3 c4 c5 c6 c7 c8 c9
      have c0 := (HB1.out.gr g3).cell 0 (v := .int .i64 0) rfl
      have c1 := (HB1.out.gr g3).cell 1 (v := .int .i64 xa.k) rfl
      have c2 := (HB1.out.gr g3).cell 2 (v := .int .i64 xa.n) rfl
      have c3 := (HB1.out.gr g3).cell 3 (v := .string xa.s) rfl
      have c4 := (HB1.out.gr g3).cell 4 (v := .slice xa.p xa.l.length xa.c) rfl
      have c5 := (HB1.out.gr g3).cell 5 (v := .int .i64 xb.k) rfl
      have c6 := (HB1.out.gr g3).cell 6 (v := .int .i64 xb.n) rfl
      have c7 := (HB1.out.gr g3).cell 7 (v := .string xb.s) rfl
      have c8 := (HB1.out.gr g3).cell 8 (v := .slice xb.p xb.l.length xb.c) rfl
      have c9 := (HB1.out.gr g3).cell 9 (v := .int .i64 xn) rfl
      go_wp2_with fail
      refine (Hru.out w3 g3).mono ?_
      rintro e w4 ⟨o, ho, hout⟩
      have ho2 := ho
      rw [seePrs_append] at ho2
      obtain rfl := Hrob.out.same_out ho2
      obtain ⟨rfl, v', hr4, k4, hv4⟩ := hout
      have Hfin := Lib.hid (HQ.out w4 ⟨S', vt', vm', v', σ', ρ', tr', mk', lp ++ [⟨xa, xb⟩], HpA.out.taken (x := ⟨xa, xb⟩) HS1.out HS2.out Hj.out g3 hr4 k4 hv4 ho, by rw [seePrs_append, HE.out], by simp⟩ (((Kp.of_gr gA).trans (Hj.out.kp.mono fun b hb => .inl hb)).trans ((Kp.of_gr g3).trans (k4.mono fun b hb => .inr hb))))
      clear ho ho2 hr4 k4 hv4 c0 c1 c2 c3 c4 c5 c6 c7 c8 c9
      go_wp2_with fail
      exact Hfin.out
    · have Hcl := Lib.hid hcl
      have HE := Lib.hid hE
      have hr : r = false := by
        cases r with
        | false => rfl
        | true =>
          obtain ⟨j1, j2, j3, -⟩ := Hj.out.yes rfl
          exact absurd (HP.out.hist.holds.snoc j1 j2 j3).1 (hcl.none Hfp.out ρ')
      subst hr
      clear hcl hE
      have c0 := (HB1.out).cell 0 (v := .int .i64 0) rfl
      have c1 := (HB1.out).cell 1 (v := .int .i64 xa.k) rfl
      have c2 := (HB1.out).cell 2 (v := .int .i64 xa.n) rfl
      have c3 := (HB1.out).cell 3 (v := .string xa.s) rfl
      have c4 := (HB1.out).cell 4 (v := .slice xa.p xa.l.length xa.c) rfl
      have c5 := (HB1.out).cell 5 (v := .int .i64 xb.k) rfl
      have c6 := (HB1.out).cell 6 (v := .int .i64 xb.n) rfl
      have c7 := (HB1.out).cell 7 (v := .string xb.s) rfl
      have c8 := (HB1.out).cell 8 (v := .slice xb.p xb.l.length xb.c) rfl
      have c9 := (HB1.out).cell 9 (v := .int .i64 xn) rfl
      go_wp2_with fail
      refine (Hfa.out w1 Ia1.out).mono ?_
      rintro e w2 ⟨rfl, g2⟩
      replace g2 : Gr w1 w2 := g2
      clear c0 c1 c2 c3 c4 c5 c6 c7 c8 c9
      have c0 := (HB1.out.gr g2).cell 0 (v := .int .i64 0) rfl
      have c1 := (HB1.out.gr g2).cell 1 (v := .int .i64 xa.k) rfl
      have c2 := (HB1.out.gr g2).cell 2 (v := .int .i64 xa.n) rfl
      have c3 := (HB1.out.gr g2).cell 3 (v := .string xa.s) rfl
      have c4 := (HB1.out.gr g2).cell 4 (v := .slice xa.p xa.l.length xa.c) rfl
      have c5 := (HB1.out.gr g2).cell 5 (v := .int .i64 xb.k) rfl
      have c6 := (HB1.out.gr g2).cell 6 (v := .int .i64 xb.n) rfl
      have c7 := (HB1.out.gr g2).cell 7 (v := .string xb.s) rfl
      have c8 := (HB1.out.gr g2).cell 8 (v := .slice xb.p xb.l.length xb.c) rfl
      have c9 := (HB1.out.gr g2).cell 9 (v := .int .i64 xn) rfl
      go_wp2_with fail
      refine (Hfb.out w2 (Tm.In_below g2 Ib1.out)).mono ?_
      rintro e w3 ⟨rfl, g3⟩
      replace g3 : Gr w1 w3 := Gr.trans g2 g3
      clear c0 c1 c2 c3 c4 c5 c6 c7 c8 c9
      have c0 := (HB1.out.gr g3).cell 0 (v := .int .i64 0) rfl
      have c1 := (HB1.out.gr g3).cell 1 (v := .int .i64 xa.k) rfl
      have c2 := (HB1.out.gr g3).cell 2 (v := .int .i64 xa.n) rfl
      have c3 := (HB1.out.gr g3).cell 3 (v := .string xa.s) rfl
      have c4 := (HB1.out.gr g3).cell 4 (v := .slice xa.p xa.l.length xa.c) rfl
      have c5 := (HB1.out.gr g3).cell 5 (v := .int .i64 xb.k) rfl
      have c6 := (HB1.out.gr g3).cell 6 (v := .int .i64 xb.n) rfl
      have c7 := (HB1.out.gr g3).cell 7 (v := .string xb.s) rfl
      have c8 := (HB1.out.gr g3).cell 8 (v := .slice xb.p xb.l.length xb.c) rfl
      have c9 := (HB1.out.gr g3).cell 9 (v := .int .i64 xn) rfl
      go_wp2_with fail
      refine (Hru.out w3 g3).mono ?_
      rintro e w4 ⟨o, ho, hout⟩
      rw [seePrs_append] at ho
      obtain rfl := Hcl.out.same_out ho
      obtain ⟨rfl, g4⟩ := hout
      have Hfin := Lib.hid (HQ.out w4 ⟨S', vt', vm', vq, σ, ρ, tr, mk, lp, HpA.out.refused HS1.out HS2.out Hj.out (g3.trans g4), by rw [HE.out], by omega⟩ (((Kp.of_gr gA).trans (Hj.out.kp.mono fun b hb => .inl hb)).trans (Kp.of_gr (g3.trans g4))))
      clear ho c0 c1 c2 c3 c4 c5 c6 c7 c8 c9
      go_wp2_with fail
      exact Hfin.out
  · have hE := Ht.out.unformed (fun h => hf (by rw [h.1, h.2]; rfl))
    have HE := Lib.hid hE
    have Hnf : Hid ((xa.erase.formed && xb.erase.formed) = false) := by
      show _ = _
      cases h : (xa.erase.formed && xb.erase.formed) with
      | false => rfl
      | true => exact absurd h hf
    clear hf hE
    have HpA := Lib.hid hpA
    have c0 := (HB.out).cell 0 (v := .int .i64 0) rfl
    have c1 := (HB.out).cell 1 (v := .int .i64 xa.k) rfl
    have c2 := (HB.out).cell 2 (v := .int .i64 xa.n) rfl
    have c3 := (HB.out).cell 3 (v := .string xa.s) rfl
    have c4 := (HB.out).cell 4 (v := .slice xa.p xa.l.length xa.c) rfl
    have c5 := (HB.out).cell 5 (v := .int .i64 xb.k) rfl
    have c6 := (HB.out).cell 6 (v := .int .i64 xb.n) rfl
    have c7 := (HB.out).cell 7 (v := .string xb.s) rfl
    have c8 := (HB.out).cell 8 (v := .slice xb.p xb.l.length xb.c) rfl
    have c9 := (HB.out).cell 9 (v := .int .i64 xn) rfl
    clear hB hpA
    go_wp2_with fail
    refine Hun.out.mono ?_
    rintro e w1 (⟨-, rfl, g1⟩ | ⟨hbad, -⟩)
    · have gw1 : Gr w w1 := gA.trans g1
      have Hfin := Lib.hid (fun w' (g : Gr w1 w') => HQ.out w' ⟨S, vt, vm, vq, σ, ρ, tr, mk, lp, HP.out.gr (gw1.trans g), by rw [HE.out], by omega⟩ (Kp.of_gr (gw1.trans g)))
      clear c0 c1 c2 c3 c4 c5 c6 c7 c8 c9
      generalize hfa : xa.erase.formed = fa at *
      generalize hfb : xb.erase.formed = fb at *
      have c0 := (HB.out.gr g1).cell 0 (v := .int .i64 0) rfl
      have c1 := (HB.out.gr g1).cell 1 (v := .int .i64 xa.k) rfl
      have c2 := (HB.out.gr g1).cell 2 (v := .int .i64 xa.n) rfl
      have c3 := (HB.out.gr g1).cell 3 (v := .string xa.s) rfl
      have c4 := (HB.out.gr g1).cell 4 (v := .slice xa.p xa.l.length xa.c) rfl
      have c5 := (HB.out.gr g1).cell 5 (v := .int .i64 xb.k) rfl
      have c6 := (HB.out.gr g1).cell 6 (v := .int .i64 xb.n) rfl
      have c7 := (HB.out.gr g1).cell 7 (v := .string xb.s) rfl
      have c8 := (HB.out.gr g1).cell 8 (v := .slice xb.p xb.l.length xb.c) rfl
      have c9 := (HB.out.gr g1).cell 9 (v := .int .i64 xn) rfl
      cases fa with
      | false =>
        clear hfa hfb
        go_wp2_with fail
        refine (Hfa.out w1 (Tm.In_below gw1 Ia.out)).mono ?_
        rintro e w2 ⟨rfl, g2⟩
        replace g2 : Gr w1 w2 := g2
        clear c0 c1 c2 c3 c4 c5 c6 c7 c8 c9
        go_wp2_with fail
        exact Hfin.out _ g2
      | true =>
        cases fb with
        | true => exact absurd Hnf.out (by decide)
        | false =>
          clear hfa hfb
          go_wp2_with fail
          refine (Hfa.out w1 (Tm.In_below gw1 Ia.out)).mono ?_
          rintro e w2 ⟨rfl, g2⟩
          replace g2 : Gr w1 w2 := g2
          clear c0 c1 c2 c3 c4 c5 c6 c7 c8 c9
          have c0 := (HB.out.gr (g1.trans g2)).cell 0 (v := .int .i64 0) rfl
          have c1 := (HB.out.gr (g1.trans g2)).cell 1 (v := .int .i64 xa.k) rfl
          have c2 := (HB.out.gr (g1.trans g2)).cell 2 (v := .int .i64 xa.n) rfl
          have c3 := (HB.out.gr (g1.trans g2)).cell 3 (v := .string xa.s) rfl
          have c4 := (HB.out.gr (g1.trans g2)).cell 4 (v := .slice xa.p xa.l.length xa.c) rfl
          have c5 := (HB.out.gr (g1.trans g2)).cell 5 (v := .int .i64 xb.k) rfl
          have c6 := (HB.out.gr (g1.trans g2)).cell 6 (v := .int .i64 xb.n) rfl
          have c7 := (HB.out.gr (g1.trans g2)).cell 7 (v := .string xb.s) rfl
          have c8 := (HB.out.gr (g1.trans g2)).cell 8 (v := .slice xb.p xb.l.length xb.c) rfl
          have c9 := (HB.out.gr (g1.trans g2)).cell 9 (v := .int .i64 xn) rfl
          go_wp2_with fail
          refine (Hfb.out w2 (Tm.In_below (gw1.trans g2) Ib.out)).mono ?_
          rintro e w3 ⟨rfl, g3⟩
          replace g3 : Gr w1 w3 := Gr.trans g2 g3
          clear c0 c1 c2 c3 c4 c5 c6 c7 c8 c9
          go_wp2_with fail
          exact Hfin.out _ g3
    · rw [Hnf.out] at hbad
      cases hbad
set_option maxHeartbeats 2000000 in
set_option maxRecDepth 100000 in
theorem stored1_calls {B : Nat} {w : World} {P M Q : Nat} {S : Nat → Prop} {vt vm vq : Value} {σ : Int → Option T} {ρ : Int → T} {tr mk : List Int} {lp : List Pr} (hp : Play B w P M Q S vt vm vq σ ρ tr mk lp) (xa xb : Tm) (xn : Int) (ia : xa.In w) (ib : xb.In w) (oa : xa.On (· < B)) (ob : xb.On (· < B)) {E' : List (T × T)} (ht : Took (seePrs lp) ⟨1, xa, xb, xn⟩ E') (_ : (lp.length + 1) * 112 ≤ 140737488351232) :
    Calls Try.prog 19 #[.pointer (some ⟨P, 0, none⟩), .pointer (some ⟨Q, 0, none⟩), .agg #[.int .i64 1, .int .i64 xa.k, .int .i64 xa.n, .string xa.s, .slice xa.p xa.l.length xa.c, .int .i64 xb.k, .int .i64 xb.n, .string xb.s, .slice xb.p xb.l.length xb.c, .int .i64 xn]] w (RetStored B P M Q vt vm E' (lp.length + 1) w) := by
  have HP := Lib.hid hp
  have Ia := Lib.hid ia
  have Ib := Lib.hid ib
  have Oa := Lib.hid oa
  have Ob := Lib.hid ob
  have Hmk := Lib.hid hp.lens
  have hPl := hp.sm.blk.lt
  have hQl := hp.rs.blk.lt
  have hQ0 : Hid (∀ w', PlayEx B w' P M Q E' (lp.length + 1) → Kp (MutQ P M Q vt vm) w w' → RetStored B P M Q vt vm E' (lp.length + 1) w (.returned (.bool true)) w') := fun w' h1 h2 => ⟨rfl, h1, h2⟩
  generalize RetStored B P M Q vt vm E' (lp.length + 1) w = R at hQ0 ⊢
  have HQ := hQ0
  have Ht := Lib.hid ht
  clear ht
  clear hp ia ib oa ob hQ0
  go_enter Try.func19, Try.ntmps19
  try simp only [List.append_eq, List.cons_append, List.nil_append]
  go_upto_region 1 with fail
  have hB := BlkT.new w 45 #[.int .i64 1, .int .i64 xa.k, .int .i64 xa.n, .string xa.s, .slice xa.p xa.l.length xa.c, .int .i64 xb.k, .int .i64 xb.n, .string xb.s, .slice xb.p xb.l.length xb.c, .int .i64 xn]
  have gA : Gr w (w.alloc (.cells #[.int .i64 1, .int .i64 xa.k, .int .i64 xa.n, .string xa.s, .slice xa.p xa.l.length xa.c, .int .i64 xb.k, .int .i64 xb.n, .string xb.s, .slice xb.p xb.l.length xb.c, .int .i64 xn] 45)) := by go_grown
  generalize w.alloc (.cells #[.int .i64 1, .int .i64 xa.k, .int .i64 xa.n, .string xa.s, .slice xa.p xa.l.length xa.c, .int .i64 xb.k, .int .i64 xb.n, .string xb.s, .slice xb.p xb.l.length xb.c, .int .i64 xn] 45) = wA at *
  have hpA := HP.out.gr gA
  have hsz : w.heap.size < wA.heap.size := hB.lt
  have HB := Lib.hid hB
  have HpA := Lib.hid hpA
  by_cases h0 : xn < 0
  · have hd : decide (xn < 0) = true := decide_eq_true h0
    have hE := Ht.out.nocut (fun h => by omega)
    have HE := Lib.hid hE
    have Hun := Lib.hid (undo_low hpA.sm xn h0)
    have c0 := (HB.out).cell 0 (v := .int .i64 1) rfl
    have c1 := (HB.out).cell 1 (v := .int .i64 xa.k) rfl
    have c2 := (HB.out).cell 2 (v := .int .i64 xa.n) rfl
    have c3 := (HB.out).cell 3 (v := .string xa.s) rfl
    have c4 := (HB.out).cell 4 (v := .slice xa.p xa.l.length xa.c) rfl
    have c5 := (HB.out).cell 5 (v := .int .i64 xb.k) rfl
    have c6 := (HB.out).cell 6 (v := .int .i64 xb.n) rfl
    have c7 := (HB.out).cell 7 (v := .string xb.s) rfl
    have c8 := (HB.out).cell 8 (v := .slice xb.p xb.l.length xb.c) rfl
    have c9 := (HB.out).cell 9 (v := .int .i64 xn) rfl
    clear hB hpA hE h0
    go_wp2_with fail
    refine Hun.out.mono ?_
    rintro e w1 ⟨rfl, g1⟩
    replace g1 : Gr wA w1 := g1
    have gw1 : Gr w w1 := gA.trans g1
    have Hfin := Lib.hid (fun w' (g : Gr w1 w') => HQ.out w' ⟨S, vt, vm, vq, σ, ρ, tr, mk, lp, HP.out.gr (gw1.trans g), by rw [HE.out], by omega⟩ (Kp.of_gr (gw1.trans g)))
    clear c0 c1 c2 c3 c4 c5 c6 c7 c8 c9
    have c9 := (HB.out.gr g1).cell 9 (v := .int .i64 xn) rfl
    go_upto_region 9 with fail
    go_quiet (fail)
    go_wp2_with fail
    exact Hfin.out _ (Gr.drewN (Gr.rfl' _) _)
  · have hd : decide (xn < 0) = false := decide_eq_false h0
    obtain ⟨p, c, rfl, hprs⟩ := HP.out.rs.prs
    have Hqv := Lib.hid (fun (W : World) (g : RS (· < B) W Q (.slice p lp.length c) lp) => g.blk.cell 0 (v := .slice p lp.length c) rfl)
    have hlc : lp.length ≤ c ∧ c ≤ 9223372036854775807 := ⟨hprs.1, hprs.2.1.2⟩
    have Hlc := Lib.hid hlc
    clear hlc hprs
    by_cases h1 : (lp.length : Int) < xn
    · have hd1 : decide ((lp.length : Int) < xn) = true := decide_eq_true h1
      have hE := Ht.out.nocut (fun h => by rw [seePrs_length] at h; omega)
      have HE := Lib.hid hE
      have Hun := Lib.hid (undo_high hpA.sm xn (by rw [Hmk.out]; exact h1))
      have c0 := (HB.out).cell 0 (v := .int .i64 1) rfl
      have c1 := (HB.out).cell 1 (v := .int .i64 xa.k) rfl
      have c2 := (HB.out).cell 2 (v := .int .i64 xa.n) rfl
      have c3 := (HB.out).cell 3 (v := .string xa.s) rfl
      have c4 := (HB.out).cell 4 (v := .slice xa.p xa.l.length xa.c) rfl
      have c5 := (HB.out).cell 5 (v := .int .i64 xb.k) rfl
      have c6 := (HB.out).cell 6 (v := .int .i64 xb.n) rfl
      have c7 := (HB.out).cell 7 (v := .string xb.s) rfl
      have c8 := (HB.out).cell 8 (v := .slice xb.p xb.l.length xb.c) rfl
      have c9 := (HB.out).cell 9 (v := .int .i64 xn) rfl
      clear hB hpA hE h0
      go_wp2_with fail
      refine Hun.out.mono ?_
      rintro e w1 ⟨rfl, g1⟩
      replace g1 : Gr wA w1 := g1
      have gw1 : Gr w w1 := gA.trans g1
      have Hfin := Lib.hid (fun w' (g : Gr w1 w') => HQ.out w' ⟨S, vt, vm, _, σ, ρ, tr, mk, lp, HP.out.gr (gw1.trans g), by rw [HE.out], by omega⟩ (Kp.of_gr (gw1.trans g)))
      clear c0 c1 c2 c3 c4 c5 c6 c7 c8 c9
      have hqv := Hqv.out w1 (HP.out.rs.gr gw1)
      have c9 := (HB.out.gr g1).cell 9 (v := .int .i64 xn) rfl
      go_upto_region 9 with fail
      go_quiet (fail)
      go_wp2_with fail
      exact Hfin.out _ (Gr.drewN (Gr.rfl' _) _)
    · have hd1 : decide ((lp.length : Int) < xn) = false := decide_eq_false h1
      obtain ⟨kk, rfl⟩ : ∃ kk : Nat, xn = (kk : Int) := ⟨xn.toNat, by omega⟩
      have hkk : kk ≤ lp.length := by omega
      have hE := Ht.out.cut (by omega) (by rw [seePrs_length]; omega)
      simp only [Int.toNat_natCast] at hE
      have HE := Lib.hid hE
      -- what Undo does
      have hun : Hid (Calls Try.prog 33 #[.pointer (some ⟨P, 0, none⟩), .int .i64 kk] wA (fun e w1 => e = .returned (.int .i64 0) ∧ Kp (MutA P M vt vm) wA w1 ∧ ∀ w2, Gr w1 w2 → PlayEx B (w2.setCell ⟨Q, 0, none⟩ (.slice p kk kk)) P M Q ((seePrs lp).take kk) (lp.length + 1) ∧ Kp (MutQ P M Q vt vm) wA (w2.setCell ⟨Q, 0, none⟩ (.slice p kk kk)))) := by
        by_cases h2 : kk = lp.length
        · subst h2
          have hu := undo_same hpA.sm
          rw [Hmk.out] at hu
          refine hu.mono ?_
          rintro e w1 ⟨rfl, g1⟩
          replace g1 : Gr wA w1 := g1
          refine ⟨rfl, Kp.of_gr g1, fun w2 g2 => ?_⟩
          have hc := hpA.cut lp.length (Nat.le_refl _) (hpA.sm.gr g1) (Kp.of_gr g1) rfl rfl g2 (by rw [← seePrs_length lp, List.take_length]; exact hpA.hist) rfl
          exact ⟨⟨_, _, _, _, _, _, _, _, _, hc.1, by rw [seePrs_take_all], by rw [List.length_take]; omega⟩, hc.2⟩
        · obtain ⟨σk, ρk, trk, new, b1, b2, b3, b4, b5⟩ := hpA.hist.back kk (by rw [Hmk.out]; omega)
          subst b2
          refine (undo_calls hpA.sm b3 b4 kk (by rw [Hmk.out]; omega) b5).mono ?_
          rintro e w1 ⟨rfl, vt', vm', hsm, k1, et, em⟩
          have k1' : Kp (MutA P M vt vm) wA w1 := k1.mono fun b hb => .inl hb
          refine ⟨rfl, k1', fun w2 g2 => ?_⟩
          have hc := hpA.cut kk (by omega) hsm k1' et em g2 b1 rfl
          exact ⟨⟨_, _, _, _, _, _, _, _, _, hc.1, by rw [seePrs_take_all], by rw [List.length_take]; omega⟩, hc.2⟩
      have c0 := (HB.out).cell 0 (v := .int .i64 1) rfl
      have c1 := (HB.out).cell 1 (v := .int .i64 xa.k) rfl
      have c2 := (HB.out).cell 2 (v := .int .i64 xa.n) rfl
      have c3 := (HB.out).cell 3 (v := .string xa.s) rfl
      have c4 := (HB.out).cell 4 (v := .slice xa.p xa.l.length xa.c) rfl
      have c5 := (HB.out).cell 5 (v := .int .i64 xb.k) rfl
      have c6 := (HB.out).cell 6 (v := .int .i64 xb.n) rfl
      have c7 := (HB.out).cell 7 (v := .string xb.s) rfl
      have c8 := (HB.out).cell 8 (v := .slice xb.p xb.l.length xb.c) rfl
      have c9 := (HB.out).cell 9 (v := .int .i64 kk) rfl
      clear hB hpA hE h0 h1
      go_wp2_with fail
      refine hun.out.mono ?_
      rintro e w1 ⟨rfl, k1, hend⟩
      have Hend := Lib.hid hend
      have HB1 := Lib.hid (HB.out.kp k1 fun hm => by
        have := (HP.out.mut w.heap.size (.inl hm)).2
        omega)
      have Hrs := Lib.hid (HpA.out.rs_kp k1)
      have hqv := Hqv.out w1 Hrs.out
      clear hend c0 c1 c2 c3 c4 c5 c6 c7 c8 c9
      have c9 := (HB1.out).cell 9 (v := .int .i64 kk) rfl
      go_upto_region 9 with fail
      go_quiet (fail)
      go_upto_region 11 with fail
      have gq : Gr w1 (w1.drewN nq) := Gr.drewN (Gr.rfl' _) _
      have zq := Gr.at gq hqv
      have z9 := Gr.at gq c9
      have Gq := Lib.hid gq
      clear hqv c9 gq
      generalize w1.drewN nq = wq at *
      refine wp_region_rely_tail 12 [fx (.pointer (some ⟨Q, 0, none⟩)), fx (.pointer (some ⟨Q, 0, none⟩)), fx (.pointer (some ⟨Q, 0, none⟩)), fx (.pointer (some ⟨Q, 0, none⟩)), fx (.slice p lp.length c), fx (.pointer (some ⟨w.heap.size, 9, none⟩)), fx (.int .i64 kk), fx (.pointer (some ⟨w.heap.size, 9, none⟩)), fx (.int .i64 kk), fx (.slice p kk kk), fx (.pointer (some ⟨Q, 0, none⟩)), fx (.pointer (some ⟨Q, 0, none⟩))]
        (by kernel_rfl) (by kernel_rfl) (by decide) (by repeat (first | exact Stable.nil | refine Stable.fix ?_)) ?_ ?_
      · refine ⟨?_, ?_, ?_, ?_, ?_, ?_, ?_, ?_, ?_, ?_, ?_, ?_, trivial⟩
        all_goals
          intro a wr hg hold
          have h1 : a.tmps[1]?.getD undef = .pointer (some ⟨Q, 0, none⟩) := hold 1 rfl
          have h5 : a.tmps[5]?.getD undef = .pointer (some ⟨w.heap.size, 0, none⟩) := hold 5 rfl
          have zz := Gr.at hg zq
          have z8 := Gr.at hg z9
          have hlc1 := Hlc.out.1
          have hkc : kk ≤ c := Nat.le_trans hkk hlc1
          clear hold zq z9
          simp [predsImp, Region.binds, dstAt, fx]
          intros
          first
            | (rw [if_pos (by simp [*])]
               intro K hK)
            | (rename_i K hK)
          go_simp
        all_goals exact hK _ _ rfl (Gr.rfl' _)
      · intro w9 hg
        rintro _ rfl _ rfl _ rfl _ rfl _ rfl _ rfl _ rfl _ rfl _ rfl _ rfl _ rfl _ rfl
        simp only [finAll, Act.put, List.setIfInBounds_toArray, List.set_cons_succ, List.set_cons_zero, List.drop_succ_cons, List.drop_zero, List.take_zero]
        have g9 : Gr w1 w9 := Gq.out.trans hg
        have hblk := (Hrs.out.gr g9).blk
        have q0 := hblk.cell 0 (v := .slice p lp.length c) rfl
        have qf := hblk.open_ 0
        have Hfin := Lib.hid (Hend.out w9 g9)
        have Hfin2 := Lib.hid (HQ.out _ (by rw [HE.out]; exact Hfin.out.1) ((Kp.of_gr gA).trans Hfin.out.2))
        clear hblk hg zq z9
        go_wp2_with fail
        exact Hfin2.out
set_option maxHeartbeats 2000000 in
set_option maxRecDepth 100000 in
theorem stored2_calls {B : Nat} {w : World} {P M Q : Nat} {S : Nat → Prop} {vt vm vq : Value} {σ : Int → Option T} {ρ : Int → T} {tr mk : List Int} {lp : List Pr} (hp : Play B w P M Q S vt vm vq σ ρ tr mk lp) (xa xb : Tm) (xn : Int) (ia : xa.In w) (ib : xb.In w) (oa : xa.On (· < B)) (ob : xb.On (· < B)) {E' : List (T × T)} (ht : Took (seePrs lp) ⟨2, xa, xb, xn⟩ E') (_ : (lp.length + 1) * 112 ≤ 140737488351232) :
    Calls Try.prog 19 #[.pointer (some ⟨P, 0, none⟩), .pointer (some ⟨Q, 0, none⟩), .agg #[.int .i64 2, .int .i64 xa.k, .int .i64 xa.n, .string xa.s, .slice xa.p xa.l.length xa.c, .int .i64 xb.k, .int .i64 xb.n, .string xb.s, .slice xb.p xb.l.length xb.c, .int .i64 xn]] w (RetStored B P M Q vt vm E' (lp.length + 1) w) := by
  have HP := Lib.hid hp
  have Ia := Lib.hid ia
  have Ib := Lib.hid ib
  have Oa := Lib.hid oa
  have Ob := Lib.hid ob
  have Hmk := Lib.hid hp.lens
  have hPl := hp.sm.blk.lt
  have hQl := hp.rs.blk.lt
  have hQ0 : Hid (∀ w', PlayEx B w' P M Q E' (lp.length + 1) → Kp (MutQ P M Q vt vm) w w' → RetStored B P M Q vt vm E' (lp.length + 1) w (.returned (.bool true)) w') := fun w' h1 h2 => ⟨rfl, h1, h2⟩
  generalize RetStored B P M Q vt vm E' (lp.length + 1) w = R at hQ0 ⊢
  have HQ := hQ0
  have Ht := Lib.hid ht
  clear ht
  clear hp ia ib oa ob hQ0
  go_enter Try.func19, Try.ntmps19
  try simp only [List.append_eq, List.cons_append, List.nil_append]
  go_upto_region 1 with fail
  have hB := BlkT.new w 45 #[.int .i64 2, .int .i64 xa.k, .int .i64 xa.n, .string xa.s, .slice xa.p xa.l.length xa.c, .int .i64 xb.k, .int .i64 xb.n, .string xb.s, .slice xb.p xb.l.length xb.c, .int .i64 xn]
  have gA : Gr w (w.alloc (.cells #[.int .i64 2, .int .i64 xa.k, .int .i64 xa.n, .string xa.s, .slice xa.p xa.l.length xa.c, .int .i64 xb.k, .int .i64 xb.n, .string xb.s, .slice xb.p xb.l.length xb.c, .int .i64 xn] 45)) := by go_grown
  generalize w.alloc (.cells #[.int .i64 2, .int .i64 xa.k, .int .i64 xa.n, .string xa.s, .slice xa.p xa.l.length xa.c, .int .i64 xb.k, .int .i64 xb.n, .string xb.s, .slice xb.p xb.l.length xb.c, .int .i64 xn] 45) = wA at *
  have hpA := HP.out.gr gA
  have hsz : w.heap.size < wA.heap.size := hB.lt
  have HB := Lib.hid hB
  have Hre := Lib.hid (show Calls Try.prog 29 #[.pointer (some ⟨P, 0, none⟩), .agg #[.int .i64 xa.k, .int .i64 xa.n, .string xa.s, .slice xa.p xa.l.length xa.c]] wA (RetRes S xa.erase (T.map ρ xa.erase) wA) from resolve_calls hpA.sm hpA.ok xa (Tm.In_below gA Ia.out) (Oa.out.mono HP.out.low))
  have Hfa := Lib.hid (fun (W : World) (g : Gr w W) => show Calls Try.prog 34 #[.agg #[.int .i64 xa.k, .int .i64 xa.n, .string xa.s, .slice xa.p xa.l.length xa.c]] W (Ret (.bool xa.erase.formed) W) from rformed_calls (t := xa) (Tm.In_below g Ia.out))
  have c0 := (HB.out).cell 0 (v := .int .i64 2) rfl
  have c1 := (HB.out).cell 1 (v := .int .i64 xa.k) rfl
  have c2 := (HB.out).cell 2 (v := .int .i64 xa.n) rfl
  have c3 := (HB.out).cell 3 (v := .string xa.s) rfl
  have c4 := (HB.out).cell 4 (v := .slice xa.p xa.l.length xa.c) rfl
  have c5 := (HB.out).cell 5 (v := .int .i64 xb.k) rfl
  have c6 := (HB.out).cell 6 (v := .int .i64 xb.n) rfl
  have c7 := (HB.out).cell 7 (v := .string xb.s) rfl
  have c8 := (HB.out).cell 8 (v := .slice xb.p xb.l.length xb.c) rfl
  have c9 := (HB.out).cell 9 (v := .int .i64 xn) rfl
  have HpA := Lib.hid hpA
  have hfin : Hid (E' = seePrs lp → ∀ w', Gr w w' → R (.returned (.bool true)) w') := fun hE w' g => HQ.out w' ⟨S, vt, vm, vq, σ, ρ, tr, mk, lp, HP.out.gr g, by rw [hE], by omega⟩ (Kp.of_gr g)
  cases hfa : xa.erase.formed with
  | false =>
    rw [hfa] at Hfa
    have Hfin := Lib.hid (hfin.out (Ht.out.noslim hfa))
    have Hnf := Lib.hid hfa
    clear hfa hB hpA hfin
    go_wp2_with fail
    refine Hre.out.mono ?_
    rintro e w1 ⟨g1, ⟨-, rfl⟩ | ⟨hbad, -⟩⟩
    · have gw1 : Gr w w1 := gA.trans g1
      clear c0 c1 c2 c3 c4 c5 c6 c7 c8 c9
      rw [show zeroTm.val = .agg #[.int .i64 0, .int .i64 0, .string ⟨#[]⟩, .slice none 0 0] from rfl]
      go_upto_region 15 with fail
      have hT := BlkT.new w1 27 #[.int .i64 0, .int .i64 0, .string ⟨#[]⟩, .slice none 0 0]
      have gT : Gr w1 (w1.alloc (.cells #[.int .i64 0, .int .i64 0, .string ⟨#[]⟩, .slice none 0 0] 27)) := by go_grown
      generalize w1.alloc (.cells #[.int .i64 0, .int .i64 0, .string ⟨#[]⟩, .slice none 0 0] 27) = wT at *
      have gwT : Gr w wT := gw1.trans gT
      have HT := Lib.hid hT
      have c1 := (HB.out.gr (g1.trans gT)).cell 1 (v := .int .i64 xa.k) rfl
      have c2 := (HB.out.gr (g1.trans gT)).cell 2 (v := .int .i64 xa.n) rfl
      have c3 := (HB.out.gr (g1.trans gT)).cell 3 (v := .string xa.s) rfl
      have c4 := (HB.out.gr (g1.trans gT)).cell 4 (v := .slice xa.p xa.l.length xa.c) rfl
      clear hT
      go_wp2_with fail
      refine (Hfa.out wT gwT).mono ?_
      rintro e w2 ⟨rfl, g2⟩
      replace g2 : Gr wT w2 := g2
      have t0 := (HT.out.gr g2).cell 0 (v := .int .i64 0) rfl
      have t1 := (HT.out.gr g2).cell 1 (v := .int .i64 0) rfl
      have t2 := (HT.out.gr g2).cell 2 (v := .string ⟨#[]⟩) rfl
      have t3 := (HT.out.gr g2).cell 3 (v := .slice none 0 0) rfl
      have Hno := Lib.hid (fun W => show Calls Try.prog 84 #[.agg #[.int .i64 0, .int .i64 0, .string ⟨#[]⟩, .slice none 0 0]] W (Ret (.bool true) W) from none_calls (t := zeroTm) (by rw [zeroTm, Tm.erase, Tm.eraseL, zeroT, ByteArray.toList_mk]) W)
      clear c1 c2 c3 c4
      go_wp2_with fail
      refine (Hno.out _).mono ?_
      rintro e w3 ⟨rfl, g3⟩
      replace g3 : Gr w2 w3 := g3
      have Hf := Lib.hid (Hfin.out w3 ((gwT.trans g2).trans g3))
      clear t0 t1 t2 t3
      go_wp2_with fail
      exact Hf.out
    · rw [Hnf.out] at hbad
      cases hbad
  | true =>
    rw [hfa] at Hfa
    obtain ⟨hslim, hE⟩ := Ht.out.slim hfa
    have Hfin := Lib.hid (hfin.out hE)
    have Hnf := Lib.hid hfa
    have Hsl := Lib.hid (hslim ρ HP.out.done)
    clear hfa hB hpA hfin hslim hE
    go_wp2_with fail
    refine Hre.out.mono ?_
    rintro e w1 ⟨g1, ⟨hbad, -⟩ | ⟨-, u, rfl, iu, eu, ou⟩⟩
    · rw [Hnf.out] at hbad
      cases hbad
    · have gw1 : Gr w w1 := gA.trans g1
      have Huv := Lib.hid (show u.val = .agg #[.int .i64 u.k, .int .i64 u.n, .string u.s, .slice u.p u.l.length u.c] from rfl)
      rw [Huv.out]
      clear ou c0 c1 c2 c3 c4 c5 c6 c7 c8 c9
      go_upto_region 15 with fail
      have hT := BlkT.new w1 27 #[.int .i64 u.k, .int .i64 u.n, .string u.s, .slice u.p u.l.length u.c]
      have gT : Gr w1 (w1.alloc (.cells #[.int .i64 u.k, .int .i64 u.n, .string u.s, .slice u.p u.l.length u.c] 27)) := by go_grown
      generalize w1.alloc (.cells #[.int .i64 u.k, .int .i64 u.n, .string u.s, .slice u.p u.l.length u.c] 27) = wT at *
      have Iu := Lib.hid (Tm.In_below gT iu)
      generalize w1.heap.size = BT at *
      have gwT : Gr w wT := gw1.trans gT
      have HT := Lib.hid hT
      have c1 := (HB.out.gr (g1.trans gT)).cell 1 (v := .int .i64 xa.k) rfl
      have c2 := (HB.out.gr (g1.trans gT)).cell 2 (v := .int .i64 xa.n) rfl
      have c3 := (HB.out.gr (g1.trans gT)).cell 3 (v := .string xa.s) rfl
      have c4 := (HB.out.gr (g1.trans gT)).cell 4 (v := .slice xa.p xa.l.length xa.c) rfl
      clear hT iu
      go_wp2_with fail
      refine (Hfa.out wT gwT).mono ?_
      rintro e w2 ⟨rfl, g2⟩
      replace g2 : Gr wT w2 := g2
      have gw2 : Gr w w2 := gwT.trans g2
      have t0 := (HT.out.gr g2).cell 0 (v := .int .i64 u.k) rfl
      have t1 := (HT.out.gr g2).cell 1 (v := .int .i64 u.n) rfl
      have t2 := (HT.out.gr g2).cell 2 (v := .string u.s) rfl
      have t3 := (HT.out.gr g2).cell 3 (v := .slice u.p u.l.length u.c) rfl
      clear c1 c2 c3 c4
      have c1 := (HB.out.gr ((g1.trans gT).trans g2)).cell 1 (v := .int .i64 xa.k) rfl
      have c2 := (HB.out.gr ((g1.trans gT).trans g2)).cell 2 (v := .int .i64 xa.n) rfl
      have c3 := (HB.out.gr ((g1.trans gT).trans g2)).cell 3 (v := .string xa.s) rfl
      have c4 := (HB.out.gr ((g1.trans gT).trans g2)).cell 4 (v := .slice xa.p xa.l.length xa.c) rfl
      have Iu2 := Lib.hid (Tm.In_below g2 Iu.out)
      go_upto_region 17 with fail
      refine wp_region_rely [fx (.int .i64 0), fx (.bool true), fx (.bool true), fx (.agg #[.int .i64 u.k, .int .i64 u.n, .string u.s, .slice u.p u.l.length u.c]), fx (.pointer (some ⟨Q, 0, none⟩)), fx (.pointer (some ⟨w.heap.size, 1, none⟩)), fx (.agg #[.int .i64 xa.k, .int .i64 xa.n, .string xa.s, .slice xa.p xa.l.length xa.c]), tmIs (fun _ => True) (T.map ρ xa.erase), fx (.bool true), fx (.bool true), fx (.bool true)]
        (by kernel_rfl) (by kernel_rfl) (by repeat (first | exact Stable.nil | refine Stable.fix ?_ | refine Stable.cons tmIs_stable ?_)) ?_ ?_
      · refine ⟨?_, ?_, ?_, ?_, ?_, ?_, ?_, ?a7, ?a8, ?_, ?_, trivial⟩
        all_goals
          intro a wr hg hold
          have h1 : a.tmps[1]?.getD undef = .pointer (some ⟨Q, 0, none⟩) := hold 1 rfl
          have h5 : a.tmps[5]?.getD undef = .pointer (some ⟨w.heap.size, 0, none⟩) := hold 5 rfl
          have h10 : a.tmps[10]?.getD undef = .pointer (some ⟨BT, 0, none⟩) := hold 10 rfl
          have h11 : a.tmps[11]?.getD undef = .int .i64 0 := hold 11 rfl
          have z0 := Gr.at hg t0
          have z1 := Gr.at hg t1
          have z2 := Gr.at hg t2
          have z3 := Gr.at hg t3
          have y1 := Gr.at hg c1
          have y2 := Gr.at hg c2
          have y3 := Gr.at hg c3
          have y4 := Gr.at hg c4
          have Hg := Lib.hid hg
          clear hold t0 t1 t2 t3 c1 c2 c3 c4
          simp [predsImp, Region.binds, dstAt, fx, wantedE, Act.eval]
          intros
          first
            | (rw [if_pos (by simp [*])]
               intro K hK)
            | (rename_i K hK)
          go_simp
        case a7 =>
          have hrr := rsResolve_calls (HP.out.rs.gr (gw2.trans Hg.out)) HP.out.done xa (Tm.In_below (gw2.trans Hg.out) Ia.out) Hnf.out
          refine (show Calls Try.prog 83 #[.pointer (some ⟨Q, 0, none⟩), .agg #[.int .i64 xa.k, .int .i64 xa.n, .string xa.s, .slice xa.p xa.l.length xa.c]] _ _ from hrr).mono ?_
          rintro e w9 ⟨g9, ⟨-, hfat⟩ | ⟨-, u2, rfl, i2, e2, -⟩⟩
          · exact absurd hfat Hsl.out
          · exact hK _ _ ⟨u2, rfl, i2, e2, (Tm.In.on i2).mono fun _ _ => trivial⟩ g9
        case a8 =>
          obtain ⟨u2, hu2, i2, e2, -⟩ := ‹tmIs (fun _ => True) _ _ _›
          rw [hu2]
          have hsame := same_calls (t := u) (u := u2) (Tm.In_below Hg.out Iu2.out) i2
          rw [e2, eu, (same_iff _ _).2 rfl] at hsame
          refine (show Calls Try.prog 32 #[.agg #[.int .i64 u.k, .int .i64 u.n, .string u.s, .slice u.p u.l.length u.c], u2.val] _ _ from hsame).mono ?_
          rintro e w9 ⟨rfl, g9⟩
          exact hK _ _ rfl g9
        all_goals exact hK _ _ rfl (Gr.rfl' _)
      · intro w9 hg
        rintro _ rfl _ rfl _ rfl _ rfl _ rfl _ rfl _ rfl _ - _ rfl _ rfl _ rfl
        simp only [finAll, Act.put, Exit.then, List.setIfInBounds_toArray, List.set_cons_succ, List.set_cons_zero]
        have Hf := Lib.hid (Hfin.out w9 (gw2.trans hg))
        clear t0 t1 t2 t3 c1 c2 c3 c4 hg
        go_wp2_with fail
        exact Hf.out
set_option maxHeartbeats 2000000 in
set_option maxRecDepth 100000 in
theorem stored3_calls {B : Nat} {w : World} {P M Q : Nat} {S : Nat → Prop} {vt vm vq : Value} {σ : Int → Option T} {ρ : Int → T} {tr mk : List Int} {lp : List Pr} (hp : Play B w P M Q S vt vm vq σ ρ tr mk lp) (x : Stp) (h0 : x.k ≠ 0) (h1 : x.k ≠ 1) (h2 : x.k ≠ 2) {E' : List (T × T)} (ht : Took (seePrs lp) x E') :
    Calls Try.prog 19 #[.pointer (some ⟨P, 0, none⟩), .pointer (some ⟨Q, 0, none⟩), .agg x.arr] w (RetStored B P M Q vt vm E' (lp.length + 1) w) := by
  have HP := Lib.hid hp
  have HE := Lib.hid (ht.other h0 h1 h2)
  have hQ0 : Hid (∀ w', Gr w w' → RetStored B P M Q vt vm E' (lp.length + 1) w (.returned (.bool true)) w') := fun w' g => ⟨rfl, ⟨S, vt, vm, vq, σ, ρ, tr, mk, lp, HP.out.gr g, by rw [HE.out], by omega⟩, Kp.of_gr g⟩
  generalize RetStored B P M Q vt vm E' (lp.length + 1) w = R at hQ0 ⊢
  have HQ := hQ0
  obtain ⟨k, xa, xb, n⟩ := x
  simp only [Stp.arr] at *
  have e0 : (k == 0) = false := beq_eq_false_iff_ne.2 h0
  have e1 : (k == 1) = false := beq_eq_false_iff_ne.2 h1
  have e2 : (k == 2) = false := beq_eq_false_iff_ne.2 h2
  clear hp ht hQ0 h0 h1 h2
  go_enter Try.func19, Try.ntmps19
  try simp only [List.append_eq, List.cons_append, List.nil_append]
  go_wp2_with fail
  exact HQ.out _ (by go_grown)

/-- One step of both stores. -/
theorem stored_calls {B : Nat} {w : World} {P M Q : Nat} {S : Nat → Prop} {vt vm vq : Value} {σ : Int → Option T} {ρ : Int → T} {tr mk : List Int} {lp : List Pr} (hp : Play B w P M Q S vt vm vq σ ρ tr mk lp) (x : Stp) (hx : x.In w) (oa : x.a.On (· < B)) (ob : x.b.On (· < B)) {E' : List (T × T)} (ht : Took (seePrs lp) x E') (hl : (lp.length + 1) * 112 ≤ 140737488351232) :
    Calls Try.prog 19 #[.pointer (some ⟨P, 0, none⟩), .pointer (some ⟨Q, 0, none⟩), .agg x.arr] w (RetStored B P M Q vt vm E' (lp.length + 1) w) := by
  obtain ⟨k, xa, xb, n⟩ := x
  obtain ⟨ia, ib, -, -⟩ := hx
  by_cases h0 : k = 0
  · subst h0; exact stored0_calls hp xa xb n ia ib oa ob ht hl
  · by_cases h1 : k = 1
    · subst h1; exact stored1_calls hp xa xb n ia ib oa ob ht hl
    · by_cases h2 : k = 2
      · subst h2; exact stored2_calls hp xa xb n ia ib oa ob ht hl
      · exact stored3_calls hp ⟨k, xa, xb, n⟩ h0 h1 h2 ht
end Go.Proofs.Ytmecghjnghhhkaa
