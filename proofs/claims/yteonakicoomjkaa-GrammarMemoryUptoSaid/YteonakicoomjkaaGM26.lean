/-
  grammar.Translate$1
-/
import Derived.Test.YteonakicoomjkaaGM25
namespace Go.Proofs.Yteonakicoomjkaa
open Go.RowKit Go.Lib

def clauseOf (h g : T) : T := compT sNeck [h, g]
/-- What a rule of a grammar is as a clause. -/
def transAns (t u v : T) : Option T :=
  match T.gcall reserved u (varT (behindT (T.varsL [t] []))) (varT (behindT (T.varsL [t] []) + 1)) with
  | none => none
  | some h => match T.goal reserved v (varT (behindT (T.varsL [t] []))) (varT (behindT (T.varsL [t] []) + 1)) (behindT (T.varsL [t] []) + 2) with
    | none => none
    | some (g, _) => some (T.map (swapF 0 (T.varsL [clauseOf h g] [])) (clauseOf h g))

theorem behind_small {t : T} (h : t.formed = true) : 0 ≤ behindT (T.varsL [t] []) ∧ behindT (T.varsL [t] []) ≤ 1099511627777 :=
  behindT_le (fun v hv => by
    have hV : VarsOk (T.varsL [t] []) := VarsOk.varsL _ VarsOk.nil (by rw [T.formedL, T.formedL, h]; rfl)
    have := (hV.2 v hv).2
    omega) (by omega)

/-- What term.Renamed hands back, and what is taken out of it. -/
def renWhole (S : Nat → Prop) (r : Option T) (f : Value → Value → Value) : VP := fun v w =>
  ∃ u, r = some u ∧ ∃ (p : Option Addr) (c : Nat) (b : Tm) (n : Int), v = f (.slice p 1 c) (.int .i64 n) ∧ Tm.Sl w p c [b] ∧ b.erase = u ∧ Tm.SlOn S p [b] ∧ b.Whole w
theorem renWhole_kp {S C : Nat → Prop} {r : Option T} {f : Value → Value → Value} (hS : ∀ b, S b → ¬ C b) : ∀ v w w', renWhole S r f v w → Kp C w w' → renWhole S r f v w' := by
  rintro v w w' ⟨u, hu, p, c, b, n, rfl, hsl, he, hon, hw⟩ hk
  obtain ⟨h1, h2⟩ := hon
  rw [Tm.OnL, Tm.OnL] at h2
  have hb : b.In w := Tm.InL_mem hsl.2.2.2 b (by simp)
  refine ⟨u, hu, p, c, b, n, rfl, ?_, he, ⟨h1, by rw [Tm.OnL, Tm.OnL]; exact h2⟩, whole_kp hw hb h2.1 hS hk⟩
  have := slIs_kp (S := S) (C := C) hS (.slice p 1 c) w w' ⟨p, c, [b], rfl, hsl, rfl, h1, by rw [Tm.OnL, Tm.OnL]; exact h2⟩ hk
  refine ⟨hsl.1, hsl.2.1, ?_, Tm.InL_of fun x hx => by rw [List.mem_singleton] at hx; subst hx; exact in_kp hb h2.1 hS hk⟩
  rcases hsl.2.2.1 with h3 | ⟨b', o, hp, hr⟩
  · cases h3
  · rcases h1 with h4 | ⟨b2, o2, hp2, hS2⟩
    · cases h4
    · rw [hp] at hp2
      cases hp2
      have hlt : b' < w.heap.size := Tm.row_lt hr (by simp)
      exact .inr ⟨b', o, hp, Tm.row_mono hr fun o' => World.cell?_of_block (hk.block b' hlt (hS b' hS2))⟩
def isNum : VP := fun v _ => ∃ n : Int, v = .int .i64 n

set_option maxHeartbeats 8000000 in
set_option maxRecDepth 100000 in
theorem trans1_calls (t u v : Tm) (B : Nat) (w : World) (hin : t.In w) (hf : t.erase.formed = true) (hl : t.l = [u, v]) (hB : Blk4 w B (.int .i64 t.k) (.int .i64 t.n) (.string t.s) (.slice t.p t.l.length t.c)) (hsz : t.erase.size ≤ 1048576) :
    Calls Try.prog 78 #[.pointer (some ⟨B, 0, none⟩)] w (RetF (transAns t.erase u.erase v.erase) w) := by
  generalize hQ : RetF (transAns t.erase u.erase v.erase) w = Q
  have HQ := Lib.hid hQ
  have H := Lib.hid hin
  have Hf := Lib.hid hf
  have Hl := Lib.hid hl
  have HB := Lib.hid hB
  have Hs2 := Lib.hid (two_formed hl hf)
  have hszs := Hs2.out.2
  have hm0 := behind_small hf
  have HVok : Hid (VarsOkB (T.varsL [t.erase] [])) := VarsOkB.varsL _ VarsOkB.nil (by rw [T.fmdL, T.fmdL, fmd_of hf]; rfl)
  have hAns : transAns t.erase u.erase v.erase = match T.gcall reserved u.erase (varT (behindT (T.varsL [t.erase] []))) (varT (behindT (T.varsL [t.erase] []) + 1)) with
    | none => none
    | some h => match T.goal reserved v.erase (varT (behindT (T.varsL [t.erase] []))) (varT (behindT (T.varsL [t.erase] []) + 1)) (behindT (T.varsL [t.erase] []) + 2) with
      | none => none
      | some (g, _) => some (T.map (swapF 0 (T.varsL [clauseOf h g] [])) (clauseOf h g)) := rfl
  have HAns := Lib.hid hAns
  generalize hm0e : behindT (T.varsL [t.erase] []) = m0 at HAns hm0
  have Hm0e := Lib.hid hm0e
  clear hQ hin hf hl hB hAns hm0e
  have hBl := HB.out.parts.2.2
  go_enter Try.func78, Try.ntmps78
  try simp only [List.append_eq, List.cons_append, List.nil_append]
  go_upto_region 1 with fail
  have hR0 := Blk4.new w (.int .i64 0) (.int .i64 0) (.string ⟨#[]⟩) (.slice none 0 0)
  have gA : Gr w (w.alloc (.cells #[.int .i64 0, .int .i64 0, .string ⟨#[]⟩, .slice none 0 0] 24)) := by go_grown
  have hsA : w.heap.size < (w.alloc (.cells #[.int .i64 0, .int .i64 0, .string ⟨#[]⟩, .slice none 0 0] 24)).heap.size := by simp
  generalize w.alloc (.cells #[.int .i64 0, .int .i64 0, .string ⟨#[]⟩, .slice none 0 0] 24) = wA at *
  have HR := Lib.hid hR0
  have HRl := Lib.hid hsA
  clear hR0 hsA
  obtain ⟨⟨t0, t1, t2, t3⟩, _, _⟩ := (HB.out.gr gA).parts
  go_upto_region 2 with (first
    | (go_at_call 80
       refine (variables_calls _ _ [t] _ (one_new (t := t) (Tm.In_below gA H.out) (Gr.rfl' _)) (fun z hz => by rw [List.mem_singleton] at hz; subst hz; exact fmd_of Hf.out)).mono ?_
       rintro e w2 ⟨vv, rfl, hio, hg⟩
       obtain ⟨pv, cv, rfl⟩ := hio.form
       have hio2 : IntSl w2 pv cv (T.varsL (Tm.eraseL [t]) []) := (hio.sl (by rw [Tm.eraseL, Tm.eraseL]; exact HVok.out.in64)).2
       have HIo := Lib.hid hio2
       have g2 : Gr wA w2 := below_step hg (by go_grown)
       clear hio hio2 hg)
    | (go_at_call 79
       refine (behind_calls _ _ _ _ HIo.out (by rw [Tm.eraseL, Tm.eraseL]; exact HVok.out)).mono ?_
       rintro e w3 ⟨rfl, hg⟩
       rw [show behindT (T.varsL (Tm.eraseL [t]) []) = m0 by rw [Tm.eraseL, Tm.eraseL]; exact Hm0e.out]
       have g3 : Gr wA w3 := Gr.trans g2 hg
       clear hg)
    | fail)
  have hM4 : MakerAt w3.heap.size m0 (w3.alloc (.cells #[.int .i64 m0] 120)) := heap_alloc_new _ _
  have g34 : Gr w3 (w3.alloc (.cells #[.int .i64 m0] 120)) := by go_grown
  have hs34 : w3.heap.size < (w3.alloc (.cells #[.int .i64 m0] 120)).heap.size := by simp
  generalize w3.alloc (.cells #[.int .i64 m0] 120) = w4 at *
  have gA4 : Gr wA w4 := Gr.trans g3 g34
  have hMR : w.heap.size < w3.heap.size := Nat.lt_of_lt_of_le HRl.out g3.size
  generalize w3.heap.size = M at *
  have HM4 := Lib.hid hM4
  clear g3 g34 g2 hM4 t0 t1 t2 t3
  go_upto_region 3 with (first
    | (go_at_call 81
       refine (anew_calls M m0 _ HM4.out ⟨by omega, by omega⟩).mono ?_
       rintro e w5 ⟨rfl, hM5, hK5⟩
       have HM5 := Lib.hid hM5
       have HK5 := Lib.hid hK5
       rewrite [varTm_val]
       clear hM5 hK5)
    | (go_at_call 81
       refine (anew_calls M (m0 + 1) _ HM5.out ⟨by omega, by omega⟩).mono ?_
       rintro e w6 ⟨rfl, hM6, hK6⟩
       have HM6 := Lib.hid hM6
       have HK6 := Lib.hid hK6
       rewrite [varTm_val]
       clear hM6 hK6)
    | fail)
  obtain ⟨HS, HW, g67⟩ := two_blocks w6 (.int .i64 1) (.int .i64 m0) (.string ⟨#[]⟩) (.slice none 0 0) (.int .i64 1) (.int .i64 (m0 + 1)) (.string ⟨#[]⟩) (.slice none 0 0)
  generalize (w6.alloc (.cells #[.int .i64 1, .int .i64 m0, .string ⟨#[]⟩, .slice none 0 0] 24)).alloc (.cells #[.int .i64 1, .int .i64 (m0 + 1), .string ⟨#[]⟩, .slice none 0 0] 24) = w7 at *
  have hsv : w6.heap.size + 1 < w7.heap.size := HW.out.parts.2.2
  have k47 : Kp (· = M) w4 w7 := (HK5.out.trans HK6.out).trans (Kp.of_gr g67)
  have hM46 : M < w6.heap.size := HM6.out.lt
  have gw4 : Gr w w4 := Gr.trans gA gA4
  have kw : Kp (· = M) w w7 := (Kp.of_gr gw4).trans k47
  have HM7 : Hid (MakerAt M (m0 + 2) w7) := by
    have h := HM6.out.gr g67
    rw [show m0 + 1 + 1 = m0 + 2 by omega] at h
    exact h
  have Ht7 := Lib.hid (in_kp (Tm.In_below gw4 H.out) (H.out.on) (fun b hb => by have : b < w.heap.size := hb; omega) k47)
  replace HB := Lib.hid ((HB.out.gr gw4).kp k47 (by omega))
  replace HR := Lib.hid ((HR.out.gr gA4).kp k47 (by omega))
  have hsw : w.heap.size ≤ w7.heap.size := kw.size
  generalize hsB : w6.heap.size = sB at *
  clear hsB g67 gA4 k47 gw4
  obtain ⟨bt, ot, hp, ⟨hui, u0, u1, u2, u3⟩, hvi, v0, v1, v2, v3⟩ := args_two Hl.out Ht7.out
  have hbt : bt < w.heap.size := by
    obtain ⟨bt', ot', hp', ⟨_, u0', _⟩, _⟩ := args_two Hl.out H.out
    rw [hp] at hp'
    cases hp'
    exact World.block_lt_of_cell? _ _ u0'
  have HP := Lib.hid hp
  have Hui := Lib.hid hui
  have Hvi := Lib.hid hvi
  have Huv := Lib.hid (show u.val = .agg #[.int .i64 u.k, .int .i64 u.n, .string u.s, .slice u.p u.l.length u.c] from rfl)
  have Hvv := Lib.hid (show v.val = .agg #[.int .i64 v.k, .int .i64 v.n, .string v.s, .slice v.p v.l.length v.c] from rfl)
  have Hsm := Lib.hid (show (varTm m0).val = .agg #[.int .i64 1, .int .i64 m0, .string ⟨#[]⟩, .slice none 0 0] from rfl)
  have Hrm := Lib.hid (show (varTm (m0 + 1)).val = .agg #[.int .i64 1, .int .i64 (m0 + 1), .string ⟨#[]⟩, .slice none 0 0] from rfl)
  have HuO := Lib.hid (on_maker HM7.out Hui.out)
  have HvO := Lib.hid (on_maker HM7.out Hvi.out)
  have HZ : Hid (∀ b, w7.heap.size ≤ b → ¬ (b = M)) := fun b hb => by omega
  clear hui hvi hp
  obtain ⟨⟨t0, t1, t2, t3⟩, _, _⟩ := HB.out.parts
  obtain ⟨⟨x0, x1, x2, x3⟩, _, _⟩ := HS.out.parts
  obtain ⟨⟨y0, y1, y2, y3⟩, _, _⟩ := HW.out.parts
  rw [HP.out, Hl.out] at t3
  refine wp_region_relyJ 8 [fx (.pointer (some ⟨B, 3, none⟩)), fx (.slice (some ⟨bt, ot, none⟩) 2 t.c), fx (.pointer (some ⟨bt, ot, none⟩)), fx (.agg #[.int .i64 u.k, .int .i64 u.n, .string u.s, .slice u.p u.l.length u.c]), fx (.agg #[.int .i64 1, .int .i64 m0, .string ⟨#[]⟩, .slice none 0 0]), fx (.agg #[.int .i64 1, .int .i64 (m0 + 1), .string ⟨#[]⟩, .slice none 0 0]), okTm (· ≠ M) (T.gcall reserved u.erase (varT m0) (varT (m0 + 1))), zeroBlk w7.heap.size]
    Gr (fun _ _ => True) (by kernel_rfl) (by kernel_rfl) (by decide) (by kernel_rfl) (fun _ _ h => h) (fun _ _ _ h k => Gr.trans h k) (fun _ _ => trivial) (by repeat (first | exact StableR.nil | refine StableR.fix ?_ | refine StableR.cons okTm_gr ?_ | refine StableR.cons (fun v a b h k => zeroBlk_kp (C := fun _ => False) (fun _ _ h => h) v a b h (Kp.of_gr k)) ?_)) ?_ ?_
  · refine ⟨stepJ_plain (fun _ _ h => h) (fun _ _ _ _ _ => trivial) ?_, stepJ_plain (fun _ _ h => h) (fun _ _ _ _ _ => trivial) ?_, stepJ_plain (fun _ _ h => h) (fun _ _ _ _ _ => trivial) ?_, stepJ_plain (fun _ _ h => h) (fun _ _ _ _ _ => trivial) ?_, stepJ_plain (fun _ _ h => h) (fun _ _ _ _ _ => trivial) ?_, stepJ_plain (fun _ _ h => h) (fun _ _ _ _ _ => trivial) ?_, ?a6, stepJ_plain (fun _ _ h => h) (fun _ _ _ _ _ => trivial) ?b7, trivial⟩
    case a6 =>
      intro listed fr wr hj hl hpre hg hdef hold
      have Hdef := Lib.hid hdef
      clear hdef
      have h0 : fr.tmps[0]?.getD undef = .pointer (some ⟨B, 0, none⟩) := hold 0 rfl
      have h3 : fr.tmps[3]?.getD undef = .pointer (some ⟨sB, 0, none⟩) := hold 3 rfl
      have h4 : fr.tmps[4]?.getD undef = .pointer (some ⟨sB + 1, 0, none⟩) := hold 4 rfl
      clear hold
      have t0' := Gr.at hg t0
      have t1' := Gr.at hg t1
      have t2' := Gr.at hg t2
      have t3' := Gr.at hg t3
      have x0' := Gr.at hg x0
      have x1' := Gr.at hg x1
      have x2' := Gr.at hg x2
      have x3' := Gr.at hg x3
      have y0' := Gr.at hg y0
      have y1' := Gr.at hg y1
      have y2' := Gr.at hg y2
      have y3' := Gr.at hg y3
      have u0' := Gr.at hg u0
      have u1' := Gr.at hg u1
      have u2' := Gr.at hg u2
      have u3' := Gr.at hg u3
      have Hg : Hid (Gr w7 wr) := hg
      clear t0 t1 t2 t3 x0 x1 x2 x3 y0 y1 y2 y3 u0 u1 u2 u3
      simp [predsImp, Region.binds, dstAt, fx]
      intros
      rename_i K hK
      go_simp
      rewrite [← Huv.out, ← Hsm.out, ← Hrm.out]
      have hcall := call_calls u (varTm m0) (varTm (m0 + 1)) (· ≠ M) wr (Tm.In_below Hg.out Hui.out) (varTm_in' ⟨by omega, by omega⟩ wr) (varTm_in' ⟨by omega, by omega⟩ wr) HuO.out (varTm_on _) (varTm_on _) (fun c hc => by have := Hg.out.size; omega) Hs2.out.1.1
      rw [varTm_erase, varTm_erase] at hcall
      refine hcall.mono ?_
      rintro e w10 (⟨a1, ha1, bm, hin, he, rfl, hg2, hon⟩ | ⟨ha1, ⟨c9, rfl⟩, hg2⟩)
      · exact hK _ _ ⟨a1, ha1, bm, rfl, hin, he, hon⟩ hg2
      · refine (show bodyPost _ _ _ (.panic _) _ _ from ⟨Hdef.out, ?_⟩)
        rw [← HQ.out, HAns.out, ha1]
        exact .inr ⟨rfl, ⟨_, rfl⟩, Below.trans (kw.below (B := w.heap.size) (fun b hb => by omega) (Nat.le_refl _)) ((Gr.trans Hg.out hg2).mono hsw)⟩
    case b7 =>
      intro fr wr hg hold
      have h0 : fr.tmps[0]?.getD undef = .pointer (some ⟨B, 0, none⟩) := hold 0 rfl
      have h3 : fr.tmps[3]?.getD undef = .pointer (some ⟨sB, 0, none⟩) := hold 3 rfl
      have h4 : fr.tmps[4]?.getD undef = .pointer (some ⟨sB + 1, 0, none⟩) := hold 4 rfl
      clear hold
      have t0' := Gr.at hg t0
      have t1' := Gr.at hg t1
      have t2' := Gr.at hg t2
      have t3' := Gr.at hg t3
      have x0' := Gr.at hg x0
      have x1' := Gr.at hg x1
      have x2' := Gr.at hg x2
      have x3' := Gr.at hg x3
      have y0' := Gr.at hg y0
      have y1' := Gr.at hg y1
      have y2' := Gr.at hg y2
      have y3' := Gr.at hg y3
      have u0' := Gr.at hg u0
      have u1' := Gr.at hg u1
      have u2' := Gr.at hg u2
      have u3' := Gr.at hg u3
      have Hg : Hid (Gr w7 wr) := hg
      clear t0 t1 t2 t3 x0 x1 x2 x3 y0 y1 y2 y3 u0 u1 u2 u3
      simp [predsImp]
      intro K hK
      go_simp
      exact hK _ _ ⟨_, rfl, hg.size, Blk4.new _ _ _ _ _⟩ (by go_grown)
    all_goals
      intro fr wr hg hold
      have h0 : fr.tmps[0]?.getD undef = .pointer (some ⟨B, 0, none⟩) := hold 0 rfl
      have h3 : fr.tmps[3]?.getD undef = .pointer (some ⟨sB, 0, none⟩) := hold 3 rfl
      have h4 : fr.tmps[4]?.getD undef = .pointer (some ⟨sB + 1, 0, none⟩) := hold 4 rfl
      clear hold
      have t0' := Gr.at hg t0
      have t1' := Gr.at hg t1
      have t2' := Gr.at hg t2
      have t3' := Gr.at hg t3
      have x0' := Gr.at hg x0
      have x1' := Gr.at hg x1
      have x2' := Gr.at hg x2
      have x3' := Gr.at hg x3
      have y0' := Gr.at hg y0
      have y1' := Gr.at hg y1
      have y2' := Gr.at hg y2
      have y3' := Gr.at hg y3
      have u0' := Gr.at hg u0
      have u1' := Gr.at hg u1
      have u2' := Gr.at hg u2
      have u3' := Gr.at hg u3
      have Hg : Hid (Gr w7 wr) := hg
      clear t0 t1 t2 t3 x0 x1 x2 x3 y0 y1 y2 y3 u0 u1 u2 u3
      simp [predsImp, Region.binds, dstAt, fx]
      intros
      rename_i K hK
      go_simp
    all_goals exact hK _ _ rfl (Gr.rfl' _)
  · intro w9 hg _
    rintro _ rfl _ rfl _ rfl _ rfl _ rfl _ rfl v6 ⟨h1, hh1, bm, rfl, hin, he, hon⟩ v7 ⟨B5, rfl, hB5, hz⟩
    have hg9 : Gr w7 w9 := hg
    have hfd : h1.fmd = true := gcall_fmd Hs2.out.1.1 (varT_fmd ⟨by omega, by omega⟩) (varT_fmd ⟨by omega, by omega⟩) hh1
    have hbO : bm.On (· ≠ B5) := on_zero hz hin (by rw [he]; exact hfd)
    have HG1 := Lib.hid hh1
    have HE := Lib.hid he
    have HFd := Lib.hid hfd
    have hBM : B5 ≠ M ∧ B5 ≠ B ∧ B5 ≠ sB ∧ B5 ≠ sB + 1 ∧ bt ≠ B5 ∧ B5 ≠ w.heap.size ∧ w.heap.size ≤ B5 := by omega
    obtain ⟨hBM1, hBM2, hBM3, hBM4, hBM5, hBM6, hBM7⟩ := hBM
    have hsz9 := hg9.size
    replace kw := kw.trans (Kp.of_gr hg9)
    replace HB := Lib.hid (HB.out.gr hg9)
    replace HR := Lib.hid (HR.out.gr hg9)
    replace HS := Lib.hid (HS.out.gr hg9)
    replace HW := Lib.hid (HW.out.gr hg9)
    have HvO3 := Lib.hid Hvi.out.on
    replace Hvi := Lib.hid (Tm.In_below hg9 Hvi.out)
    replace v0 := Gr.at hg9 v0
    replace v1 := Gr.at hg9 v1
    replace v2 := Gr.at hg9 v2
    replace v3 := Gr.at hg9 v3
    have Hin := Lib.hid hin
    have Hbv := Lib.hid (show bm.val = .agg #[.int .i64 bm.k, .int .i64 bm.n, .string bm.s, .slice bm.p bm.l.length bm.c] from rfl)
    have HM9 := Lib.hid (HM7.out.gr hg9)
    obtain ⟨⟨r0, r1, r2, r3⟩, ⟨f0, f1, f2, f3⟩, hlt⟩ := hz.parts
    have HZb := Lib.hid hz
    clear hin he hon hg hh1 hz hfd t0 t1 t2 t3 x0 x1 x2 x3 y0 y1 y2 y3 u0 u1 u2 u3
    rw [Hbv.out]
    simp only [finAll, Act.put, List.setIfInBounds_toArray, List.set_cons_succ, List.set_cons_zero, List.drop_succ_cons, List.drop_zero, List.take_zero]
    go_upto_region 4 with fail
    have kB : Kp (· = B5) w9 ((((w9.setCell ⟨B5, 0, none⟩ (.int .i64 bm.k)).setCell ⟨B5, 1, none⟩ (.int .i64 bm.n)).setCell ⟨B5, 2, none⟩ (.string bm.s)).setCell ⟨B5, 3, none⟩ (.slice bm.p bm.l.length bm.c)) := Kp.set4 (C := fun b => b = B5) rfl
    have hBb := blk4_set4 HZb.out (.int .i64 bm.k) (.int .i64 bm.n) (.string bm.s) (.slice bm.p bm.l.length bm.c)
    generalize ((((w9.setCell ⟨B5, 0, none⟩ (.int .i64 bm.k)).setCell ⟨B5, 1, none⟩ (.int .i64 bm.n)).setCell ⟨B5, 2, none⟩ (.string bm.s)).setCell ⟨B5, 3, none⟩ (.slice bm.p bm.l.length bm.c)) = wB at *
    have kwB : Kp (· = M) w wB := ((kw.mono (C' := fun b => b = M ∨ b = B5) fun _ h => .inl h).trans (kB.mono fun _ h => .inr h)).weaken fun b hb hc => hc.resolve_right (by omega)
    have HMB := Lib.hid (HM9.out.kp kB (by omega))
    have HbmB := Lib.hid (in_kp Hin.out hbO (fun _ h => h) kB)
    have HvB := Lib.hid (in_kp Hvi.out HvO3.out (fun b hb => (by have : b < w7.heap.size := hb; omega)) kB)
    replace HB := Lib.hid (HB.out.kp kB (by omega))
    replace HR := Lib.hid (HR.out.kp kB (by omega))
    replace HS := Lib.hid (HS.out.kp kB (by omega))
    replace HW := Lib.hid (HW.out.kp kB (by omega))
    have HBk := Lib.hid hBb
    have HbO2 := Lib.hid (on_maker HMB.out HbmB.out)
    replace v0 := Kp.cell kB v0 (show ¬ (bt = B5) from hBM5)
    replace v1 := Kp.cell kB v1 (show ¬ (bt = B5) from hBM5)
    replace v2 := Kp.cell kB v2 (show ¬ (bt = B5) from hBM5)
    replace v3 := Kp.cell kB v3 (show ¬ (bt = B5) from hBM5)
    have hsB2 := kB.size
    have hlB : w7.heap.size ≤ wB.heap.size := Nat.le_trans hsz9 hsB2
    clear kB hBb r0 r1 r2 r3 f0 f1 f2 f3 hlt hbO HZ
    obtain ⟨⟨t0, t1, t2, t3⟩, _, _⟩ := HB.out.parts
    obtain ⟨⟨x0, x1, x2, x3⟩, _, _⟩ := HS.out.parts
    obtain ⟨⟨y0, y1, y2, y3⟩, _, _⟩ := HW.out.parts
    obtain ⟨⟨r0, r1, r2, r3⟩, _, _⟩ := HBk.out.parts
    rw [HP.out, Hl.out] at t3
    refine wp_region_relyJ 18 [fx (.agg #[.int .i64 bm.k, .int .i64 bm.n, .string bm.s, .slice bm.p bm.l.length bm.c]), fx (.pointer (some ⟨M, 0, none⟩)), fx (.pointer (some ⟨B, 3, none⟩)), fx (.slice (some ⟨bt, ot, none⟩) 2 t.c), fx (.pointer (some ⟨bt, ot + 4, none⟩)), fx (.agg #[.int .i64 v.k, .int .i64 v.n, .string v.s, .slice v.p v.l.length v.c]), fx (.agg #[.int .i64 1, .int .i64 m0, .string ⟨#[]⟩, .slice none 0 0]), fx (.agg #[.int .i64 1, .int .i64 (m0 + 1), .string ⟨#[]⟩, .slice none 0 0]), okTm (· ≠ M) ((T.goal reserved v.erase (varT m0) (varT (m0 + 1)) (m0 + 2)).map Prod.fst), okSl (· ≠ M) ((T.goal reserved v.erase (varT m0) (varT (m0 + 1)) (m0 + 2)).map fun r => [h1, r.1]), okTm (· ≠ M) ((T.goal reserved v.erase (varT m0) (varT (m0 + 1)) (m0 + 2)).map fun r => clauseOf h1 r.1), okSl (· ≠ M) ((T.goal reserved v.erase (varT m0) (varT (m0 + 1)) (m0 + 2)).map fun r => [clauseOf h1 r.1]), renWhole (fun b => w.heap.size ≤ b ∧ b ≠ M ∧ b ≠ w.heap.size) ((T.goal reserved v.erase (varT m0) (varT (m0 + 1)) (m0 + 2)).map fun r => T.map (swapF 0 (T.varsL [clauseOf h1 r.1] [])) (clauseOf h1 r.1)) (fun a b => .tuple #[a, b]), renWhole (fun b => w.heap.size ≤ b ∧ b ≠ M ∧ b ≠ w.heap.size) ((T.goal reserved v.erase (varT m0) (varT (m0 + 1)) (m0 + 2)).map fun r => T.map (swapF 0 (T.varsL [clauseOf h1 r.1] [])) (clauseOf h1 r.1)) (fun a b => .tuple #[a, b]), renWhole (fun b => w.heap.size ≤ b ∧ b ≠ M ∧ b ≠ w.heap.size) ((T.goal reserved v.erase (varT m0) (varT (m0 + 1)) (m0 + 2)).map fun r => T.map (swapF 0 (T.varsL [clauseOf h1 r.1] [])) (clauseOf h1 r.1)) (fun a _ => a), isNum, renWhole (fun b => w.heap.size ≤ b ∧ b ≠ M ∧ b ≠ w.heap.size) ((T.goal reserved v.erase (varT m0) (varT (m0 + 1)) (m0 + 2)).map fun r => T.map (swapF 0 (T.varsL [clauseOf h1 r.1] [])) (clauseOf h1 r.1)) (fun a _ => a), isNum]
      (fun w w' => Kp (· = M) w w') (JG 8 (MakerAt M (m0 + 2)) (fun w' => ∃ u' m', T.goal reserved v.erase (varT m0) (varT (m0 + 1)) (m0 + 2) = some (u', m') ∧ MakerAt M m' w')) (by kernel_rfl) (by kernel_rfl) (by decide) (by kernel_rfl) (fun _ _ h => Kp.of_gr h) (fun _ _ _ h k => Kp.trans h k) (fun _ hg => JG.start (HMB.out.gr hg)) (by repeat (first | exact StableR.nil | refine StableR.fix ?_ | refine StableR.cons (okTm_kp (fun _ h => h)) ?_ | refine StableR.cons (okSl_kp (fun _ h => h)) ?_ | refine StableR.cons (renWhole_kp (fun _ h => h.2.1)) ?_ | refine StableR.cons (fun _ _ _ h _ => h) ?_)) ?_ ?_
    · refine ⟨stepJ_plain (fun _ _ h => Kp.of_gr h) (fun _ _ _ hj hg => JG.other (by decide : 0 ≠ 8) (fun h => MakerAt.gr h hg) (fun ⟨u', m', h1, h2⟩ => ⟨u', m', h1, h2.gr hg⟩) hj) ?_, stepJ_plain (fun _ _ h => Kp.of_gr h) (fun _ _ _ hj hg => JG.other (by decide : 1 ≠ 8) (fun h => MakerAt.gr h hg) (fun ⟨u', m', h1, h2⟩ => ⟨u', m', h1, h2.gr hg⟩) hj) ?_, stepJ_plain (fun _ _ h => Kp.of_gr h) (fun _ _ _ hj hg => JG.other (by decide : 2 ≠ 8) (fun h => MakerAt.gr h hg) (fun ⟨u', m', h1, h2⟩ => ⟨u', m', h1, h2.gr hg⟩) hj) ?_, stepJ_plain (fun _ _ h => Kp.of_gr h) (fun _ _ _ hj hg => JG.other (by decide : 3 ≠ 8) (fun h => MakerAt.gr h hg) (fun ⟨u', m', h1, h2⟩ => ⟨u', m', h1, h2.gr hg⟩) hj) ?_, stepJ_plain (fun _ _ h => Kp.of_gr h) (fun _ _ _ hj hg => JG.other (by decide : 4 ≠ 8) (fun h => MakerAt.gr h hg) (fun ⟨u', m', h1, h2⟩ => ⟨u', m', h1, h2.gr hg⟩) hj) ?_, stepJ_plain (fun _ _ h => Kp.of_gr h) (fun _ _ _ hj hg => JG.other (by decide : 5 ≠ 8) (fun h => MakerAt.gr h hg) (fun ⟨u', m', h1, h2⟩ => ⟨u', m', h1, h2.gr hg⟩) hj) ?_, stepJ_plain (fun _ _ h => Kp.of_gr h) (fun _ _ _ hj hg => JG.other (by decide : 6 ≠ 8) (fun h => MakerAt.gr h hg) (fun ⟨u', m', h1, h2⟩ => ⟨u', m', h1, h2.gr hg⟩) hj) ?_, stepJ_plain (fun _ _ h => Kp.of_gr h) (fun _ _ _ hj hg => JG.other (by decide : 7 ≠ 8) (fun h => MakerAt.gr h hg) (fun ⟨u', m', h1, h2⟩ => ⟨u', m', h1, h2.gr hg⟩) hj) ?_, ?a8, stepJ_plain (fun _ _ h => Kp.of_gr h) (fun _ _ _ hj hg => JG.other (by decide : 9 ≠ 8) (fun h => MakerAt.gr h hg) (fun ⟨u', m', h1, h2⟩ => ⟨u', m', h1, h2.gr hg⟩) hj) ?b9, stepJ_plain (fun _ _ h => Kp.of_gr h) (fun _ _ _ hj hg => JG.other (by decide : 10 ≠ 8) (fun h => MakerAt.gr h hg) (fun ⟨u', m', h1, h2⟩ => ⟨u', m', h1, h2.gr hg⟩) hj) ?b10, stepJ_plain (fun _ _ h => Kp.of_gr h) (fun _ _ _ hj hg => JG.other (by decide : 11 ≠ 8) (fun h => MakerAt.gr h hg) (fun ⟨u', m', h1, h2⟩ => ⟨u', m', h1, h2.gr hg⟩) hj) ?b11, stepJ_plain (fun _ _ h => Kp.of_gr h) (fun _ _ _ hj hg => JG.other (by decide : 12 ≠ 8) (fun h => MakerAt.gr h hg) (fun ⟨u', m', h1, h2⟩ => ⟨u', m', h1, h2.gr hg⟩) hj) ?b12, stepJ_plain (fun _ _ h => Kp.of_gr h) (fun _ _ _ hj hg => JG.other (by decide : 13 ≠ 8) (fun h => MakerAt.gr h hg) (fun ⟨u', m', h1, h2⟩ => ⟨u', m', h1, h2.gr hg⟩) hj) ?b13, stepJ_plain (fun _ _ h => Kp.of_gr h) (fun _ _ _ hj hg => JG.other (by decide : 14 ≠ 8) (fun h => MakerAt.gr h hg) (fun ⟨u', m', h1, h2⟩ => ⟨u', m', h1, h2.gr hg⟩) hj) ?b14, stepJ_plain (fun _ _ h => Kp.of_gr h) (fun _ _ _ hj hg => JG.other (by decide : 15 ≠ 8) (fun h => MakerAt.gr h hg) (fun ⟨u', m', h1, h2⟩ => ⟨u', m', h1, h2.gr hg⟩) hj) ?b15, stepJ_plain (fun _ _ h => Kp.of_gr h) (fun _ _ _ hj hg => JG.other (by decide : 16 ≠ 8) (fun h => MakerAt.gr h hg) (fun ⟨u', m', h1, h2⟩ => ⟨u', m', h1, h2.gr hg⟩) hj) ?b16, stepJ_plain (fun _ _ h => Kp.of_gr h) (fun _ _ _ hj hg => JG.other (by decide : 17 ≠ 8) (fun h => MakerAt.gr h hg) (fun ⟨u', m', h1, h2⟩ => ⟨u', m', h1, h2.gr hg⟩) hj) ?b17, trivial⟩
      case a8 =>
        intro listed fr wr hj hl hpre hg hdef hold
        have Hdef := Lib.hid hdef
        clear hdef
        have h0 : fr.tmps[0]?.getD undef = .pointer (some ⟨B, 0, none⟩) := hold 0 rfl
        have h2 : fr.tmps[2]?.getD undef = .pointer (some ⟨M, 0, none⟩) := hold 2 rfl
        have h3 : fr.tmps[3]?.getD undef = .pointer (some ⟨sB, 0, none⟩) := hold 3 rfl
        have h4 : fr.tmps[4]?.getD undef = .pointer (some ⟨sB + 1, 0, none⟩) := hold 4 rfl
        have h5 : fr.tmps[5]?.getD undef = .pointer (some ⟨B5, 0, none⟩) := hold 5 rfl
        clear hold
        have t0' := Kp.cell hg t0 (show ¬ (B = M) by omega)
        have t1' := Kp.cell hg t1 (show ¬ (B = M) by omega)
        have t2' := Kp.cell hg t2 (show ¬ (B = M) by omega)
        have t3' := Kp.cell hg t3 (show ¬ (B = M) by omega)
        have x0' := Kp.cell hg x0 (show ¬ (sB = M) by omega)
        have x1' := Kp.cell hg x1 (show ¬ (sB = M) by omega)
        have x2' := Kp.cell hg x2 (show ¬ (sB = M) by omega)
        have x3' := Kp.cell hg x3 (show ¬ (sB = M) by omega)
        have y0' := Kp.cell hg y0 (show ¬ (sB + 1 = M) by omega)
        have y1' := Kp.cell hg y1 (show ¬ (sB + 1 = M) by omega)
        have y2' := Kp.cell hg y2 (show ¬ (sB + 1 = M) by omega)
        have y3' := Kp.cell hg y3 (show ¬ (sB + 1 = M) by omega)
        have r0' := Kp.cell hg r0 (show ¬ (B5 = M) by omega)
        have r1' := Kp.cell hg r1 (show ¬ (B5 = M) by omega)
        have r2' := Kp.cell hg r2 (show ¬ (B5 = M) by omega)
        have r3' := Kp.cell hg r3 (show ¬ (B5 = M) by omega)
        have v0' := Kp.cell hg v0 (show ¬ (bt = M) by omega)
        have v1' := Kp.cell hg v1 (show ¬ (bt = M) by omega)
        have v2' := Kp.cell hg v2 (show ¬ (bt = M) by omega)
        have v3' := Kp.cell hg v3 (show ¬ (bt = M) by omega)
        have Kr : Hid (Kp (· = M) w wr) := kwB.trans hg
        have Hg : Hid (Kp (· = M) wB wr) := hg
        have hszr : wB.heap.size ≤ wr.heap.size := Hg.out.size
        clear t0 t1 t2 t3 x0 x1 x2 x3 y0 y1 y2 y3 r0 r1 r2 r3 v0 v1 v2 v3
        simp [predsImp, Region.binds, dstAt, fx]
        intros
        rename_i K hK
        go_simp
        rewrite [← Hvv.out, ← Hsm.out, ← Hrm.out]
        have hMr := JG.before hj hl
        have hcall := goal_calls v (varTm m0) (varTm (m0 + 1)) M (m0 + 2) wr ⟨in_kp HvB.out HvO.out (fun _ h => h) Hg.out, varTm_in' ⟨by omega, by omega⟩ wr, varTm_in' ⟨by omega, by omega⟩ wr, hMr, Hs2.out.1.2, by rw [varTm_erase]; exact varT_fmd ⟨by omega, by omega⟩, by rw [varTm_erase]; exact varT_fmd ⟨by omega, by omega⟩, by omega, by omega⟩
        rw [varTm_erase, varTm_erase] at hcall
        refine hcall.mono ?_
        rintro e w10 (⟨a2, m2, hg2, b2, rfl, hin, he, hM10, hk10⟩ | ⟨hg2, ⟨c9, rfl⟩, hk10⟩)
        · exact hK _ _ ⟨a2, by rw [hg2]; rfl, b2, rfl, hin, he, on_maker hM10 hin⟩ hk10 (JG.after hl ⟨a2, m2, hg2, hM10⟩)
        · refine (show bodyPost _ _ _ (.panic _) _ _ from ⟨Hdef.out, ?_⟩)
          rw [← HQ.out, HAns.out, HG1.out]
          dsimp only
          rw [hg2]
          exact .inr ⟨rfl, ⟨_, rfl⟩, (Kr.out.trans hk10).below (B := w.heap.size) (fun b hb => by omega) (Nat.le_refl _)⟩
      case b9 =>
        intro fr wr hg hold
        have h0 : fr.tmps[0]?.getD undef = .pointer (some ⟨B, 0, none⟩) := hold 0 rfl
        have h2 : fr.tmps[2]?.getD undef = .pointer (some ⟨M, 0, none⟩) := hold 2 rfl
        have h3 : fr.tmps[3]?.getD undef = .pointer (some ⟨sB, 0, none⟩) := hold 3 rfl
        have h4 : fr.tmps[4]?.getD undef = .pointer (some ⟨sB + 1, 0, none⟩) := hold 4 rfl
        have h5 : fr.tmps[5]?.getD undef = .pointer (some ⟨B5, 0, none⟩) := hold 5 rfl
        clear hold
        have t0' := Kp.cell hg t0 (show ¬ (B = M) by omega)
        have t1' := Kp.cell hg t1 (show ¬ (B = M) by omega)
        have t2' := Kp.cell hg t2 (show ¬ (B = M) by omega)
        have t3' := Kp.cell hg t3 (show ¬ (B = M) by omega)
        have x0' := Kp.cell hg x0 (show ¬ (sB = M) by omega)
        have x1' := Kp.cell hg x1 (show ¬ (sB = M) by omega)
        have x2' := Kp.cell hg x2 (show ¬ (sB = M) by omega)
        have x3' := Kp.cell hg x3 (show ¬ (sB = M) by omega)
        have y0' := Kp.cell hg y0 (show ¬ (sB + 1 = M) by omega)
        have y1' := Kp.cell hg y1 (show ¬ (sB + 1 = M) by omega)
        have y2' := Kp.cell hg y2 (show ¬ (sB + 1 = M) by omega)
        have y3' := Kp.cell hg y3 (show ¬ (sB + 1 = M) by omega)
        have r0' := Kp.cell hg r0 (show ¬ (B5 = M) by omega)
        have r1' := Kp.cell hg r1 (show ¬ (B5 = M) by omega)
        have r2' := Kp.cell hg r2 (show ¬ (B5 = M) by omega)
        have r3' := Kp.cell hg r3 (show ¬ (B5 = M) by omega)
        have v0' := Kp.cell hg v0 (show ¬ (bt = M) by omega)
        have v1' := Kp.cell hg v1 (show ¬ (bt = M) by omega)
        have v2' := Kp.cell hg v2 (show ¬ (bt = M) by omega)
        have v3' := Kp.cell hg v3 (show ¬ (bt = M) by omega)
        have Kr : Hid (Kp (· = M) w wr) := kwB.trans hg
        have Hg : Hid (Kp (· = M) wB wr) := hg
        have hszr : wB.heap.size ≤ wr.heap.size := Hg.out.size
        clear t0 t1 t2 t3 x0 x1 x2 x3 y0 y1 y2 y3 r0 r1 r2 r3 v0 v1 v2 v3
        simp [predsImp, Region.binds, dstAt, fx]
        rintro h15 ⟨a2, ha2, b2, e21, hin, he, hon⟩ K hK
        replace e21 : fr.tmps[34]?.getD undef = .agg #[.int .i64 b2.k, .int .i64 b2.n, .string b2.s, .slice b2.p b2.l.length b2.c] := e21
        go_simp
        rw [Option.map_eq_some_iff] at ha2
        obtain ⟨⟨a3, m3⟩, hg3, rfl⟩ := ha2
        have hs2 := slIs_two (S := (· ≠ M)) (two_new (t := bm) (u := b2) (in_kp HbmB.out HbO2.out (fun _ h => h) Hg.out) hin (Gr.rfl' _)) HbO2.out hon (by omega)
        rw [HE.out, he] at hs2
        exact hK _ _ ⟨_, by rw [hg3]; rfl, hs2⟩ (by go_grown)
      case b10 =>
        intro fr wr hg hold
        have h0 : fr.tmps[0]?.getD undef = .pointer (some ⟨B, 0, none⟩) := hold 0 rfl
        have h2 : fr.tmps[2]?.getD undef = .pointer (some ⟨M, 0, none⟩) := hold 2 rfl
        have h3 : fr.tmps[3]?.getD undef = .pointer (some ⟨sB, 0, none⟩) := hold 3 rfl
        have h4 : fr.tmps[4]?.getD undef = .pointer (some ⟨sB + 1, 0, none⟩) := hold 4 rfl
        have h5 : fr.tmps[5]?.getD undef = .pointer (some ⟨B5, 0, none⟩) := hold 5 rfl
        clear hold
        have t0' := Kp.cell hg t0 (show ¬ (B = M) by omega)
        have t1' := Kp.cell hg t1 (show ¬ (B = M) by omega)
        have t2' := Kp.cell hg t2 (show ¬ (B = M) by omega)
        have t3' := Kp.cell hg t3 (show ¬ (B = M) by omega)
        have x0' := Kp.cell hg x0 (show ¬ (sB = M) by omega)
        have x1' := Kp.cell hg x1 (show ¬ (sB = M) by omega)
        have x2' := Kp.cell hg x2 (show ¬ (sB = M) by omega)
        have x3' := Kp.cell hg x3 (show ¬ (sB = M) by omega)
        have y0' := Kp.cell hg y0 (show ¬ (sB + 1 = M) by omega)
        have y1' := Kp.cell hg y1 (show ¬ (sB + 1 = M) by omega)
        have y2' := Kp.cell hg y2 (show ¬ (sB + 1 = M) by omega)
        have y3' := Kp.cell hg y3 (show ¬ (sB + 1 = M) by omega)
        have r0' := Kp.cell hg r0 (show ¬ (B5 = M) by omega)
        have r1' := Kp.cell hg r1 (show ¬ (B5 = M) by omega)
        have r2' := Kp.cell hg r2 (show ¬ (B5 = M) by omega)
        have r3' := Kp.cell hg r3 (show ¬ (B5 = M) by omega)
        have v0' := Kp.cell hg v0 (show ¬ (bt = M) by omega)
        have v1' := Kp.cell hg v1 (show ¬ (bt = M) by omega)
        have v2' := Kp.cell hg v2 (show ¬ (bt = M) by omega)
        have v3' := Kp.cell hg v3 (show ¬ (bt = M) by omega)
        have Kr : Hid (Kp (· = M) w wr) := kwB.trans hg
        have Hg : Hid (Kp (· = M) wB wr) := hg
        have hszr : wB.heap.size ≤ wr.heap.size := Hg.out.size
        clear t0 t1 t2 t3 x0 x1 x2 x3 y0 y1 y2 y3 r0 r1 r2 r3 v0 v1 v2 v3
        simp [predsImp, Region.binds, dstAt]
        rintro ⟨a', ha', hsl⟩ _ K hK
        go_simp
        refine (comp_ok (s := ⟨#[58, 45]⟩) hsl (by decide)).mono ?_
        rintro e w10 ⟨v', rfl, ht, hg2⟩
        rw [blNeck] at ht
        rw [Option.map_eq_some_iff] at ha'
        obtain ⟨⟨a3, m3⟩, hg3, rfl⟩ := ha'
        exact hK _ _ ⟨_, by rw [hg3]; rfl, ht⟩ hg2
      case b11 =>
        intro fr wr hg hold
        have h0 : fr.tmps[0]?.getD undef = .pointer (some ⟨B, 0, none⟩) := hold 0 rfl
        have h2 : fr.tmps[2]?.getD undef = .pointer (some ⟨M, 0, none⟩) := hold 2 rfl
        have h3 : fr.tmps[3]?.getD undef = .pointer (some ⟨sB, 0, none⟩) := hold 3 rfl
        have h4 : fr.tmps[4]?.getD undef = .pointer (some ⟨sB + 1, 0, none⟩) := hold 4 rfl
        have h5 : fr.tmps[5]?.getD undef = .pointer (some ⟨B5, 0, none⟩) := hold 5 rfl
        clear hold
        have t0' := Kp.cell hg t0 (show ¬ (B = M) by omega)
        have t1' := Kp.cell hg t1 (show ¬ (B = M) by omega)
        have t2' := Kp.cell hg t2 (show ¬ (B = M) by omega)
        have t3' := Kp.cell hg t3 (show ¬ (B = M) by omega)
        have x0' := Kp.cell hg x0 (show ¬ (sB = M) by omega)
        have x1' := Kp.cell hg x1 (show ¬ (sB = M) by omega)
        have x2' := Kp.cell hg x2 (show ¬ (sB = M) by omega)
        have x3' := Kp.cell hg x3 (show ¬ (sB = M) by omega)
        have y0' := Kp.cell hg y0 (show ¬ (sB + 1 = M) by omega)
        have y1' := Kp.cell hg y1 (show ¬ (sB + 1 = M) by omega)
        have y2' := Kp.cell hg y2 (show ¬ (sB + 1 = M) by omega)
        have y3' := Kp.cell hg y3 (show ¬ (sB + 1 = M) by omega)
        have r0' := Kp.cell hg r0 (show ¬ (B5 = M) by omega)
        have r1' := Kp.cell hg r1 (show ¬ (B5 = M) by omega)
        have r2' := Kp.cell hg r2 (show ¬ (B5 = M) by omega)
        have r3' := Kp.cell hg r3 (show ¬ (B5 = M) by omega)
        have v0' := Kp.cell hg v0 (show ¬ (bt = M) by omega)
        have v1' := Kp.cell hg v1 (show ¬ (bt = M) by omega)
        have v2' := Kp.cell hg v2 (show ¬ (bt = M) by omega)
        have v3' := Kp.cell hg v3 (show ¬ (bt = M) by omega)
        have Kr : Hid (Kp (· = M) w wr) := kwB.trans hg
        have Hg : Hid (Kp (· = M) wB wr) := hg
        have hszr : wB.heap.size ≤ wr.heap.size := Hg.out.size
        clear t0 t1 t2 t3 x0 x1 x2 x3 y0 y1 y2 y3 r0 r1 r2 r3 v0 v1 v2 v3
        simp [predsImp, Region.binds, dstAt]
        rintro ⟨a2, ha2, b2, e21, hin, he, hon⟩ K hK
        replace e21 : fr.tmps[36]?.getD undef = .agg #[.int .i64 b2.k, .int .i64 b2.n, .string b2.s, .slice b2.p b2.l.length b2.c] := e21
        go_simp
        rw [Option.map_eq_some_iff] at ha2
        obtain ⟨⟨a3, m3⟩, hg3, rfl⟩ := ha2
        have hs2 := slIs_one (S := (· ≠ M)) (one_new (t := b2) hin (Gr.rfl' _)) hon (by omega)
        rw [he] at hs2
        exact hK _ _ ⟨_, by rw [hg3]; rfl, hs2⟩ (by go_grown)
      case b12 =>
        intro fr wr hg hold
        have h0 : fr.tmps[0]?.getD undef = .pointer (some ⟨B, 0, none⟩) := hold 0 rfl
        have h2 : fr.tmps[2]?.getD undef = .pointer (some ⟨M, 0, none⟩) := hold 2 rfl
        have h3 : fr.tmps[3]?.getD undef = .pointer (some ⟨sB, 0, none⟩) := hold 3 rfl
        have h4 : fr.tmps[4]?.getD undef = .pointer (some ⟨sB + 1, 0, none⟩) := hold 4 rfl
        have h5 : fr.tmps[5]?.getD undef = .pointer (some ⟨B5, 0, none⟩) := hold 5 rfl
        clear hold
        have t0' := Kp.cell hg t0 (show ¬ (B = M) by omega)
        have t1' := Kp.cell hg t1 (show ¬ (B = M) by omega)
        have t2' := Kp.cell hg t2 (show ¬ (B = M) by omega)
        have t3' := Kp.cell hg t3 (show ¬ (B = M) by omega)
        have x0' := Kp.cell hg x0 (show ¬ (sB = M) by omega)
        have x1' := Kp.cell hg x1 (show ¬ (sB = M) by omega)
        have x2' := Kp.cell hg x2 (show ¬ (sB = M) by omega)
        have x3' := Kp.cell hg x3 (show ¬ (sB = M) by omega)
        have y0' := Kp.cell hg y0 (show ¬ (sB + 1 = M) by omega)
        have y1' := Kp.cell hg y1 (show ¬ (sB + 1 = M) by omega)
        have y2' := Kp.cell hg y2 (show ¬ (sB + 1 = M) by omega)
        have y3' := Kp.cell hg y3 (show ¬ (sB + 1 = M) by omega)
        have r0' := Kp.cell hg r0 (show ¬ (B5 = M) by omega)
        have r1' := Kp.cell hg r1 (show ¬ (B5 = M) by omega)
        have r2' := Kp.cell hg r2 (show ¬ (B5 = M) by omega)
        have r3' := Kp.cell hg r3 (show ¬ (B5 = M) by omega)
        have v0' := Kp.cell hg v0 (show ¬ (bt = M) by omega)
        have v1' := Kp.cell hg v1 (show ¬ (bt = M) by omega)
        have v2' := Kp.cell hg v2 (show ¬ (bt = M) by omega)
        have v3' := Kp.cell hg v3 (show ¬ (bt = M) by omega)
        have Kr : Hid (Kp (· = M) w wr) := kwB.trans hg
        have Hg : Hid (Kp (· = M) wB wr) := hg
        have hszr : wB.heap.size ≤ wr.heap.size := Hg.out.size
        clear t0 t1 t2 t3 x0 x1 x2 x3 y0 y1 y2 y3 r0 r1 r2 r3 v0 v1 v2 v3
        simp [predsImp, Region.binds, dstAt]
        rintro ⟨a', ha', p', c', k', e37, hsl, he, hon⟩ _ K hK
        rw [Option.map_eq_some_iff] at ha'
        obtain ⟨⟨a3, m3⟩, hg3, rfl⟩ := ha'
        obtain ⟨x', rfl⟩ := erase_one he
        rw [Tm.eraseL, Tm.eraseL] at he
        have hx : x'.erase = clauseOf h1 a3 := (List.cons.inj he).1
        have hcf : (clauseOf h1 a3).fmd = true := fmd_two (by decide) HFd.out (goal_fmd reserved _ v.erase (varT m0) (varT (m0 + 1)) a3 (m0 + 2) m3 (Nat.le_refl _) Hs2.out.1.2 (varT_fmd ⟨by omega, by omega⟩) (varT_fmd ⟨by omega, by omega⟩) (by omega) (by omega) hg3).1
        go_simp
        refine (renamedWB_calls 0 p' c' [x'] wr hsl (fun z hz => by rw [List.mem_singleton] at hz; subst hz; rw [hx]; exact hcf) ⟨by omega, by omega⟩).mono ?_
        rintro e w10 ⟨p2, c2, lm, rfl, hsl2, he2, hg2, hon2, hwh⟩
        rw [Tm.eraseL, Tm.eraseL, hx, T.mapL, T.mapL] at he2
        obtain ⟨b6, rfl⟩ := erase_one he2
        rw [Tm.eraseL, Tm.eraseL] at he2
        rw [Tm.WholeL] at hwh
        exact hK _ _ ⟨_, by rw [hg3]; rfl, p2, c2, b6, _, rfl, hsl2, (List.cons.inj he2).1, hon2.mono fun b hb => (by have : wr.heap.size ≤ b := hb; omega), hwh.1⟩ hg2
      case b13 =>
        intro fr wr hg hold
        have h0 : fr.tmps[0]?.getD undef = .pointer (some ⟨B, 0, none⟩) := hold 0 rfl
        have h2 : fr.tmps[2]?.getD undef = .pointer (some ⟨M, 0, none⟩) := hold 2 rfl
        have h3 : fr.tmps[3]?.getD undef = .pointer (some ⟨sB, 0, none⟩) := hold 3 rfl
        have h4 : fr.tmps[4]?.getD undef = .pointer (some ⟨sB + 1, 0, none⟩) := hold 4 rfl
        have h5 : fr.tmps[5]?.getD undef = .pointer (some ⟨B5, 0, none⟩) := hold 5 rfl
        clear hold
        have t0' := Kp.cell hg t0 (show ¬ (B = M) by omega)
        have t1' := Kp.cell hg t1 (show ¬ (B = M) by omega)
        have t2' := Kp.cell hg t2 (show ¬ (B = M) by omega)
        have t3' := Kp.cell hg t3 (show ¬ (B = M) by omega)
        have x0' := Kp.cell hg x0 (show ¬ (sB = M) by omega)
        have x1' := Kp.cell hg x1 (show ¬ (sB = M) by omega)
        have x2' := Kp.cell hg x2 (show ¬ (sB = M) by omega)
        have x3' := Kp.cell hg x3 (show ¬ (sB = M) by omega)
        have y0' := Kp.cell hg y0 (show ¬ (sB + 1 = M) by omega)
        have y1' := Kp.cell hg y1 (show ¬ (sB + 1 = M) by omega)
        have y2' := Kp.cell hg y2 (show ¬ (sB + 1 = M) by omega)
        have y3' := Kp.cell hg y3 (show ¬ (sB + 1 = M) by omega)
        have r0' := Kp.cell hg r0 (show ¬ (B5 = M) by omega)
        have r1' := Kp.cell hg r1 (show ¬ (B5 = M) by omega)
        have r2' := Kp.cell hg r2 (show ¬ (B5 = M) by omega)
        have r3' := Kp.cell hg r3 (show ¬ (B5 = M) by omega)
        have v0' := Kp.cell hg v0 (show ¬ (bt = M) by omega)
        have v1' := Kp.cell hg v1 (show ¬ (bt = M) by omega)
        have v2' := Kp.cell hg v2 (show ¬ (bt = M) by omega)
        have v3' := Kp.cell hg v3 (show ¬ (bt = M) by omega)
        have Kr : Hid (Kp (· = M) w wr) := kwB.trans hg
        have Hg : Hid (Kp (· = M) wB wr) := hg
        have hszr : wB.heap.size ≤ wr.heap.size := Hg.out.size
        clear t0 t1 t2 t3 x0 x1 x2 x3 y0 y1 y2 y3 r0 r1 r2 r3 v0 v1 v2 v3
        simp [predsImp, Region.binds, dstAt]
        intro h38 K hK
        go_simp
        exact hK _ _ h38 (Gr.rfl' _)
      case b14 =>
        intro fr wr hg hold
        have h0 : fr.tmps[0]?.getD undef = .pointer (some ⟨B, 0, none⟩) := hold 0 rfl
        have h2 : fr.tmps[2]?.getD undef = .pointer (some ⟨M, 0, none⟩) := hold 2 rfl
        have h3 : fr.tmps[3]?.getD undef = .pointer (some ⟨sB, 0, none⟩) := hold 3 rfl
        have h4 : fr.tmps[4]?.getD undef = .pointer (some ⟨sB + 1, 0, none⟩) := hold 4 rfl
        have h5 : fr.tmps[5]?.getD undef = .pointer (some ⟨B5, 0, none⟩) := hold 5 rfl
        clear hold
        have t0' := Kp.cell hg t0 (show ¬ (B = M) by omega)
        have t1' := Kp.cell hg t1 (show ¬ (B = M) by omega)
        have t2' := Kp.cell hg t2 (show ¬ (B = M) by omega)
        have t3' := Kp.cell hg t3 (show ¬ (B = M) by omega)
        have x0' := Kp.cell hg x0 (show ¬ (sB = M) by omega)
        have x1' := Kp.cell hg x1 (show ¬ (sB = M) by omega)
        have x2' := Kp.cell hg x2 (show ¬ (sB = M) by omega)
        have x3' := Kp.cell hg x3 (show ¬ (sB = M) by omega)
        have y0' := Kp.cell hg y0 (show ¬ (sB + 1 = M) by omega)
        have y1' := Kp.cell hg y1 (show ¬ (sB + 1 = M) by omega)
        have y2' := Kp.cell hg y2 (show ¬ (sB + 1 = M) by omega)
        have y3' := Kp.cell hg y3 (show ¬ (sB + 1 = M) by omega)
        have r0' := Kp.cell hg r0 (show ¬ (B5 = M) by omega)
        have r1' := Kp.cell hg r1 (show ¬ (B5 = M) by omega)
        have r2' := Kp.cell hg r2 (show ¬ (B5 = M) by omega)
        have r3' := Kp.cell hg r3 (show ¬ (B5 = M) by omega)
        have v0' := Kp.cell hg v0 (show ¬ (bt = M) by omega)
        have v1' := Kp.cell hg v1 (show ¬ (bt = M) by omega)
        have v2' := Kp.cell hg v2 (show ¬ (bt = M) by omega)
        have v3' := Kp.cell hg v3 (show ¬ (bt = M) by omega)
        have Kr : Hid (Kp (· = M) w wr) := kwB.trans hg
        have Hg : Hid (Kp (· = M) wB wr) := hg
        have hszr : wB.heap.size ≤ wr.heap.size := Hg.out.size
        clear t0 t1 t2 t3 x0 x1 x2 x3 y0 y1 y2 y3 r0 r1 r2 r3 v0 v1 v2 v3
        simp [predsImp, Region.binds, dstAt]
        rintro ⟨a5, ha5, p5, c5, b5, n5, e25, rest⟩ K hK
        go_simp
        exact hK _ _ ⟨a5, ha5, p5, c5, b5, n5, rfl, rest⟩ (Gr.rfl' _)
      case b15 =>
        intro fr wr hg hold
        have h0 : fr.tmps[0]?.getD undef = .pointer (some ⟨B, 0, none⟩) := hold 0 rfl
        have h2 : fr.tmps[2]?.getD undef = .pointer (some ⟨M, 0, none⟩) := hold 2 rfl
        have h3 : fr.tmps[3]?.getD undef = .pointer (some ⟨sB, 0, none⟩) := hold 3 rfl
        have h4 : fr.tmps[4]?.getD undef = .pointer (some ⟨sB + 1, 0, none⟩) := hold 4 rfl
        have h5 : fr.tmps[5]?.getD undef = .pointer (some ⟨B5, 0, none⟩) := hold 5 rfl
        clear hold
        have t0' := Kp.cell hg t0 (show ¬ (B = M) by omega)
        have t1' := Kp.cell hg t1 (show ¬ (B = M) by omega)
        have t2' := Kp.cell hg t2 (show ¬ (B = M) by omega)
        have t3' := Kp.cell hg t3 (show ¬ (B = M) by omega)
        have x0' := Kp.cell hg x0 (show ¬ (sB = M) by omega)
        have x1' := Kp.cell hg x1 (show ¬ (sB = M) by omega)
        have x2' := Kp.cell hg x2 (show ¬ (sB = M) by omega)
        have x3' := Kp.cell hg x3 (show ¬ (sB = M) by omega)
        have y0' := Kp.cell hg y0 (show ¬ (sB + 1 = M) by omega)
        have y1' := Kp.cell hg y1 (show ¬ (sB + 1 = M) by omega)
        have y2' := Kp.cell hg y2 (show ¬ (sB + 1 = M) by omega)
        have y3' := Kp.cell hg y3 (show ¬ (sB + 1 = M) by omega)
        have r0' := Kp.cell hg r0 (show ¬ (B5 = M) by omega)
        have r1' := Kp.cell hg r1 (show ¬ (B5 = M) by omega)
        have r2' := Kp.cell hg r2 (show ¬ (B5 = M) by omega)
        have r3' := Kp.cell hg r3 (show ¬ (B5 = M) by omega)
        have v0' := Kp.cell hg v0 (show ¬ (bt = M) by omega)
        have v1' := Kp.cell hg v1 (show ¬ (bt = M) by omega)
        have v2' := Kp.cell hg v2 (show ¬ (bt = M) by omega)
        have v3' := Kp.cell hg v3 (show ¬ (bt = M) by omega)
        have Kr : Hid (Kp (· = M) w wr) := kwB.trans hg
        have Hg : Hid (Kp (· = M) wB wr) := hg
        have hszr : wB.heap.size ≤ wr.heap.size := Hg.out.size
        clear t0 t1 t2 t3 x0 x1 x2 x3 y0 y1 y2 y3 r0 r1 r2 r3 v0 v1 v2 v3
        simp [predsImp, Region.binds, dstAt]
        rintro ⟨a5, ha5, p5, c5, b5, n5, e25, rest⟩ K hK
        go_simp
        exact hK _ _ ⟨n5, rfl⟩ (Gr.rfl' _)
      case b16 =>
        intro fr wr hg hold
        have h0 : fr.tmps[0]?.getD undef = .pointer (some ⟨B, 0, none⟩) := hold 0 rfl
        have h2 : fr.tmps[2]?.getD undef = .pointer (some ⟨M, 0, none⟩) := hold 2 rfl
        have h3 : fr.tmps[3]?.getD undef = .pointer (some ⟨sB, 0, none⟩) := hold 3 rfl
        have h4 : fr.tmps[4]?.getD undef = .pointer (some ⟨sB + 1, 0, none⟩) := hold 4 rfl
        have h5 : fr.tmps[5]?.getD undef = .pointer (some ⟨B5, 0, none⟩) := hold 5 rfl
        clear hold
        have t0' := Kp.cell hg t0 (show ¬ (B = M) by omega)
        have t1' := Kp.cell hg t1 (show ¬ (B = M) by omega)
        have t2' := Kp.cell hg t2 (show ¬ (B = M) by omega)
        have t3' := Kp.cell hg t3 (show ¬ (B = M) by omega)
        have x0' := Kp.cell hg x0 (show ¬ (sB = M) by omega)
        have x1' := Kp.cell hg x1 (show ¬ (sB = M) by omega)
        have x2' := Kp.cell hg x2 (show ¬ (sB = M) by omega)
        have x3' := Kp.cell hg x3 (show ¬ (sB = M) by omega)
        have y0' := Kp.cell hg y0 (show ¬ (sB + 1 = M) by omega)
        have y1' := Kp.cell hg y1 (show ¬ (sB + 1 = M) by omega)
        have y2' := Kp.cell hg y2 (show ¬ (sB + 1 = M) by omega)
        have y3' := Kp.cell hg y3 (show ¬ (sB + 1 = M) by omega)
        have r0' := Kp.cell hg r0 (show ¬ (B5 = M) by omega)
        have r1' := Kp.cell hg r1 (show ¬ (B5 = M) by omega)
        have r2' := Kp.cell hg r2 (show ¬ (B5 = M) by omega)
        have r3' := Kp.cell hg r3 (show ¬ (B5 = M) by omega)
        have v0' := Kp.cell hg v0 (show ¬ (bt = M) by omega)
        have v1' := Kp.cell hg v1 (show ¬ (bt = M) by omega)
        have v2' := Kp.cell hg v2 (show ¬ (bt = M) by omega)
        have v3' := Kp.cell hg v3 (show ¬ (bt = M) by omega)
        have Kr : Hid (Kp (· = M) w wr) := kwB.trans hg
        have Hg : Hid (Kp (· = M) wB wr) := hg
        have hszr : wB.heap.size ≤ wr.heap.size := Hg.out.size
        clear t0 t1 t2 t3 x0 x1 x2 x3 y0 y1 y2 y3 r0 r1 r2 r3 v0 v1 v2 v3
        simp [predsImp, Region.binds, dstAt, fx]
        intro h39
        intros
        rename_i K hK
        go_simp
        exact hK _ _ h39 (Gr.rfl' _)
      case b17 =>
        intro fr wr hg hold
        have h0 : fr.tmps[0]?.getD undef = .pointer (some ⟨B, 0, none⟩) := hold 0 rfl
        have h2 : fr.tmps[2]?.getD undef = .pointer (some ⟨M, 0, none⟩) := hold 2 rfl
        have h3 : fr.tmps[3]?.getD undef = .pointer (some ⟨sB, 0, none⟩) := hold 3 rfl
        have h4 : fr.tmps[4]?.getD undef = .pointer (some ⟨sB + 1, 0, none⟩) := hold 4 rfl
        have h5 : fr.tmps[5]?.getD undef = .pointer (some ⟨B5, 0, none⟩) := hold 5 rfl
        clear hold
        have t0' := Kp.cell hg t0 (show ¬ (B = M) by omega)
        have t1' := Kp.cell hg t1 (show ¬ (B = M) by omega)
        have t2' := Kp.cell hg t2 (show ¬ (B = M) by omega)
        have t3' := Kp.cell hg t3 (show ¬ (B = M) by omega)
        have x0' := Kp.cell hg x0 (show ¬ (sB = M) by omega)
        have x1' := Kp.cell hg x1 (show ¬ (sB = M) by omega)
        have x2' := Kp.cell hg x2 (show ¬ (sB = M) by omega)
        have x3' := Kp.cell hg x3 (show ¬ (sB = M) by omega)
        have y0' := Kp.cell hg y0 (show ¬ (sB + 1 = M) by omega)
        have y1' := Kp.cell hg y1 (show ¬ (sB + 1 = M) by omega)
        have y2' := Kp.cell hg y2 (show ¬ (sB + 1 = M) by omega)
        have y3' := Kp.cell hg y3 (show ¬ (sB + 1 = M) by omega)
        have r0' := Kp.cell hg r0 (show ¬ (B5 = M) by omega)
        have r1' := Kp.cell hg r1 (show ¬ (B5 = M) by omega)
        have r2' := Kp.cell hg r2 (show ¬ (B5 = M) by omega)
        have r3' := Kp.cell hg r3 (show ¬ (B5 = M) by omega)
        have v0' := Kp.cell hg v0 (show ¬ (bt = M) by omega)
        have v1' := Kp.cell hg v1 (show ¬ (bt = M) by omega)
        have v2' := Kp.cell hg v2 (show ¬ (bt = M) by omega)
        have v3' := Kp.cell hg v3 (show ¬ (bt = M) by omega)
        have Kr : Hid (Kp (· = M) w wr) := kwB.trans hg
        have Hg : Hid (Kp (· = M) wB wr) := hg
        have hszr : wB.heap.size ≤ wr.heap.size := Hg.out.size
        clear t0 t1 t2 t3 x0 x1 x2 x3 y0 y1 y2 y3 r0 r1 r2 r3 v0 v1 v2 v3
        simp [predsImp, Region.binds, dstAt, fx]
        intro h40
        intros
        rename_i K hK
        go_simp
        exact hK _ _ h40 (Gr.rfl' _)
      all_goals
        intro fr wr hg hold
        have h0 : fr.tmps[0]?.getD undef = .pointer (some ⟨B, 0, none⟩) := hold 0 rfl
        have h2 : fr.tmps[2]?.getD undef = .pointer (some ⟨M, 0, none⟩) := hold 2 rfl
        have h3 : fr.tmps[3]?.getD undef = .pointer (some ⟨sB, 0, none⟩) := hold 3 rfl
        have h4 : fr.tmps[4]?.getD undef = .pointer (some ⟨sB + 1, 0, none⟩) := hold 4 rfl
        have h5 : fr.tmps[5]?.getD undef = .pointer (some ⟨B5, 0, none⟩) := hold 5 rfl
        clear hold
        have t0' := Kp.cell hg t0 (show ¬ (B = M) by omega)
        have t1' := Kp.cell hg t1 (show ¬ (B = M) by omega)
        have t2' := Kp.cell hg t2 (show ¬ (B = M) by omega)
        have t3' := Kp.cell hg t3 (show ¬ (B = M) by omega)
        have x0' := Kp.cell hg x0 (show ¬ (sB = M) by omega)
        have x1' := Kp.cell hg x1 (show ¬ (sB = M) by omega)
        have x2' := Kp.cell hg x2 (show ¬ (sB = M) by omega)
        have x3' := Kp.cell hg x3 (show ¬ (sB = M) by omega)
        have y0' := Kp.cell hg y0 (show ¬ (sB + 1 = M) by omega)
        have y1' := Kp.cell hg y1 (show ¬ (sB + 1 = M) by omega)
        have y2' := Kp.cell hg y2 (show ¬ (sB + 1 = M) by omega)
        have y3' := Kp.cell hg y3 (show ¬ (sB + 1 = M) by omega)
        have r0' := Kp.cell hg r0 (show ¬ (B5 = M) by omega)
        have r1' := Kp.cell hg r1 (show ¬ (B5 = M) by omega)
        have r2' := Kp.cell hg r2 (show ¬ (B5 = M) by omega)
        have r3' := Kp.cell hg r3 (show ¬ (B5 = M) by omega)
        have v0' := Kp.cell hg v0 (show ¬ (bt = M) by omega)
        have v1' := Kp.cell hg v1 (show ¬ (bt = M) by omega)
        have v2' := Kp.cell hg v2 (show ¬ (bt = M) by omega)
        have v3' := Kp.cell hg v3 (show ¬ (bt = M) by omega)
        have Kr : Hid (Kp (· = M) w wr) := kwB.trans hg
        have Hg : Hid (Kp (· = M) wB wr) := hg
        have hszr : wB.heap.size ≤ wr.heap.size := Hg.out.size
        clear t0 t1 t2 t3 x0 x1 x2 x3 y0 y1 y2 y3 r0 r1 r2 r3 v0 v1 v2 v3
        simp [predsImp, Region.binds, dstAt, fx]
        intros
        rename_i K hK
        go_simp
      all_goals exact hK _ _ rfl (Gr.rfl' _)
    · intro wc hg hj
      rintro _ rfl _ rfl _ rfl _ rfl _ rfl _ rfl _ rfl _ rfl v8 _ v9 _ v10 _ v11 _ v12 _ v13 _ v14 _ v15 ⟨n15, rfl⟩ v16 ⟨a4, ha4, p4, c4, b4, n4, rfl, hsl, he, hon, hwh⟩ v17 ⟨n17, rfl⟩
      obtain ⟨a2, m2, hg2, hM9⟩ := JG.done hj (by decide)
      have hk9 : Kp (· = M) wB wc := hg
      have k9 : Kp (· = M) w wc := kwB.trans hk9
      have hab : a4 = T.map (swapF 0 (T.varsL [clauseOf h1 a2] [])) (clauseOf h1 a2) := by rw [hg2] at ha4; exact (Option.some.inj ha4).symm
      obtain ⟨b5, o5, rfl⟩ := hsl.ptr (by simp)
      obtain ⟨⟨z0, z1, z2, z3⟩, hbi, _⟩ := hsl.elem 0 (by simp)
      simp only [List.getElem_cons_zero, Nat.zero_mul, Nat.add_zero] at z0 z1 z2 z3 hbi
      have hon4 := hon.2
      rw [Tm.OnL, Tm.OnL] at hon4
      have HX := Lib.hid (And.intro hbi (And.intro he (And.intro hwh (And.intro hon4.1 (And.intro hg2 (And.intro hab k9))))))
      obtain ⟨⟨s0, s1, s2, s3⟩, ⟨f0, f1, f2, f3⟩, hlt⟩ := (HR.out.kp hk9 (by omega)).parts
      clear hsl he hon hwh hbi hon4 hg hj hg2 hM9 hk9 k9 hab ha4 t0 t1 t2 t3 x0 x1 x2 x3 y0 y1 y2 y3 r0 r1 r2 r3 v0 v1 v2 v3
      simp only [finAll, Act.put, List.setIfInBounds_toArray, List.set_cons_succ, List.set_cons_zero, List.drop_succ_cons, List.drop_zero, List.take_zero]
      go_wp2_with fail
      refine bodyPost_ret (v := b4.val) (by simp (maxDischargeDepth := 9) [results, Try.results78, go_sem, Tm.val, s0, s1, s2, s3]) rfl ?_
      obtain ⟨hbi, he, hwh, hon4, hg2, hab, k9⟩ := HX.out
      rw [← HQ.out, HAns.out, HG1.out]
      dsimp only
      rw [hg2]
      have k4 : ∀ q0 q1 q2 q3 : Value, Kp (· = w.heap.size) wc ((((wc.setCell ⟨w.heap.size, 0, none⟩ q0).setCell ⟨w.heap.size, 1, none⟩ q1).setCell ⟨w.heap.size, 2, none⟩ q2).setCell ⟨w.heap.size, 3, none⟩ q3) := fun _ _ _ _ => Kp.set4 (C := fun b => b = w.heap.size) rfl
      have hS3 : ∀ b, (w.heap.size ≤ b ∧ b ≠ M ∧ b ≠ w.heap.size) → ¬ (b = w.heap.size) := fun b hb => hb.2.2
      exact .inl ⟨_, rfl, b4, rfl, in_kp hbi hon4 hS3 (k4 _ _ _ _), he.trans hab, whole_kp hwh hbi hon4 hS3 (k4 _ _ _ _), hon4.mono fun b hb => hb.1,
        Below.trans (k9.below (B := w.heap.size) (fun b hb => by omega) (Nat.le_refl _)) ((k4 _ _ _ _).below (B := w.heap.size) (fun b hb => by omega) k9.size)⟩
end Go.Proofs.Yteonakicoomjkaa
