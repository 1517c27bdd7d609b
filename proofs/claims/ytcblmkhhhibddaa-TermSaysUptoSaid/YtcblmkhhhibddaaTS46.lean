/-
  hornref.Match.
  A term is the same as itself.
  Plain: what TermActs says of substitutions.
-/
import Derived.Test.YtcblmkhhhibddaaTS45
import Derived.Test.YtcblmkhhhibddaaTS19
import Derived.Test.YtcblmkhhhibddaaTS14
import Derived.Test.YtcblmkhhhibddaaTS05
import Derived.Test.YtcblmkhhhibddaaTS28
import Derived.Test.YtcblmkhhhibddaaTS15
namespace Go.Proofs.Ytcblmkhhhibddaa
open Go.RowKit Go.Maps Go.Lib

/-- An operation left out, for its guard is not met. -/
theorem stepK_skip {P : Program} {ops : List Oper} {Vs : List VP} {a₀ : Act} {w₀ : World} {Q : Exit → Act → World → Prop} {R : World → World → Prop} {J : Array Bool → World → Prop} {i : Nat} {o : Oper} (j : Nat) (want : Bool) (d : Tmp) (hgd : o.guard = some (j, want)) (hd : dstAt ops j = some d)
    (hV : Vs.getD j (fun _ _ => True) = fx (.bool (!want))) (he : ∃ e ∈ o.after.toList, e.on = j ∧ Region.binds .any e = true) (hJ : ∀ listed w, J listed w → J (listed.setIfInBounds i true) w) : StepK R J P ops Vs a₀ w₀ Q i o (fx undef) := by
  intro listed a w hj _ _ _ _ _
  refine predsImp_of hd (fun h => ?_) _ he
  rw [hV] at h
  have h1 : a.tmps[d]?.getD undef = .bool (!want) := h
  rw [hgd]
  have h2 : a.eval (.tmp d) = .bool (!want) := by simpa [Act.eval] using h1
  have hw : wantedE ops o a = false := by
    unfold wantedE
    rw [hgd]
    simp only [hd, h2]
    cases want <;> rfl
  simp only [hw]
  exact ⟨rfl, hJ _ _ hj⟩
/-- Operation 2 turns something; of what it leaves X speaks; 3 goes behind it, 4 behind 3. -/
structure ShpJ (w0 : World) (X : World → Prop) (listed : Array Bool) (w : World) : Prop where
  ord3 : listed.getD 3 false = true → listed.getD 2 false = true
  ord4 : listed.getD 4 false = true → listed.getD 3 false = true
  no : listed.getD 2 false = false → Gr w0 w
  yes : listed.getD 2 false = true → X w
theorem ShpJ.start {w0 w : World} {X : World → Prop} (m : Nat) (g : Gr w0 w) : ShpJ w0 X (Array.replicate m false) w := by
  have h : ∀ i, (Array.replicate m false).getD i false = false := fun i => by rw [Array.getD_eq_getD_getElem?, Array.getElem?_replicate]; split <;> rfl
  exact ⟨fun e => by (rw [h] at e; cases e), fun e => by (rw [h] at e; cases e), fun _ => g, fun e => by (rw [h] at e; cases e)⟩
theorem ShpJ.other {w0 : World} {X : World → Prop} (hX : ∀ w w', X w → Gr w w' → X w') {i : Nat} (hi : (i != 2 && i != 3 && i != 4) = true) (listed : Array Bool) (w w' : World) (h : ShpJ w0 X listed w) (g : Gr w w') : ShpJ w0 X (listed.setIfInBounds i true) w' := by
  simp only [Bool.and_eq_true, bne_iff_ne, ne_eq] at hi
  obtain ⟨⟨h2, h3⟩, h4⟩ := hi
  refine ⟨fun e => ?_, fun e => ?_, fun e => ?_, fun e => ?_⟩
  · rw [getD_set_ne false h3] at e
    rw [getD_set_ne false h2]
    exact h.ord3 e
  · rw [getD_set_ne false h4] at e
    rw [getD_set_ne false h3]
    exact h.ord4 e
  · rw [getD_set_ne false h2] at e
    exact (h.no e).trans g
  · rw [getD_set_ne false h2] at e
    exact hX _ _ (h.yes e) g
theorem ShpJ.call {w0 : World} {X : World → Prop} {listed : Array Bool} {w w' : World} (h : ShpJ w0 X listed w) (hl : listed.getD 2 true = false) (hx : X w') : ShpJ w0 X (listed.setIfInBounds 2 true) w' :=
  ⟨fun _ => getD_set_eq hl, fun e => by rw [getD_set_ne false (by decide)] at e; rw [getD_set_ne false (by decide)]; exact h.ord4 e, fun e => by (rw [getD_set_eq hl] at e; cases e), fun _ => hx⟩
theorem ShpJ.three {w0 : World} {X : World → Prop} (hX : ∀ w w', X w → Gr w w' → X w') {listed : Array Bool} {w w' : World} (h : ShpJ w0 X listed w) (h2 : listed.getD 2 false = true) (g : Gr w w') : ShpJ w0 X (listed.setIfInBounds 3 true) w' :=
  ⟨fun _ => getD_mono h2, fun e => by rw [getD_set_ne false (by decide)] at e; exact getD_mono (h.ord4 e), fun e => by (rw [getD_mono h2] at e; cases e), fun _ => hX _ _ (h.yes h2) g⟩
theorem ShpJ.four {w0 : World} {X : World → Prop} (hX : ∀ w w', X w → Gr w w' → X w') {listed : Array Bool} {w w' : World} (h : ShpJ w0 X listed w) (h3 : listed.getD 3 false = true) (g : Gr w w') : ShpJ w0 X (listed.setIfInBounds 4 true) w' :=
  ⟨fun _ => getD_mono (h.ord3 h3), fun _ => getD_mono h3, fun e => by (rw [getD_mono (h.ord3 h3)] at e; cases e), fun _ => hX _ _ (h.yes (h.ord3 h3)) g⟩
/-- The binds at their value. -/
def shpV (S : Nat → Prop) (P : Nat) (L : List Bd) : VP := fun v w => ∃ p c, v = .slice p L.length c ∧ (Bds.mk p c L).In w ∧ (∀ y ∈ L, y.t.On S) ∧ (∀ b, S b → b < P) ∧ ∀ b o, L ≠ [] → p = some ⟨b, o, none⟩ → b ≠ P
theorem shpV_stable {S : Nat → Prop} {P : Nat} {L : List Bd} : ∀ v w w', shpV S P L v w → Kp (· = P) w w' → shpV S P L v w' := by
  rintro _ w w' ⟨p, c, rfl, h1, h2, h3, h4⟩ k
  exact ⟨p, c, rfl, h1.kp h2 (fun b hb e => by have := h3 b hb; omega) h4 k, h2, h3, h4⟩
theorem SSt.val {S : Nat → Prop} {P : Nat} {l : List Bd} {w : World} (h : SSt S P l w) : ∃ p c, BlkT w P 44 #[.slice p l.length c] ∧ shpV S P l (.slice p l.length c) w := by
  obtain ⟨p, c, h1, h2⟩ := h.st
  refine ⟨p, c, h1, p, c, rfl, h2, h.on, h.low, fun b o hl e => ?_⟩
  obtain ⟨_, _, hr, _⟩ := h2
  rcases hr with hr | ⟨b', o', e', hr⟩
  · exact absurd hr hl
  · rw [show p = some ⟨b, o, none⟩ from e] at e'
    cases e'
    exact row_apart h1 hr hl
def tmOn (u : T) (P : Nat) : VP := fun v w => ∃ b : Tm, v = b.val ∧ b.In w ∧ b.erase = u ∧ b.On (· ≠ P)
theorem tmOn_stable {u : T} {P : Nat} : ∀ v w w', tmOn u P v w → Kp (· = P) w w' → tmOn u P v w' := fun _ _ _ ⟨b, h1, h2, h3, h4⟩ k => ⟨b, h1, kp_in h2 h4 (fun _ h => h) k, h3, h4⟩
/-- Match's answer. -/
def RetRM (p t : Tm) (w : World) (e : Ending) (w' : World) : Prop := ∃ (pp : Option Addr) (c : Nat) (l : List Bd) (d : Bool), e = .returned (.tuple #[.slice pp l.length c, .bool d]) ∧ (Bds.mk pp c l).In w' ∧ Gr w w' ∧
  (d = true ↔ (Tm.shp p t []).1 = true ∧ T.map (lookupT (Tm.shp p t []).2) p.erase = t.erase) ∧ l = if d then (Tm.shp p t []).2 else []

set_option maxHeartbeats 8000000 in
set_option maxRecDepth 100000 in
theorem rmatch_calls (p t : Tm) (w : World) (ip : p.In w) (it : t.In w) (fp : p.erase.formed = true) (sz : T.sz p.erase ≤ 1048576) : Calls Try.prog 107 #[p.val, t.val] w (RetRM p t w) := by
  have Ip := Lib.hid ip
  have It := Lib.hid it
  have Fp := Lib.hid fp
  have Sz := Lib.hid sz
  have hQ0 : Hid (∀ pp c l d w', (Bds.mk pp c l).In w' → Gr w w' → (d = true ↔ (Tm.shp p t []).1 = true ∧ T.map (lookupT (Tm.shp p t []).2) p.erase = t.erase) → (l = if d then (Tm.shp p t []).2 else []) → RetRM p t w (.returned (.tuple #[.slice pp l.length c, .bool d])) w') := fun pp c l d w' h1 h2 h3 h4 => ⟨pp, c, l, d, rfl, h1, h2, h3, h4⟩
  generalize RetRM p t w = Q at hQ0 ⊢
  have HQ := hQ0
  rw [show p.val = .agg #[.int .i64 p.k, .int .i64 p.n, .string p.s, .slice p.p p.l.length p.c] from rfl, show t.val = .agg #[.int .i64 t.k, .int .i64 t.n, .string t.s, .slice t.p t.l.length t.c] from rfl]
  clear ip it fp sz hQ0
  go_enter Try.func107, Try.ntmps107
  try simp only [List.append_eq, List.cons_append, List.nil_append]
  go_upto_region 1 with fail
  obtain ⟨h3, h4, gA⟩ := two_blocks w (.int .i64 p.k) (.int .i64 p.n) (.string p.s) (.slice p.p p.l.length p.c) (.int .i64 t.k) (.int .i64 t.n) (.string t.s) (.slice t.p t.l.length t.c)
  have SA : Hid (((w.alloc (.cells #[.int .i64 p.k, .int .i64 p.n, .string p.s, .slice p.p p.l.length p.c] 25)).alloc (.cells #[.int .i64 t.k, .int .i64 t.n, .string t.s, .slice t.p t.l.length t.c] 25)).heap.size = w.heap.size + 2) := by show _ = _; simp
  generalize ((w.alloc (.cells #[.int .i64 p.k, .int .i64 p.n, .string p.s, .slice p.p p.l.length p.c] 25)).alloc (.cells #[.int .i64 t.k, .int .i64 t.n, .string t.s, .slice t.p t.l.length t.c] 25)) = wA at *
  go_upto_region 2 with fail
  have hBP := BlkT.new wA 44 #[.slice none 0 0]
  have gB : Gr wA (wA.alloc (.cells #[.slice none 0 0] 44)) := by go_grown
  generalize (wA.alloc (.cells #[.slice none 0 0] 44)) = wB at *
  have hPs : Hid (wA.heap.size = w.heap.size + 2) := SA.out
  have hPlt : wA.heap.size < wB.heap.size := hBP.lt
  have gwB : Gr w wB := gA.trans gB
  have m3 : ¬ (w.heap.size = wA.heap.size) := by have := SA.out; omega
  have m4 : ¬ (w.heap.size + 1 = wA.heap.size) := by have := SA.out; omega
  have Hst0 : Hid (SSt (fun b => b < w.heap.size) wA.heap.size [] wB) := ⟨⟨none, 0, hBP, ⟨Nat.le_refl _, ⟨by simp, by simp⟩, .inl rfl, (fun y hy => nomatch hy)⟩⟩, (fun y hy => nomatch hy), fun b hb => by have := SA.out; omega⟩
  generalize wA.heap.size = P at *
  obtain ⟨⟨x0, x1, x2, x3⟩, _, _⟩ := (h3.out.gr gB).parts
  obtain ⟨⟨y0, y1, y2, y3⟩, _, _⟩ := (h4.out.gr gB).parts
  have HP0 : Hid (∀ b, b < w.heap.size → b < P) := fun b hb => by have := hPs.out; omega
  have Hcal := Lib.hid (fun (ww : World) (g : Gr wB ww) => shapes_calls p (fun b => b < w.heap.size) P [] t ww (Tm.In_below (gwB.trans g) Ip.out) (Tm.In_below (gwB.trans g) It.out) Ip.out.on It.out.on (Hst0.out.gr g) (by have := Sz.out; simp only [List.length_nil]; omega))
  have HIp : Hid (∀ ww, Kp (· = P) wB ww → p.In ww) := fun ww k => kp_in (Tm.In_below gwB Ip.out) Ip.out.on (fun b hb e => by have : b < w.heap.size := hb; have := HP0.out b this; omega) k
  have HIt : Hid (∀ ww, Kp (· = P) wB ww → t.In ww) := fun ww k => kp_in (Tm.In_below gwB It.out) It.out.on (fun b hb e => by have : b < w.heap.size := hb; have := HP0.out b this; omega) k
  have Hgr : Hid (∀ ww, Kp (· = P) wB ww → Gr w ww) := fun ww k => (((Kp.of_gr gwB).trans k).weaken (C' := fun b => w.heap.size ≤ b) fun b _ e => by have := hPs.out; omega).below (fun b hb => hb) (Nat.le_refl _)
  generalize Tm.shp p t [] = r at *
  obtain ⟨d, L⟩ := r
  simp only at HQ
  have HX : Hid (∀ w w', SSt (fun b => b < w.heap.size) P L w → Gr w w' → SSt (fun b => b < w.heap.size) P L w') := fun _ _ h g => ⟨(h.gr g).st, h.on, h.low⟩
  have Hcal2 := Lib.hid (fun (ww : World) (g : Gr wB ww) => show Calls Try.prog 159 #[.agg #[.int .i64 p.k, .int .i64 p.n, .string p.s, .slice p.p p.l.length p.c], .agg #[.int .i64 t.k, .int .i64 t.n, .string t.s, .slice t.p t.l.length t.c], .pointer (some ⟨P, 0, none⟩)] ww (RetShp (fun b => b < w.heap.size) P (d, L) ww) from Hcal.out ww g)
  clear Hcal h3 h4 SA gA gB hBP HX
  have HX : ∀ w1 w2, SSt (fun b => b < w.heap.size) P L w1 → Gr w1 w2 → SSt (fun b => b < w.heap.size) P L w2 := fun _ _ h g => h.gr g
  have HX := Lib.hid HX
  have Hs := Lib.hid (same_iff (T.map (lookupT L) p.erase) t.erase)
  generalize hsb : T.same (T.map (lookupT L) p.erase) t.erase = s at Hs
  have Hsb := Lib.hid hsb
  clear hsb
  cases d with
  | false =>
    refine wp_region_relyK [fx (.agg #[.int .i64 p.k, .int .i64 p.n, .string p.s, .slice p.p p.l.length p.c]), fx (.agg #[.int .i64 t.k, .int .i64 t.n, .string t.s, .slice t.p t.l.length t.c]), fx (.bool false), fx (.bool true), fx (.bool true), fx undef, fx undef, fx undef, fx undef, fx undef, fx undef, fx (.bool true)]
      (Kp (· = P)) (ShpJ wB (SSt (fun b => b < w.heap.size) P L)) (by kernel_rfl) (by kernel_rfl) (fun _ _ h => Kp.of_gr h) (fun _ _ _ h k => Kp.trans h k) (fun w0 h => ShpJ.start _ h) (by repeat (first | exact StableR.nil | refine StableR.fix ?_)) ?_ ?_
    · refine ⟨stepK_plain (fun _ _ h => Kp.of_gr h) (fun listed w w' h hg => ShpJ.other HX.out rfl listed w w' h hg) ?_, stepK_plain (fun _ _ h => Kp.of_gr h) (fun listed w w' h hg => ShpJ.other HX.out rfl listed w w' h hg) ?_, ?a2, ?a3, ?a4, stepK_skip 4 false 11 rfl rfl rfl ⟨⟨4, Ground.guard⟩, by simp, rfl, rfl⟩ (fun listed w h => ShpJ.other HX.out rfl listed w w h (Gr.rfl' _)), stepK_skip 4 false 11 rfl rfl rfl ⟨⟨4, Ground.guard⟩, by simp, rfl, rfl⟩ (fun listed w h => ShpJ.other HX.out rfl listed w w h (Gr.rfl' _)), stepK_skip 4 false 11 rfl rfl rfl ⟨⟨4, Ground.guard⟩, by simp, rfl, rfl⟩ (fun listed w h => ShpJ.other HX.out rfl listed w w h (Gr.rfl' _)), stepK_skip 4 false 11 rfl rfl rfl ⟨⟨4, Ground.guard⟩, by simp, rfl, rfl⟩ (fun listed w h => ShpJ.other HX.out rfl listed w w h (Gr.rfl' _)), stepK_skip 4 false 11 rfl rfl rfl ⟨⟨4, Ground.guard⟩, by simp, rfl, rfl⟩ (fun listed w h => ShpJ.other HX.out rfl listed w w h (Gr.rfl' _)), stepK_skip 4 false 11 rfl rfl rfl ⟨⟨4, Ground.guard⟩, by simp, rfl, rfl⟩ (fun listed w h => ShpJ.other HX.out rfl listed w w h (Gr.rfl' _)), stepK_plain (fun _ _ h => Kp.of_gr h) (fun listed w w' h hg => ShpJ.other HX.out rfl listed w w' h hg) ?_, trivial⟩
      case a2 =>
        intro listed fr ww hj hl hpre hg hdef hold
        have h2 : fr.tmps[2]?.getD undef = .pointer (some ⟨w.heap.size, 0, none⟩) := hold 2 rfl
        have h3 : fr.tmps[3]?.getD undef = .pointer (some ⟨w.heap.size + 1, 0, none⟩) := hold 3 rfl
        have h6 : fr.tmps[6]?.getD undef = .pointer (some ⟨P, 0, none⟩) := hold 6 rfl
        have zx0 := Kp.cell hg x0 m3
        have zx1 := Kp.cell hg x1 m3
        have zx2 := Kp.cell hg x2 m3
        have zx3 := Kp.cell hg x3 m3
        have zy0 := Kp.cell hg y0 m4
        have zy1 := Kp.cell hg y1 m4
        have zy2 := Kp.cell hg y2 m4
        have zy3 := Kp.cell hg y3 m4
        have Hg := Lib.hid hg
        clear hold x0 x1 x2 x3 y0 y1 y2 y3
        have gz : Gr wB ww := hj.no (getD_tf hl)
        clear hdef
        simp [predsImp, Region.binds, dstAt, fx]
        intros
        first
          | (rw [if_pos (by simp [*])]
             intro K hK)
          | (rename_i K hK)
        go_simp
        refine (Hcal2.out ww gz).mono ?_
        rintro e w9 ⟨rfl, st2, kp2⟩
        exact hK _ _ rfl kp2 (hj.call hl st2)
      case a3 =>
        intro listed fr ww hj hl hpre hg hdef hold
        have h2 : fr.tmps[2]?.getD undef = .pointer (some ⟨w.heap.size, 0, none⟩) := hold 2 rfl
        have h3 : fr.tmps[3]?.getD undef = .pointer (some ⟨w.heap.size + 1, 0, none⟩) := hold 3 rfl
        have h6 : fr.tmps[6]?.getD undef = .pointer (some ⟨P, 0, none⟩) := hold 6 rfl
        have zx0 := Kp.cell hg x0 m3
        have zx1 := Kp.cell hg x1 m3
        have zx2 := Kp.cell hg x2 m3
        have zx3 := Kp.cell hg x3 m3
        have zy0 := Kp.cell hg y0 m4
        have zy1 := Kp.cell hg y1 m4
        have zy2 := Kp.cell hg y2 m4
        have zy3 := Kp.cell hg y3 m4
        have Hg := Lib.hid hg
        clear hold x0 x1 x2 x3 y0 y1 y2 y3
        have h2l := hpre ⟨2, Ground.data⟩ (by simp) rfl
        clear hdef
        simp [predsImp, Region.binds, dstAt, fx]
        intros
        first
          | (rw [if_pos (by simp [*])]
             intro K hK)
          | (rename_i K hK)
        go_simp
        exact hK _ _ rfl (Kp.refl _ _) (hj.three HX.out h2l (Gr.rfl' _))
      case a4 =>
        intro listed fr ww hj hl hpre hg hdef hold
        have h2 : fr.tmps[2]?.getD undef = .pointer (some ⟨w.heap.size, 0, none⟩) := hold 2 rfl
        have h3 : fr.tmps[3]?.getD undef = .pointer (some ⟨w.heap.size + 1, 0, none⟩) := hold 3 rfl
        have h6 : fr.tmps[6]?.getD undef = .pointer (some ⟨P, 0, none⟩) := hold 6 rfl
        have zx0 := Kp.cell hg x0 m3
        have zx1 := Kp.cell hg x1 m3
        have zx2 := Kp.cell hg x2 m3
        have zx3 := Kp.cell hg x3 m3
        have zy0 := Kp.cell hg y0 m4
        have zy1 := Kp.cell hg y1 m4
        have zy2 := Kp.cell hg y2 m4
        have zy3 := Kp.cell hg y3 m4
        have Hg := Lib.hid hg
        clear hold x0 x1 x2 x3 y0 y1 y2 y3
        have h3l := hpre ⟨3, Ground.data⟩ (by simp) rfl
        clear hdef
        simp [predsImp, Region.binds, dstAt, fx]
        intros
        first
          | (rw [if_pos (by simp [*])]
             intro K hK)
          | (rename_i K hK)
        go_simp
        exact hK _ _ rfl (Kp.refl _ _) (hj.four HX.out h3l (Gr.rfl' _))
      all_goals
        intro fr ww hg hold
        have h2 : fr.tmps[2]?.getD undef = .pointer (some ⟨w.heap.size, 0, none⟩) := hold 2 rfl
        have h3 : fr.tmps[3]?.getD undef = .pointer (some ⟨w.heap.size + 1, 0, none⟩) := hold 3 rfl
        have h6 : fr.tmps[6]?.getD undef = .pointer (some ⟨P, 0, none⟩) := hold 6 rfl
        have zx0 := Kp.cell hg x0 m3
        have zx1 := Kp.cell hg x1 m3
        have zx2 := Kp.cell hg x2 m3
        have zx3 := Kp.cell hg x3 m3
        have zy0 := Kp.cell hg y0 m4
        have zy1 := Kp.cell hg y1 m4
        have zy2 := Kp.cell hg y2 m4
        have zy3 := Kp.cell hg y3 m4
        have Hg := Lib.hid hg
        clear hold x0 x1 x2 x3 y0 y1 y2 y3
        simp [predsImp, Region.binds, dstAt, fx]
        intros
        first
          | (rw [if_pos (by simp [*])]
             intro K hK)
          | (rename_i K hK)
        go_simp
      all_goals exact hK _ _ rfl (Gr.rfl' _)
    · intro w9 k9 hj
      rintro _ rfl _ rfl _ rfl _ rfl _ rfl _ rfl _ rfl _ rfl _ rfl _ rfl _ rfl _ rfl
      simp only [finAll, Act.put, Exit.then, List.setIfInBounds_toArray, List.set_cons_succ, List.set_cons_zero]
      have Hb := Lib.hid (HQ.out none 0 [] false w9 ⟨Nat.le_refl _, ⟨by simp, by simp⟩, .inl rfl, (fun y hy => nomatch hy)⟩ (Hgr.out w9 k9) (by simp) rfl)
      clear x0 x1 x2 x3 y0 y1 y2 y3 k9 hj
      go_wp2_with fail
      exact Hb.out
  | true =>
    refine wp_region_relyK [fx (.agg #[.int .i64 p.k, .int .i64 p.n, .string p.s, .slice p.p p.l.length p.c]), fx (.agg #[.int .i64 t.k, .int .i64 t.n, .string t.s, .slice t.p t.l.length t.c]), fx (.bool true), fx (.bool false), fx (.bool false), fx (.agg #[.int .i64 p.k, .int .i64 p.n, .string p.s, .slice p.p p.l.length p.c]), shpV (fun b => b < w.heap.size) P L, tmOn (T.map (lookupT L) p.erase) P, fx (.agg #[.int .i64 t.k, .int .i64 t.n, .string t.s, .slice t.p t.l.length t.c]), fx (.bool s), fx (.bool (!s)), fx (.bool (!s))]
      (Kp (· = P)) (ShpJ wB (SSt (fun b => b < w.heap.size) P L)) (by kernel_rfl) (by kernel_rfl) (fun _ _ h => Kp.of_gr h) (fun _ _ _ h k => Kp.trans h k) (fun w0 h => ShpJ.start _ h) (by repeat (first | exact StableR.nil | refine StableR.fix ?_ | refine StableR.cons shpV_stable ?_ | refine StableR.cons tmOn_stable ?_)) ?_ ?_
    · refine ⟨stepK_plain (fun _ _ h => Kp.of_gr h) (fun listed w w' h hg => ShpJ.other HX.out rfl listed w w' h hg) ?_, stepK_plain (fun _ _ h => Kp.of_gr h) (fun listed w w' h hg => ShpJ.other HX.out rfl listed w w' h hg) ?_, ?a2, ?a3, ?a4, stepK_plain (fun _ _ h => Kp.of_gr h) (fun listed w w' h hg => ShpJ.other HX.out rfl listed w w' h hg) ?_, ?a6, stepK_plain (fun _ _ h => Kp.of_gr h) (fun listed w w' h hg => ShpJ.other HX.out rfl listed w w' h hg) ?b7, stepK_plain (fun _ _ h => Kp.of_gr h) (fun listed w w' h hg => ShpJ.other HX.out rfl listed w w' h hg) ?_, stepK_plain (fun _ _ h => Kp.of_gr h) (fun listed w w' h hg => ShpJ.other HX.out rfl listed w w' h hg) ?b9, stepK_plain (fun _ _ h => Kp.of_gr h) (fun listed w w' h hg => ShpJ.other HX.out rfl listed w w' h hg) ?_, stepK_plain (fun _ _ h => Kp.of_gr h) (fun listed w w' h hg => ShpJ.other HX.out rfl listed w w' h hg) ?_, trivial⟩
      case a2 =>
        intro listed fr ww hj hl hpre hg hdef hold
        have h2 : fr.tmps[2]?.getD undef = .pointer (some ⟨w.heap.size, 0, none⟩) := hold 2 rfl
        have h3 : fr.tmps[3]?.getD undef = .pointer (some ⟨w.heap.size + 1, 0, none⟩) := hold 3 rfl
        have h6 : fr.tmps[6]?.getD undef = .pointer (some ⟨P, 0, none⟩) := hold 6 rfl
        have zx0 := Kp.cell hg x0 m3
        have zx1 := Kp.cell hg x1 m3
        have zx2 := Kp.cell hg x2 m3
        have zx3 := Kp.cell hg x3 m3
        have zy0 := Kp.cell hg y0 m4
        have zy1 := Kp.cell hg y1 m4
        have zy2 := Kp.cell hg y2 m4
        have zy3 := Kp.cell hg y3 m4
        have Hg := Lib.hid hg
        clear hold x0 x1 x2 x3 y0 y1 y2 y3
        have gz : Gr wB ww := hj.no (getD_tf hl)
        clear hdef
        simp [predsImp, Region.binds, dstAt, fx]
        intros
        first
          | (rw [if_pos (by simp [*])]
             intro K hK)
          | (rename_i K hK)
        go_simp
        refine (Hcal2.out ww gz).mono ?_
        rintro e w9 ⟨rfl, st2, kp2⟩
        exact hK _ _ rfl kp2 (hj.call hl st2)
      case a3 =>
        intro listed fr ww hj hl hpre hg hdef hold
        have h2 : fr.tmps[2]?.getD undef = .pointer (some ⟨w.heap.size, 0, none⟩) := hold 2 rfl
        have h3 : fr.tmps[3]?.getD undef = .pointer (some ⟨w.heap.size + 1, 0, none⟩) := hold 3 rfl
        have h6 : fr.tmps[6]?.getD undef = .pointer (some ⟨P, 0, none⟩) := hold 6 rfl
        have zx0 := Kp.cell hg x0 m3
        have zx1 := Kp.cell hg x1 m3
        have zx2 := Kp.cell hg x2 m3
        have zx3 := Kp.cell hg x3 m3
        have zy0 := Kp.cell hg y0 m4
        have zy1 := Kp.cell hg y1 m4
        have zy2 := Kp.cell hg y2 m4
        have zy3 := Kp.cell hg y3 m4
        have Hg := Lib.hid hg
        clear hold x0 x1 x2 x3 y0 y1 y2 y3
        have h2l := hpre ⟨2, Ground.data⟩ (by simp) rfl
        clear hdef
        simp [predsImp, Region.binds, dstAt, fx]
        intros
        first
          | (rw [if_pos (by simp [*])]
             intro K hK)
          | (rename_i K hK)
        go_simp
        exact hK _ _ rfl (Kp.refl _ _) (hj.three HX.out h2l (Gr.rfl' _))
      case a4 =>
        intro listed fr ww hj hl hpre hg hdef hold
        have h2 : fr.tmps[2]?.getD undef = .pointer (some ⟨w.heap.size, 0, none⟩) := hold 2 rfl
        have h3 : fr.tmps[3]?.getD undef = .pointer (some ⟨w.heap.size + 1, 0, none⟩) := hold 3 rfl
        have h6 : fr.tmps[6]?.getD undef = .pointer (some ⟨P, 0, none⟩) := hold 6 rfl
        have zx0 := Kp.cell hg x0 m3
        have zx1 := Kp.cell hg x1 m3
        have zx2 := Kp.cell hg x2 m3
        have zx3 := Kp.cell hg x3 m3
        have zy0 := Kp.cell hg y0 m4
        have zy1 := Kp.cell hg y1 m4
        have zy2 := Kp.cell hg y2 m4
        have zy3 := Kp.cell hg y3 m4
        have Hg := Lib.hid hg
        clear hold x0 x1 x2 x3 y0 y1 y2 y3
        have h3l := hpre ⟨3, Ground.data⟩ (by simp) rfl
        clear hdef
        simp [predsImp, Region.binds, dstAt, fx]
        intros
        first
          | (rw [if_pos (by simp [*])]
             intro K hK)
          | (rename_i K hK)
        go_simp
        exact hK _ _ rfl (Kp.refl _ _) (hj.four HX.out h3l (Gr.rfl' _))
      case a6 =>
        intro listed fr ww hj hl hpre hg hdef hold
        have h2 : fr.tmps[2]?.getD undef = .pointer (some ⟨w.heap.size, 0, none⟩) := hold 2 rfl
        have h3 : fr.tmps[3]?.getD undef = .pointer (some ⟨w.heap.size + 1, 0, none⟩) := hold 3 rfl
        have h6 : fr.tmps[6]?.getD undef = .pointer (some ⟨P, 0, none⟩) := hold 6 rfl
        have zx0 := Kp.cell hg x0 m3
        have zx1 := Kp.cell hg x1 m3
        have zx2 := Kp.cell hg x2 m3
        have zx3 := Kp.cell hg x3 m3
        have zy0 := Kp.cell hg y0 m4
        have zy1 := Kp.cell hg y1 m4
        have zy2 := Kp.cell hg y2 m4
        have zy3 := Kp.cell hg y3 m4
        have Hg := Lib.hid hg
        clear hold x0 x1 x2 x3 y0 y1 y2 y3
        have st2 := hj.yes (hj.ord3 (hj.ord4 (hpre ⟨4, Ground.guard⟩ (by simp) rfl)))
        clear hdef
        obtain ⟨p9, c9, hb9, hv9⟩ := st2.val
        have q0 := hb9.cell 0 (v := .slice p9 L.length c9) rfl
        have Hv9 := Lib.hid hv9
        clear hb9 hv9 st2
        simp [predsImp, Region.binds, dstAt, fx, wantedE, Act.eval]
        intros
        first
          | (rw [if_pos (by simp [*])]
             intro K hK)
          | (rename_i K hK)
        go_simp
        exact hK _ _ Hv9.out (Kp.refl _ _) (ShpJ.other HX.out rfl _ _ _ hj (Gr.rfl' _))
      case b7 =>
        intro fr ww hg hold
        have h2 : fr.tmps[2]?.getD undef = .pointer (some ⟨w.heap.size, 0, none⟩) := hold 2 rfl
        have h3 : fr.tmps[3]?.getD undef = .pointer (some ⟨w.heap.size + 1, 0, none⟩) := hold 3 rfl
        have h6 : fr.tmps[6]?.getD undef = .pointer (some ⟨P, 0, none⟩) := hold 6 rfl
        have zx0 := Kp.cell hg x0 m3
        have zx1 := Kp.cell hg x1 m3
        have zx2 := Kp.cell hg x2 m3
        have zx3 := Kp.cell hg x3 m3
        have zy0 := Kp.cell hg y0 m4
        have zy1 := Kp.cell hg y1 m4
        have zy2 := Kp.cell hg y2 m4
        have zy3 := Kp.cell hg y3 m4
        have Hg := Lib.hid hg
        clear hold x0 x1 x2 x3 y0 y1 y2 y3
        simp [predsImp, Region.binds, dstAt, fx, wantedE, Act.eval]
        intros
        first
          | (rw [if_pos (by simp [*])]
             intro K hK)
          | (rename_i K hK)
        obtain ⟨p9, c9, e9, i9, o9, l9, b9⟩ := ‹shpV _ _ _ _ _›
        go_simp
        refine (show Calls Try.prog 130 #[.agg #[.int .i64 p.k, .int .i64 p.n, .string p.s, .slice p.p p.l.length p.c], .slice p9 L.length c9] ww _ from rapplyOn_calls (S := (· ≠ P)) (t := p) (x := ⟨p9, c9, L⟩) (HIp.out ww Hg.out) Fp.out i9 (fun b hb e => by have := Hg.out.size; omega) (fun y hy => (o9 y hy).mono fun b hb e => by have := l9 b hb; omega)).mono ?_
        rintro e w9 ⟨b, i1, i2, rfl, i3, i4⟩
        exact hK _ _ ⟨b, rfl, i1, i2, i4⟩ i3
      case b9 =>
        intro fr ww hg hold
        have h2 : fr.tmps[2]?.getD undef = .pointer (some ⟨w.heap.size, 0, none⟩) := hold 2 rfl
        have h3 : fr.tmps[3]?.getD undef = .pointer (some ⟨w.heap.size + 1, 0, none⟩) := hold 3 rfl
        have h6 : fr.tmps[6]?.getD undef = .pointer (some ⟨P, 0, none⟩) := hold 6 rfl
        have zx0 := Kp.cell hg x0 m3
        have zx1 := Kp.cell hg x1 m3
        have zx2 := Kp.cell hg x2 m3
        have zx3 := Kp.cell hg x3 m3
        have zy0 := Kp.cell hg y0 m4
        have zy1 := Kp.cell hg y1 m4
        have zy2 := Kp.cell hg y2 m4
        have zy3 := Kp.cell hg y3 m4
        have Hg := Lib.hid hg
        clear hold x0 x1 x2 x3 y0 y1 y2 y3
        simp [predsImp, Region.binds, dstAt, fx, wantedE, Act.eval]
        intros
        first
          | (rw [if_pos (by simp [*])]
             intro K hK)
          | (rename_i K hK)
        obtain ⟨b, e9, i9, er9, o9⟩ := ‹tmOn _ _ _ _›
        go_simp
        have hs := same_calls (t := b) (u := t) i9 (HIt.out ww Hg.out)
        rw [er9, Hsb.out] at hs
        refine (show Calls Try.prog 26 #[b.val, .agg #[.int .i64 t.k, .int .i64 t.n, .string t.s, .slice t.p t.l.length t.c]] ww _ from hs).mono ?_
        rintro e w9 ⟨rfl, g9⟩
        exact hK _ _ rfl g9
      all_goals
        intro fr ww hg hold
        have h2 : fr.tmps[2]?.getD undef = .pointer (some ⟨w.heap.size, 0, none⟩) := hold 2 rfl
        have h3 : fr.tmps[3]?.getD undef = .pointer (some ⟨w.heap.size + 1, 0, none⟩) := hold 3 rfl
        have h6 : fr.tmps[6]?.getD undef = .pointer (some ⟨P, 0, none⟩) := hold 6 rfl
        have zx0 := Kp.cell hg x0 m3
        have zx1 := Kp.cell hg x1 m3
        have zx2 := Kp.cell hg x2 m3
        have zx3 := Kp.cell hg x3 m3
        have zy0 := Kp.cell hg y0 m4
        have zy1 := Kp.cell hg y1 m4
        have zy2 := Kp.cell hg y2 m4
        have zy3 := Kp.cell hg y3 m4
        have Hg := Lib.hid hg
        clear hold x0 x1 x2 x3 y0 y1 y2 y3
        simp [predsImp, Region.binds, dstAt, fx, wantedE, Act.eval]
        intros
        first
          | (rw [if_pos (by simp [*])]
             intro K hK)
          | (rename_i K hK)
        go_simp
      all_goals exact hK _ _ rfl (Gr.rfl' _)
    · intro w9 k9 hj
      rintro _ rfl _ rfl _ rfl _ rfl _ rfl _ rfl _ - _ - _ rfl _ rfl _ rfl _ rfl
      simp only [finAll, Act.put, Exit.then, List.setIfInBounds_toArray, List.set_cons_succ, List.set_cons_zero]
      have st9 := hj.yes (by simp)
      obtain ⟨p9, c9, hb9, i9⟩ := st9.st
      have q0 := hb9.cell 0 (v := .slice p9 L.length c9) rfl
      have gw9 := Hgr.out w9 k9
      clear x0 x1 x2 x3 y0 y1 y2 y3 k9 hj hb9 st9
      cases s with
      | false =>
        have Hb := Lib.hid (HQ.out none 0 [] false w9 ⟨Nat.le_refl _, ⟨by simp, by simp⟩, .inl rfl, (fun y hy => nomatch hy)⟩ gw9 ⟨(fun h => nomatch h), fun h => Hs.out.2 h.2⟩ rfl)
        go_wp2_with fail
        exact Hb.out
      | true =>
        have Hb := Lib.hid (HQ.out p9 c9 L true w9 i9 gw9 ⟨fun _ => ⟨rfl, Hs.out.1 rfl⟩, fun _ => rfl⟩ rfl)
        go_wp2_with fail
        exact Hb.out
end Go.Proofs.Ytcblmkhhhibddaa

namespace Go.Proofs.Ytcblmkhhhibddaa
open Go.RowKit


end Go.Proofs.Ytcblmkhhhibddaa

namespace Go.Proofs.Ytcblmkhhhibddaa
open Go.RowKit Go.Maps Go.Lib

theorem IsAll.err {g : Int → Option T} {l : List Bd} (h : IsAll g l) : bindsErr l = 0 := by
  rw [bindsErr, if_pos (List.all_eq_true.2 fun y hy => (h.2.2 y hy).1), if_pos h.1]
theorem IsAll.lookup {g : Int → Option T} {l : List Bd} (h : IsAll g l) (n : Int) : lookupT l n = Got g n := by
  by_cases hn : ∃ y ∈ l, y.v = n
  · obtain ⟨y, hy, rfl⟩ := hn
    rw [lookup_mem (asc_pairwise h.1) hy, Got, (h.2.1 y.v y.t.erase).1 ⟨y, hy, rfl, rfl⟩]
    rfl
  · rw [lookup_none fun y hy e => hn ⟨y, hy, e⟩, Got]
    cases hf : g n with
    | none => rfl
    | some t =>
      obtain ⟨y, hy, h1, _⟩ := (h.2.1 n t).2 hf
      exact absurd ⟨y, hy, h1⟩ hn
end Go.Proofs.Ytcblmkhhhibddaa
