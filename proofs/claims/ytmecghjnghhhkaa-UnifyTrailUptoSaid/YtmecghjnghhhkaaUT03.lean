/-
  hornkeep.UnifyTrail: the walk.
-/
import Derived.Test.YtmecghjnghhhkaaUT01
import Derived.Test.YtmecghjnghhhkaaUT02
import Derived.Test.YtmecghjnghhhkaaUP04
import Derived.Test.YtmecghjnghhhkaaUO28
namespace Go.Proofs.Ytmecghjnghhhkaa
open Go.RowKit Go.Maps Go.Lib

/-- A truth value. -/
def boolV : VP := fun v _ => ∃ b : Bool, v = .bool b
theorem boolV_stable {R : World → World → Prop} : ∀ v w w', boolV v w → R w w' → boolV v w' := fun _ _ _ h _ => h
def builtV (B : Nat) (l : List Pr) : VP := fun v w => BuiltPrs w B v l
theorem builtV_gr {B : Nat} {l : List Pr} : ∀ v w w', builtV B l v w → Gr w w' → builtV B l v w' := fun _ _ _ h hg => h.gr hg
theorem builtV_ge {B : Nat} {l : List Pr} {v : Value} {w : World} (h : builtV B l v w) : ∀ b, v.ownBlock = some b → B ≤ b := fun _ hb => BuiltPrs.ge h hb
def anyV : VP := fun _ _ => True
theorem anyV_stable {R : World → World → Prop} : ∀ v w w', anyV v w → R w w' → anyV v w' := fun _ _ _ h _ => h
theorem Prs.In.all {w w' : World} {x : Prs} (h : x.In w) (hg : Gr w w') : ∀ y ∈ x.l, y.a.In w' ∧ y.b.In w' := fun y hy => ⟨Tm.In_below hg (h.2.2.2 y hy).1, Tm.In_below hg (h.2.2.2 y hy).2⟩

/-- What is known before and after operation j. -/
structure FlipJ (j : Nat) (X Y : World → Prop) (listed : Array Bool) (w : World) : Prop where
  pre : listed.getD j false = false → X w
  post : listed.getD j false = true → Y w
theorem FlipJ.start {j n : Nat} {X Y : World → Prop} {w : World} (h : X w) : FlipJ j X Y (Array.replicate n false) w := by
  have e : (Array.replicate n false).getD j false = false := by simp only [Array.getD_eq_getD_getElem?, Array.getElem?_replicate]; split <;> rfl
  exact ⟨fun _ => h, fun h => by (rw [e] at h; cases h)⟩
theorem FlipJ.other {j i : Nat} {X Y : World → Prop} (hX : ∀ w w', X w → Gr w w' → X w') (hY : ∀ w w', Y w → Gr w w' → Y w') (h5 : i ≠ j) (listed : Array Bool) (w w' : World) (h : FlipJ j X Y listed w) (hg : Gr w w') : FlipJ j X Y (listed.setIfInBounds i true) w' where
  pre := fun h1 => hX _ _ (h.pre (by rwa [getD_set_ne false h5] at h1)) hg
  post := fun h1 => hY _ _ (h.post (by rwa [getD_set_ne false h5] at h1)) hg
theorem FlipJ.step {j : Nat} {X Y : World → Prop} {listed : Array Bool} {w : World} (hl : listed.getD j true = false) (hY : Y w) : FlipJ j X Y (listed.setIfInBounds j true) w := by
  have hi : j < listed.size := by
    rcases Nat.lt_or_ge j listed.size with h' | h'
    · exact h'
    · simp [Array.getElem?_eq_none h'] at hl
  exact ⟨fun h1 => by (simp [hi] at h1), fun _ => hY⟩
/-- A store, and two terms for it. -/
def BeforeU (B : Nat) (s : StD) (a b : Tm) (w : World) : Prop := s.In B w ∧ a.In w ∧ b.In w
def AfterU (B : Nat) (w0 : World) (s : StD) (a b : T) (r : Bool) (w : World) : Prop := ∃ s' : StD, TookP s.E a b r s'.E ∧ s'.In B w ∧ StD.to w0 s s'
theorem BeforeU.gr {B : Nat} {s : StD} {a b : Tm} : ∀ w w', BeforeU B s a b w → Gr w w' → BeforeU B s a b w' := fun _ _ h hg => ⟨h.1.gr hg, Tm.In_below hg h.2.1, Tm.In_below hg h.2.2⟩
theorem AfterU.gr {B : Nat} {w0 : World} {s : StD} {a b : T} {r : Bool} : ∀ w w', AfterU B w0 s a b r w → Gr w w' → AfterU B w0 s a b r w' := fun _ _ ⟨s', h1, h2, h3⟩ hg => ⟨s', h1, h2.gr hg, h3⟩

set_option maxHeartbeats 8000000 in
set_option maxRecDepth 100000 in
theorem unifyTrail_walk (x y : Prs) (t : Tm) (w : World) (hx : x.In w) (hy : y.In w) (ht : t.In w) (zx : x.l.length ≤ 1048576) (zy : y.l.length ≤ 1048576) : Calls Try.prog 6 #[x.val, y.val, t.val] w (Ret (.bool true) w) := by
  obtain ⟨px, cx, lx⟩ := x
  obtain ⟨py, cy, ly⟩ := y
  simp only at zx zy
  have HX := Lib.hid hx
  have HY := Lib.hid hy
  have It := Lib.hid ht
  have Ot := Lib.hid (Tm.In.on ht)
  have hR : Hid (∀ b w', true = b → Gr w w' → Ret (.bool true) w (.returned (.bool b)) w') := fun b w' h1 h2 => ⟨by rw [h1], h2⟩
  generalize Ret (.bool true) w = R at hR ⊢
  have HR := hR
  clear hx hy ht hR
  rw [show (Prs.mk px cx lx).val = .slice px lx.length cx from rfl, show (Prs.mk py cy ly).val = .slice py ly.length cy from rfl, show t.val = .agg #[.int .i64 t.k, .int .i64 t.n, .string t.s, .slice t.p t.l.length t.c] from rfl]
  go_enter Try.func6, Try.ntmps6
  try simp only [List.append_eq, List.cons_append, List.nil_append]
  go_upto_region 1 with fail
  have hT := BlkT.new w 27 #[.int .i64 t.k, .int .i64 t.n, .string t.s, .slice t.p t.l.length t.c]
  have gA : Gr w (w.alloc (.cells #[.int .i64 t.k, .int .i64 t.n, .string t.s, .slice t.p t.l.length t.c] 27)) := by go_grown
  generalize w.alloc (.cells #[.int .i64 t.k, .int .i64 t.n, .string t.s, .slice t.p t.l.length t.c] 27) = wA at *
  have HT := Lib.hid hT
  have t0 := hT.cell 0 (v := .int .i64 t.k) rfl
  have t1 := hT.cell 1 (v := .int .i64 t.n) rfl
  have t2 := hT.cell 2 (v := .string t.s) rfl
  have t3 := hT.cell 3 (v := .slice t.p t.l.length t.c) rfl
  clear hT
  refine wp_region_split 5 [fx (.slice px lx.length cx), fx (.agg #[.int .i64 t.k, .int .i64 t.n, .string t.s, .slice t.p t.l.length t.c]), boolV, boolV, boolV]
    (by kernel_rfl) (by kernel_rfl) (by decide) (by repeat (first | exact Stable.nil | refine Stable.fix ?_ | refine Stable.cons boolV_stable ?_)) ?_ ?_
  · refine ⟨?_, ?_, ?a2, ?a3, ?a4, trivial⟩
    case a2 =>
      intro a wz hg hold
      have h0 : a.tmps[0]?.getD undef = .slice px lx.length cx := hold 0 rfl
      have h1 : a.tmps[1]?.getD undef = .slice py ly.length cy := hold 1 rfl
      have h5 : a.tmps[5]?.getD undef = .pointer (some ⟨w.heap.size, 0, none⟩) := hold 5 rfl
      have z0 := Gr.at hg t0
      have z1 := Gr.at hg t1
      have z2 := Gr.at hg t2
      have z3 := Gr.at hg t3
      have Hg := Lib.hid hg
      clear hold t0 t1 t2 t3
      simp [predsImp, Region.binds, dstAt, fx]
      intros
      rename_i K hK
      go_simp
      refine (show Calls Try.prog 24 #[.slice px lx.length cx, .agg #[.int .i64 t.k, .int .i64 t.n, .string t.s, .slice t.p t.l.length t.c]] wz _ from fitsStore_calls px cx lx t wz (HX.out.mono (gA.trans Hg.out)) (Tm.In_below (gA.trans Hg.out) It.out)).mono ?_
      rintro e w9 ⟨b, rfl, -, g9⟩
      exact hK _ _ ⟨b, rfl⟩ g9
    case a3 =>
      intro a wz hg hold
      have h0 : a.tmps[0]?.getD undef = .slice px lx.length cx := hold 0 rfl
      have h1 : a.tmps[1]?.getD undef = .slice py ly.length cy := hold 1 rfl
      have h5 : a.tmps[5]?.getD undef = .pointer (some ⟨w.heap.size, 0, none⟩) := hold 5 rfl
      have z0 := Gr.at hg t0
      have z1 := Gr.at hg t1
      have z2 := Gr.at hg t2
      have z3 := Gr.at hg t3
      have Hg := Lib.hid hg
      clear hold t0 t1 t2 t3
      simp [predsImp, Region.binds, dstAt]
      intros
      obtain ⟨bb, hbb⟩ := ‹boolV (a.tmps[22]?.getD undef) _›
      rename_i K hK
      go_simp
      exact hK _ _ ⟨_, rfl⟩ (Gr.rfl' _)
    case a4 =>
      intro a wz hg hold
      have h0 : a.tmps[0]?.getD undef = .slice px lx.length cx := hold 0 rfl
      have h1 : a.tmps[1]?.getD undef = .slice py ly.length cy := hold 1 rfl
      have h5 : a.tmps[5]?.getD undef = .pointer (some ⟨w.heap.size, 0, none⟩) := hold 5 rfl
      have z0 := Gr.at hg t0
      have z1 := Gr.at hg t1
      have z2 := Gr.at hg t2
      have z3 := Gr.at hg t3
      have Hg := Lib.hid hg
      clear hold t0 t1 t2 t3
      simp [predsImp, Region.binds, dstAt]
      intros
      obtain ⟨bb, hbb⟩ := ‹boolV (a.tmps[23]?.getD undef) _›
      rename_i K hK
      go_simp
      exact hK _ _ ⟨_, rfl⟩ (Gr.rfl' _)
    all_goals
      intro a wz hg hold
      have h0 : a.tmps[0]?.getD undef = .slice px lx.length cx := hold 0 rfl
      have h1 : a.tmps[1]?.getD undef = .slice py ly.length cy := hold 1 rfl
      have h5 : a.tmps[5]?.getD undef = .pointer (some ⟨w.heap.size, 0, none⟩) := hold 5 rfl
      have z0 := Gr.at hg t0
      have z1 := Gr.at hg t1
      have z2 := Gr.at hg t2
      have z3 := Gr.at hg t3
      have Hg := Lib.hid hg
      clear hold t0 t1 t2 t3
      simp [predsImp, fx]
      intros
      rename_i K hK
      go_simp
    all_goals exact hK _ _ rfl (Gr.rfl' _)
  · intro w1 hg
    rintro _ rfl _ rfl _ ⟨b1, rfl⟩ _ ⟨b2, rfl⟩ _ ⟨b3, rfl⟩
    simp only [finAll, Act.put, List.setIfInBounds_toArray, List.set_cons_succ, List.set_cons_zero, List.take_zero]
    have g1 : Gr w w1 := gA.trans hg
    have HT1 := Lib.hid (HT.out.gr hg)
    have u0 := Gr.at hg t0
    have u1 := Gr.at hg t1
    have u2 := Gr.at hg t2
    have u3 := Gr.at hg t3
    clear t0 t1 t2 t3 hg
    cases b3 with
    | true =>
      refine rest_rely 5 [fx (.slice px lx.length cx), fx (.agg #[.int .i64 t.k, .int .i64 t.n, .string t.s, .slice t.p t.l.length t.c]), fx (.bool b1), fx (.bool b2), fx (.bool true), fx undef, fx undef, fx undef, fx undef, fx undef, fx undef, fx undef, fx (.bool true)]
        (by kernel_rfl) (by repeat (first | exact Stable.nil | refine Stable.fix ?_)) ⟨rfl, rfl, rfl, rfl, rfl, trivial⟩ ?_ ?_
      · refine ⟨stepOK_skip 4 false 24 rfl rfl rfl ⟨⟨4, Ground.guard⟩, by simp, rfl, rfl⟩, stepOK_skip 4 false 24 rfl rfl rfl ⟨⟨4, Ground.guard⟩, by simp, rfl, rfl⟩, stepOK_skip 4 false 24 rfl rfl rfl ⟨⟨4, Ground.guard⟩, by simp, rfl, rfl⟩, stepOK_skip 4 false 24 rfl rfl rfl ⟨⟨4, Ground.guard⟩, by simp, rfl, rfl⟩, stepOK_skip 4 false 24 rfl rfl rfl ⟨⟨4, Ground.guard⟩, by simp, rfl, rfl⟩, stepOK_skip 4 false 24 rfl rfl rfl ⟨⟨4, Ground.guard⟩, by simp, rfl, rfl⟩, stepOK_skip 4 false 24 rfl rfl rfl ⟨⟨4, Ground.guard⟩, by simp, rfl, rfl⟩, ?_, trivial⟩
        intro a wz hg hold
        have h0 : a.tmps[0]?.getD undef = .slice px lx.length cx := hold 0 rfl
        have h1 : a.tmps[1]?.getD undef = .slice py ly.length cy := hold 1 rfl
        have h5 : a.tmps[5]?.getD undef = .pointer (some ⟨w.heap.size, 0, none⟩) := hold 5 rfl
        have z0 := Gr.at hg u0
        have z1 := Gr.at hg u1
        have z2 := Gr.at hg u2
        have z3 := Gr.at hg u3
        have Hg := Lib.hid hg
        clear hold u0 u1 u2 u3
        simp [predsImp, Region.binds, dstAt, fx]
        intros
        rename_i K hK
        go_simp
        exact hK _ _ rfl (Gr.rfl' _)
      · intro w2 hg
        rintro _ rfl _ rfl _ rfl _ rfl _ rfl _ rfl _ rfl _ rfl _ rfl _ rfl _ rfl _ rfl _ rfl
        simp only [finAll, Act.put, Exit.then, List.setIfInBounds_toArray, List.set_cons_succ, List.set_cons_zero]
        have g2 : Gr w w2 := g1.trans hg
        clear u0 u1 u2 u3 hg
        go_wp2_with fail
        exact HR.out _ _ rfl g2
    | false =>
      have hw1 : w.heap.size < w1.heap.size := HT1.out.lt
      refine rest_relyB 5 [fx (.slice px lx.length cx), fx (.agg #[.int .i64 t.k, .int .i64 t.n, .string t.s, .slice t.p t.l.length t.c]), fx (.bool b1), fx (.bool b2), fx (.bool false), fx (.slice px lx.length cx), anyV, fx (.slice py ly.length cy), anyV, fx (.agg #[.int .i64 t.k, .int .i64 t.n, .string t.s, .slice t.p t.l.length t.c]), boolV, boolV, boolV] (Kp (fun b => w1.heap.size ≤ b)) (UseJ 139 6 8 26 28 (builtV w1.heap.size lx) (builtV w1.heap.size (lx ++ ly)))
        (by kernel_rfl) (fun _ _ h => Kp.of_gr h) (fun _ _ _ h k => Kp.trans h k) (by repeat (first | exact StableR.nil | refine StableR.fix ?_ | refine StableR.cons boolV_stable ?_ | refine StableR.cons anyV_stable ?_)) (UseJ.start rfl (by decide) (by decide)) ⟨rfl, rfl, rfl, rfl, rfl, trivial⟩ ?_ ?_
      · refine ⟨stepB_plain (fun _ _ h => Kp.of_gr h) (fun listed a w w' v h hg => UseJ.other builtV_gr builtV_gr (by decide) (by decide) (by decide) (by decide) listed a w w' v h hg) ?b5, ?a6, stepB_plain (fun _ _ h => Kp.of_gr h) (fun listed a w w' v h hg => UseJ.other builtV_gr builtV_gr (by decide) (by decide) (by decide) (by decide) listed a w w' v h hg) ?b7, ?a8, stepB_plain (fun _ _ h => Kp.of_gr h) (fun listed a w w' v h hg => UseJ.other builtV_gr builtV_gr (by decide) (by decide) (by decide) (by decide) listed a w w' v h hg) ?b9, ?a10, stepB_plain (fun _ _ h => Kp.of_gr h) (fun listed a w w' v h hg => UseJ.other builtV_gr builtV_gr (by decide) (by decide) (by decide) (by decide) listed a w w' v h hg) ?b11, stepB_plain (fun _ _ h => Kp.of_gr h) (fun listed a w w' v h hg => UseJ.other builtV_gr builtV_gr (by decide) (by decide) (by decide) (by decide) listed a w w' v h hg) ?b12, trivial⟩
        case a6 =>
          intro listed a wz hj hl hdeps hg hdef hold
          clear hdef
          have h0 : a.tmps[0]?.getD undef = .slice px lx.length cx := hold 0 rfl
          have h1 : a.tmps[1]?.getD undef = .slice py ly.length cy := hold 1 rfl
          have h5 : a.tmps[5]?.getD undef = .pointer (some ⟨w.heap.size, 0, none⟩) := hold 5 rfl
          have z0 := Kp.cell hg u0 (by show ¬ (w1.heap.size ≤ w.heap.size); omega)
          have z1 := Kp.cell hg u1 (by show ¬ (w1.heap.size ≤ w.heap.size); omega)
          have z2 := Kp.cell hg u2 (by show ¬ (w1.heap.size ≤ w.heap.size); omega)
          have z3 := Kp.cell hg u3 (by show ¬ (w1.heap.size ≤ w.heap.size); omega)
          have Hg := Lib.hid hg
          have Hgw : Hid (Gr w wz) := Below.trans g1 (hg.below (fun b hb => Nat.le_trans g1.size hb) g1.size)
          have hsz := hg.size
          clear hold u0 u1 u2 u3 hg
          obtain ⟨vn, wn, hrn, hbn, hgn, hon⟩ := append_prs wz w1.heap.size (.slice none 0 0) [] px cx lx (HX.out.mono Hgw.out) (World.ownsRow_nil _ _ _ 8) hsz (by simp; omega)
          have Hbn := Lib.hid hbn
          have Hgn := Lib.hid hgn
          clear hbn hgn hon
          simp [predsImp, Region.binds, dstAt, fx, wantedE, Act.eval]
          intros
          first
            | (rw [if_pos (by simp [*])]
               intro K hK)
            | (rename_i K hK)
          refine wp_append_run wz _ _ _ _ rfl _ _ rfl (by simp [Act.eval, *]) vn wn hrn (hK _ _ trivial (Kp.of_gr (grownBy_below Hgn.out (Nat.le_refl _) fun b hb => nomatch hb)) (hj.first builtV_gr (by decide) (by decide) (by decide) (grownBy_below Hgn.out (Nat.le_refl _) fun b hb => nomatch hb) Hbn.out))
        case a8 =>
          intro listed a wz hj hl hdeps hg hdef hold
          clear hdef
          have h0 : a.tmps[0]?.getD undef = .slice px lx.length cx := hold 0 rfl
          have h1 : a.tmps[1]?.getD undef = .slice py ly.length cy := hold 1 rfl
          have h5 : a.tmps[5]?.getD undef = .pointer (some ⟨w.heap.size, 0, none⟩) := hold 5 rfl
          have z0 := Kp.cell hg u0 (by show ¬ (w1.heap.size ≤ w.heap.size); omega)
          have z1 := Kp.cell hg u1 (by show ¬ (w1.heap.size ≤ w.heap.size); omega)
          have z2 := Kp.cell hg u2 (by show ¬ (w1.heap.size ≤ w.heap.size); omega)
          have z3 := Kp.cell hg u3 (by show ¬ (w1.heap.size ≤ w.heap.size); omega)
          have Hg := Lib.hid hg
          have Hgw : Hid (Gr w wz) := Below.trans g1 (hg.below (fun b hb => Nat.le_trans g1.size hb) g1.size)
          have hsz := hg.size
          clear hold u0 u1 u2 u3 hg
          have hX := hj.one (hdeps ⟨6, Ground.data⟩ (by simp) rfl) (getD_tf hl)
          generalize hv26 : a.tmps[26]?.getD undef = v26 at hX
          obtain ⟨vn, wn, hrn, hbn, hgn, hon⟩ := append_prs wz w1.heap.size v26 lx py cy ly (HY.out.mono Hgw.out) hX hsz (by omega)
          have Hbn := Lib.hid hbn
          have Hkn : Hid (Kp (fun b => w1.heap.size ≤ b) wz wn) := Kp.of_grown hgn fun r hr => builtV_ge hX r hr
          clear hbn hgn hon
          simp [predsImp, Region.binds, dstAt, fx, wantedE, Act.eval]
          intros
          first
            | (rw [if_pos (by simp [*])]
               intro K hK)
            | (rename_i K hK)
          refine wp_append_run wz _ _ _ _ rfl _ _ (by simp [Act.eval, hv26]) (by simp [Act.eval, *]) vn wn hrn (hK _ _ trivial Hkn.out (hj.second hl (by decide) Hbn.out))
        case a10 =>
          intro listed a wz hj hl hdeps hg hdef hold
          clear hdef
          have h0 : a.tmps[0]?.getD undef = .slice px lx.length cx := hold 0 rfl
          have h1 : a.tmps[1]?.getD undef = .slice py ly.length cy := hold 1 rfl
          have h5 : a.tmps[5]?.getD undef = .pointer (some ⟨w.heap.size, 0, none⟩) := hold 5 rfl
          have z0 := Kp.cell hg u0 (by show ¬ (w1.heap.size ≤ w.heap.size); omega)
          have z1 := Kp.cell hg u1 (by show ¬ (w1.heap.size ≤ w.heap.size); omega)
          have z2 := Kp.cell hg u2 (by show ¬ (w1.heap.size ≤ w.heap.size); omega)
          have z3 := Kp.cell hg u3 (by show ¬ (w1.heap.size ≤ w.heap.size); omega)
          have Hg := Lib.hid hg
          have Hgw : Hid (Gr w wz) := Below.trans g1 (hg.below (fun b hb => Nat.le_trans g1.size hb) g1.size)
          have hsz := hg.size
          clear hold u0 u1 u2 u3 hg
          have hY2 := hj.two (hdeps ⟨8, Ground.data⟩ (by simp) rfl)
          generalize hv28 : a.tmps[28]?.getD undef = v28 at hY2
          obtain ⟨p2, c2, e2, hprs⟩ := BuiltPrs.prs hY2 (by rw [List.length_append]; omega) (fun z hz => (List.mem_append.1 hz).elim (fun h => Prs.In.all HX.out Hgw.out z h) fun h => Prs.In.all HY.out Hgw.out z h)
          subst e2
          have hf := fitsStore_calls p2 c2 (lx ++ ly) t wz hprs (Tm.In_below Hgw.out It.out)
          rw [List.length_append] at hf hv28
          have Hf := Lib.hid hf
          have Hj := Lib.hid hj
          clear hf hprs hY2 hj
          simp [predsImp, Region.binds, dstAt, fx, wantedE, Act.eval]
          intros
          first
            | (rw [if_pos (by simp [*])]
               intro K hK)
            | (rename_i K hK)
          go_simp
          refine (show Calls Try.prog 24 #[.slice p2 (lx.length + ly.length) c2, .agg #[.int .i64 t.k, .int .i64 t.n, .string t.s, .slice t.p t.l.length t.c]] wz _ from Hf.out).mono ?_
          rintro e w9 ⟨b, rfl, -, g9⟩
          exact hK _ _ ⟨b, rfl⟩ (Kp.of_gr g9) (UseJ.other builtV_gr builtV_gr (by decide) (by decide) (by decide) (by decide) _ _ _ _ _ Hj.out g9)
        case b11 =>
          intro a wz hg hold
          have h0 : a.tmps[0]?.getD undef = .slice px lx.length cx := hold 0 rfl
          have h1 : a.tmps[1]?.getD undef = .slice py ly.length cy := hold 1 rfl
          have h5 : a.tmps[5]?.getD undef = .pointer (some ⟨w.heap.size, 0, none⟩) := hold 5 rfl
          have z0 := Kp.cell hg u0 (by show ¬ (w1.heap.size ≤ w.heap.size); omega)
          have z1 := Kp.cell hg u1 (by show ¬ (w1.heap.size ≤ w.heap.size); omega)
          have z2 := Kp.cell hg u2 (by show ¬ (w1.heap.size ≤ w.heap.size); omega)
          have z3 := Kp.cell hg u3 (by show ¬ (w1.heap.size ≤ w.heap.size); omega)
          have Hg := Lib.hid hg
          have Hgw : Hid (Gr w wz) := Below.trans g1 (hg.below (fun b hb => Nat.le_trans g1.size hb) g1.size)
          have hsz := hg.size
          clear hold u0 u1 u2 u3 hg
          simp [predsImp, Region.binds, dstAt, fx, wantedE, Act.eval]
          intros
          obtain ⟨bb, hbb⟩ := ‹boolV _ _›
          first
            | (rw [if_pos (by simp [*])]
               intro K hK)
            | (rename_i K hK)
          go_simp
          exact hK _ _ ⟨_, rfl⟩ (Gr.rfl' _)
        case b12 =>
          intro a wz hg hold
          have h0 : a.tmps[0]?.getD undef = .slice px lx.length cx := hold 0 rfl
          have h1 : a.tmps[1]?.getD undef = .slice py ly.length cy := hold 1 rfl
          have h5 : a.tmps[5]?.getD undef = .pointer (some ⟨w.heap.size, 0, none⟩) := hold 5 rfl
          have z0 := Kp.cell hg u0 (by show ¬ (w1.heap.size ≤ w.heap.size); omega)
          have z1 := Kp.cell hg u1 (by show ¬ (w1.heap.size ≤ w.heap.size); omega)
          have z2 := Kp.cell hg u2 (by show ¬ (w1.heap.size ≤ w.heap.size); omega)
          have z3 := Kp.cell hg u3 (by show ¬ (w1.heap.size ≤ w.heap.size); omega)
          have Hg := Lib.hid hg
          have Hgw : Hid (Gr w wz) := Below.trans g1 (hg.below (fun b hb => Nat.le_trans g1.size hb) g1.size)
          have hsz := hg.size
          clear hold u0 u1 u2 u3 hg
          simp [predsImp, Region.binds, dstAt, fx]
          intros
          obtain ⟨bb, hbb⟩ := ‹boolV _ _›
          first
            | (rw [if_pos (by simp [*])]
               intro K hK)
            | (rename_i K hK)
          go_simp
          exact hK _ _ ⟨_, rfl⟩ (Gr.rfl' _)
        all_goals
          intro a wz hg hold
          have h0 : a.tmps[0]?.getD undef = .slice px lx.length cx := hold 0 rfl
          have h1 : a.tmps[1]?.getD undef = .slice py ly.length cy := hold 1 rfl
          have h5 : a.tmps[5]?.getD undef = .pointer (some ⟨w.heap.size, 0, none⟩) := hold 5 rfl
          have z0 := Kp.cell hg u0 (by show ¬ (w1.heap.size ≤ w.heap.size); omega)
          have z1 := Kp.cell hg u1 (by show ¬ (w1.heap.size ≤ w.heap.size); omega)
          have z2 := Kp.cell hg u2 (by show ¬ (w1.heap.size ≤ w.heap.size); omega)
          have z3 := Kp.cell hg u3 (by show ¬ (w1.heap.size ≤ w.heap.size); omega)
          have Hg := Lib.hid hg
          have Hgw : Hid (Gr w wz) := Below.trans g1 (hg.below (fun b hb => Nat.le_trans g1.size hb) g1.size)
          have hsz := hg.size
          clear hold u0 u1 u2 u3 hg
          simp [predsImp, Region.binds, dstAt, fx, wantedE, Act.eval]
          intros
          first
            | (rw [if_pos (by simp [*])]
               intro K hK)
            | (rename_i K hK)
          go_simp
        all_goals exact hK _ _ rfl (Gr.rfl' _)
      · intro w2 hg
        rintro _ rfl _ rfl _ rfl _ rfl _ rfl _ rfl _ - _ rfl _ - _ rfl _ - _ - _ ⟨b4, rfl⟩
        simp only [finAll, Act.put, Exit.then, List.setIfInBounds_toArray, List.set_cons_succ, List.set_cons_zero]
        have g2 : Gr w w2 := Below.trans g1 (hg.below (fun b hb => Nat.le_trans g1.size hb) g1.size)
        have HT2 := Lib.hid (HT1.out.kp hg (by show ¬ (w1.heap.size ≤ w.heap.size); omega))
        clear u0 u1 u2 u3 hg
        cases b4 with
        | true =>
          go_wp2_with fail
          exact HR.out _ _ rfl g2
        | false =>
          go_wp2_with fail
          refine (thereUnify_calls w2).mono ?_
          rintro e w3 ⟨rfl, g3⟩
          replace g3 : Gr w2 w3 := g3
          have hB3 : w.heap.size + 1 ≤ w3.heap.size := by
            have := HT2.out.lt
            have := g3.size
            omega
          go_wp2_with fail
          refine (stNew_calls (B := w.heap.size + 1) w3 hB3).mono ?_
          rintro e w4 ⟨s, rfl, es, is, ms, ss, g4⟩
          have Hs4 := Lib.hid (And.intro es (And.intro is (And.intro ms ss)))
          clear es is ms ss
          go_wp2_with fail
          refine (stNew_calls (B := w.heap.size + 1) w4 (Nat.le_trans hB3 g4.size)).mono ?_
          rintro e w5 ⟨u, rfl, eu, iu, mu, su, g5⟩
          obtain ⟨es, is, ms, ss⟩ := Hs4.out
          have HS0 : Hid (∃ s' u' : StD, s'.P = s.P ∧ u'.P = u.P ∧ s'.In (w.heap.size + 1) w5 ∧ u'.In (w.heap.size + 1) w5 ∧ s'.apart u' ∧ s'.E = u'.E ∧ s'.E.length ≤ 0) := by
            refine ⟨s, u, rfl, rfl, is.gr g5, iu, ⟨fun b hb hf => ?_, fun b hb hf => ?_⟩, es.trans eu.symm, by rw [es]; exact Nat.le_refl _⟩
            · have h1 := is.lt (.inl hb)
              have h2 := ms b hb
              rcases hf with hf | hf
              · have := mu b hf; omega
              · have := (su b).1 hf; omega
            · have h1 := mu b hb
              have h2 := is.lt hf
              omega
          have g25 : Gr w2 w5 := (g3.trans g4).trans g5
          have gw5 : Gr w w5 := g2.trans g25
          have HT5 := Lib.hid (HT2.out.gr g25)
          clear es is ms ss eu iu mu su Hs4 g3 g4 g5
          generalize s.P = P1 at *
          generalize u.P = P2 at *
          go_wp2_with fail
          go_loopg [9] lx.length (fun m i wr => ∃ k : Nat, k ≤ lx.length ∧ m = lx.length - k ∧ i = .int .i64 k ∧ Hid (∃ s u : StD, s.P = P1 ∧ u.P = P2 ∧ s.In (w.heap.size + 1) wr ∧ u.In (w.heap.size + 1) wr ∧ s.apart u ∧ s.E = u.E ∧ s.E.length ≤ k) ∧ Hid (BlkT wr w.heap.size 27 #[.int .i64 t.k, .int .i64 t.n, .string t.s, .slice t.p t.l.length t.c]) ∧ Gr w wr)
          case atStart => exact ⟨0, Nat.zero_le _, rfl, rfl, HS0, HT5, gw5⟩
          case round =>
            obtain ⟨k, hk, rfl, rfl, hst, hbt, gr⟩ := hrel
            by_cases hlt : k < lx.length
            · obtain ⟨b, o, rfl⟩ := HX.out.ptr (by omega)
              have hin0 := (HX.out.2.2.2 _ (List.getElem_mem hlt))
              have Hel := Lib.hid (fun W (g : Gr w W) => (HX.out.mono g).elem k hlt)
              obtain ⟨⟨⟨c0, c1, c2, c3⟩, ⟨d0, d1, d2, d3⟩⟩, ⟨hia, hib⟩, hbl⟩ := Hel.out wr gr
              have Hia := Lib.hid hin0.1
              have Hib := Lib.hid hin0.2
              clear hia hib hin0
              generalize lx[k] = y at *
              obtain ⟨s, u, hP1, hP2, is, iu, hap, hE, hlen⟩ := hst.out
              have Is := Lib.hid is
              have Iu := Lib.hid iu
              have Hap := Lib.hid hap
              have HE := Lib.hid hE
              have HP1 := Lib.hid hP1
              have HP2 := Lib.hid hP2
              clear hst is iu hap hE hP1 hP2
              go_upto_region 9 with fail
              have Gwr := Lib.hid gr
              obtain ⟨r, hdet⟩ := TookP.det s.E y.a.erase y.b.erase
              have Hdet := Lib.hid hdet
              have HC : Hid (∀ z, s.mu z → w.heap.size + 1 ≤ z) := fun z hz => Is.out.ge hz
              have hbw : b < w.heap.size := by
                rcases HX.out.2.2.1 with h | ⟨b0, o0, hp0, hr0⟩
                · simp only at h; rw [h] at hlt; simp at hlt
                · cases hp0; exact Pr.row_lt hr0 (by intro h; simp only at h; rw [h] at hlt; simp at hlt)
              have Hnb : Hid (¬ s.mu b) := fun hm => by have := HC.out b hm; omega
              clear hdet
              refine wp_region_relyK [fx (.pointer (some ⟨P1, 0, none⟩)), fx (.slice (some ⟨b, o, none⟩) lx.length cx), fx (.int .i64 k), fx (.pointer (some ⟨b, o + k * 8, none⟩)), fx (.pointer (some ⟨b, o + k * 8, none⟩)), fx (.agg #[.int .i64 y.a.k, .int .i64 y.a.n, .string y.a.s, .slice y.a.p y.a.l.length y.a.c]), fx (.slice (some ⟨b, o, none⟩) lx.length cx), fx (.int .i64 k), fx (.pointer (some ⟨b, o + k * 8, none⟩)), fx (.pointer (some ⟨b, o + k * 8 + 4, none⟩)), fx (.agg #[.int .i64 y.b.k, .int .i64 y.b.n, .string y.b.s, .slice y.b.p y.b.l.length y.b.c]), fx (.tuple #[.bool r, .int .i64 (errOf (y.a.erase.formed && y.b.erase.formed))]), fx (.tuple #[.bool r, .int .i64 (errOf (y.a.erase.formed && y.b.erase.formed))]), fx (.bool r), fx (.int .i64 (errOf (y.a.erase.formed && y.b.erase.formed))), fx (.bool r), fx (.int .i64 (errOf (y.a.erase.formed && y.b.erase.formed)))] (Kp s.mu) (FlipJ 11 (BeforeU (w.heap.size + 1) s y.a y.b) (AfterU (w.heap.size + 1) wr s y.a.erase y.b.erase r))
                (by kernel_rfl) (by kernel_rfl) (fun _ _ h => Kp.of_gr h) (fun _ _ _ h k => Kp.trans h k) (fun w0 h => FlipJ.start (BeforeU.gr _ _ ⟨Is.out, Tm.In_below Gwr.out Hia.out, Tm.In_below Gwr.out Hib.out⟩ h)) (by repeat (first | exact StableR.nil | refine StableR.fix ?_)) ?_ ?_
              · refine ⟨stepK_plain (fun _ _ h => Kp.of_gr h) (fun listed w w' h hg => FlipJ.other BeforeU.gr AfterU.gr (by decide) listed w w' h hg) ?_, stepK_plain (fun _ _ h => Kp.of_gr h) (fun listed w w' h hg => FlipJ.other BeforeU.gr AfterU.gr (by decide) listed w w' h hg) ?_, stepK_plain (fun _ _ h => Kp.of_gr h) (fun listed w w' h hg => FlipJ.other BeforeU.gr AfterU.gr (by decide) listed w w' h hg) ?_, stepK_plain (fun _ _ h => Kp.of_gr h) (fun listed w w' h hg => FlipJ.other BeforeU.gr AfterU.gr (by decide) listed w w' h hg) ?_, stepK_plain (fun _ _ h => Kp.of_gr h) (fun listed w w' h hg => FlipJ.other BeforeU.gr AfterU.gr (by decide) listed w w' h hg) ?_, stepK_plain (fun _ _ h => Kp.of_gr h) (fun listed w w' h hg => FlipJ.other BeforeU.gr AfterU.gr (by decide) listed w w' h hg) ?_, stepK_plain (fun _ _ h => Kp.of_gr h) (fun listed w w' h hg => FlipJ.other BeforeU.gr AfterU.gr (by decide) listed w w' h hg) ?_, stepK_plain (fun _ _ h => Kp.of_gr h) (fun listed w w' h hg => FlipJ.other BeforeU.gr AfterU.gr (by decide) listed w w' h hg) ?_, stepK_plain (fun _ _ h => Kp.of_gr h) (fun listed w w' h hg => FlipJ.other BeforeU.gr AfterU.gr (by decide) listed w w' h hg) ?_, stepK_plain (fun _ _ h => Kp.of_gr h) (fun listed w w' h hg => FlipJ.other BeforeU.gr AfterU.gr (by decide) listed w w' h hg) ?_, stepK_plain (fun _ _ h => Kp.of_gr h) (fun listed w w' h hg => FlipJ.other BeforeU.gr AfterU.gr (by decide) listed w w' h hg) ?_, ?a11, stepK_plain (fun _ _ h => Kp.of_gr h) (fun listed w w' h hg => FlipJ.other BeforeU.gr AfterU.gr (by decide) listed w w' h hg) ?_, stepK_plain (fun _ _ h => Kp.of_gr h) (fun listed w w' h hg => FlipJ.other BeforeU.gr AfterU.gr (by decide) listed w w' h hg) ?_, stepK_plain (fun _ _ h => Kp.of_gr h) (fun listed w w' h hg => FlipJ.other BeforeU.gr AfterU.gr (by decide) listed w w' h hg) ?_, stepK_plain (fun _ _ h => Kp.of_gr h) (fun listed w w' h hg => FlipJ.other BeforeU.gr AfterU.gr (by decide) listed w w' h hg) ?_, stepK_plain (fun _ _ h => Kp.of_gr h) (fun listed w w' h hg => FlipJ.other BeforeU.gr AfterU.gr (by decide) listed w w' h hg) ?_, trivial⟩
                case a11 =>
                  intro listed a wz hj hl hpre hg hdef hold
                  have hbf := hj.pre (getD_tf hl)
                  clear hdef
                  have h0 : a.tmps[0]?.getD undef = .slice (some ⟨b, o, none⟩) lx.length cx := hold 0 rfl
                  have hp : a.tmps[7]?.getD undef = .pointer (some ⟨P1, 0, none⟩) := hold 7 rfl
                  have hi : a.tmps[9]?.getD undef = .int .i64 k := hold 9 rfl
                  have zc0 := Kp.cell hg c0 Hnb.out
                  have zc1 := Kp.cell hg c1 Hnb.out
                  have zc2 := Kp.cell hg c2 Hnb.out
                  have zc3 := Kp.cell hg c3 Hnb.out
                  have zd0 := Kp.cell hg d0 Hnb.out
                  have zd1 := Kp.cell hg d1 Hnb.out
                  have zd2 := Kp.cell hg d2 Hnb.out
                  have zd3 := Kp.cell hg d3 Hnb.out
                  have Hg := Lib.hid hg
                  clear hold c0 c1 c2 c3 d0 d1 d2 d3 hg
                  have hs := stU_calls hbf.1 y.a y.b hbf.2.1 hbf.2.2 (by omega)
                  rw [HP1.out] at hs
                  have Hs := Lib.hid (show Calls Try.prog 26 #[.pointer (some ⟨P1, 0, none⟩), .agg #[.int .i64 y.a.k, .int .i64 y.a.n, .string y.a.s, .slice y.a.p y.a.l.length y.a.c], .agg #[.int .i64 y.b.k, .int .i64 y.b.n, .string y.b.s, .slice y.b.p y.b.l.length y.b.c]] wz _ from hs)
                  clear hs hbf
                  simp [predsImp, Region.binds, dstAt, fx]
                  intros
                  rename_i K hK
                  go_simp
                  refine Hs.out.mono ?_
                  rintro e w7 ⟨s', r', rfl, htk, is', k7, hto⟩
                  obtain rfl := Hdet.out _ _ htk
                  exact hK _ _ rfl k7 (FlipJ.step hl ⟨s', htk, is', hto.early Hg.out.size⟩)
                all_goals
                  intro a wz hg hold
                  have h0 : a.tmps[0]?.getD undef = .slice (some ⟨b, o, none⟩) lx.length cx := hold 0 rfl
                  have hp : a.tmps[7]?.getD undef = .pointer (some ⟨P1, 0, none⟩) := hold 7 rfl
                  have hi : a.tmps[9]?.getD undef = .int .i64 k := hold 9 rfl
                  have zc0 := Kp.cell hg c0 Hnb.out
                  have zc1 := Kp.cell hg c1 Hnb.out
                  have zc2 := Kp.cell hg c2 Hnb.out
                  have zc3 := Kp.cell hg c3 Hnb.out
                  have zd0 := Kp.cell hg d0 Hnb.out
                  have zd1 := Kp.cell hg d1 Hnb.out
                  have zd2 := Kp.cell hg d2 Hnb.out
                  have zd3 := Kp.cell hg d3 Hnb.out
                  have Hg := Lib.hid hg
                  clear hold c0 c1 c2 c3 d0 d1 d2 d3 hg
                  simp [predsImp, Region.binds, dstAt, fx]
                  intros
                  rename_i K hK
                  go_simp
                all_goals exact hK _ _ rfl (Gr.rfl' _)
              · intro w7 k7 hj
                rintro _ rfl _ rfl _ rfl _ rfl _ rfl _ rfl _ rfl _ rfl _ rfl _ rfl _ rfl _ rfl _ rfl _ rfl _ rfl _ rfl _ rfl
                simp only [finAll, Act.put, Exit.then, List.setIfInBounds_toArray, List.set_cons_succ, List.set_cons_zero]
                obtain ⟨s', htk, is', hto⟩ := hj.post (by simp)
                have g7 : Gr w w7 := Below.trans gr (k7.below (fun b hb => by have := Is.out.ge hb; omega) gr.size)
                have Is7 := Lib.hid is'
                have Iu7 := Lib.hid (Iu.out.kp k7 fun b hb hm => Hap.out.1 b hm hb)
                have HB7 := Lib.hid (hbt.out.kp k7 fun hm => by have := Is.out.ge hm; omega)
                have Hap7 := Lib.hid (Hap.out.step Iu.out hto)
                have HP17 := Lib.hid (hto.P.trans HP1.out)
                have Htk := Lib.hid htk
                clear htk is' k7 hto hj c0 c1 c2 c3 d0 d1 d2 d3 Hdet HC Hnb hbw
                obtain ⟨⟨⟨c0, c1, c2, c3⟩, ⟨d0, d1, d2, d3⟩⟩, -, -⟩ := Hel.out w7 g7
                have Gw7 := Lib.hid g7
                go_upto_region 10 with fail
                clear Gwr
                generalize hr0 : r = r0 at *
                clear hr0
                obtain ⟨r, hdet⟩ := TookP.det u.E y.a.erase y.b.erase
                have Hdet := Lib.hid hdet
                have HC : Hid (∀ z, u.mu z → w.heap.size + 1 ≤ z) := fun z hz => Iu7.out.ge hz
                have hbw : b < w.heap.size := by
                  rcases HX.out.2.2.1 with h | ⟨b0, o0, hp0, hr0⟩
                  · simp only at h; rw [h] at hlt; simp at hlt
                  · cases hp0; exact Pr.row_lt hr0 (by intro h; simp only at h; rw [h] at hlt; simp at hlt)
                have Hnb : Hid (¬ u.mu b) := fun hm => by have := HC.out b hm; omega
                clear hdet
                refine wp_region_relyK [fx (.pointer (some ⟨P2, 0, none⟩)), fx (.slice (some ⟨b, o, none⟩) lx.length cx), fx (.int .i64 k), fx (.pointer (some ⟨b, o + k * 8, none⟩)), fx (.pointer (some ⟨b, o + k * 8, none⟩)), fx (.agg #[.int .i64 y.a.k, .int .i64 y.a.n, .string y.a.s, .slice y.a.p y.a.l.length y.a.c]), fx (.slice (some ⟨b, o, none⟩) lx.length cx), fx (.int .i64 k), fx (.pointer (some ⟨b, o + k * 8, none⟩)), fx (.pointer (some ⟨b, o + k * 8 + 4, none⟩)), fx (.agg #[.int .i64 y.b.k, .int .i64 y.b.n, .string y.b.s, .slice y.b.p y.b.l.length y.b.c]), fx (.tuple #[.bool r, .int .i64 (errOf (y.a.erase.formed && y.b.erase.formed))]), fx (.tuple #[.bool r, .int .i64 (errOf (y.a.erase.formed && y.b.erase.formed))]), fx (.bool r), fx (.int .i64 (errOf (y.a.erase.formed && y.b.erase.formed))), fx (.bool r), fx (.int .i64 (errOf (y.a.erase.formed && y.b.erase.formed)))] (Kp u.mu) (FlipJ 11 (BeforeU (w.heap.size + 1) u y.a y.b) (AfterU (w.heap.size + 1) w7 u y.a.erase y.b.erase r))
                  (by kernel_rfl) (by kernel_rfl) (fun _ _ h => Kp.of_gr h) (fun _ _ _ h k => Kp.trans h k) (fun w0 h => FlipJ.start (BeforeU.gr _ _ ⟨Iu7.out, Tm.In_below Gw7.out Hia.out, Tm.In_below Gw7.out Hib.out⟩ h)) (by repeat (first | exact StableR.nil | refine StableR.fix ?_)) ?_ ?_
                · refine ⟨stepK_plain (fun _ _ h => Kp.of_gr h) (fun listed w w' h hg => FlipJ.other BeforeU.gr AfterU.gr (by decide) listed w w' h hg) ?_, stepK_plain (fun _ _ h => Kp.of_gr h) (fun listed w w' h hg => FlipJ.other BeforeU.gr AfterU.gr (by decide) listed w w' h hg) ?_, stepK_plain (fun _ _ h => Kp.of_gr h) (fun listed w w' h hg => FlipJ.other BeforeU.gr AfterU.gr (by decide) listed w w' h hg) ?_, stepK_plain (fun _ _ h => Kp.of_gr h) (fun listed w w' h hg => FlipJ.other BeforeU.gr AfterU.gr (by decide) listed w w' h hg) ?_, stepK_plain (fun _ _ h => Kp.of_gr h) (fun listed w w' h hg => FlipJ.other BeforeU.gr AfterU.gr (by decide) listed w w' h hg) ?_, stepK_plain (fun _ _ h => Kp.of_gr h) (fun listed w w' h hg => FlipJ.other BeforeU.gr AfterU.gr (by decide) listed w w' h hg) ?_, stepK_plain (fun _ _ h => Kp.of_gr h) (fun listed w w' h hg => FlipJ.other BeforeU.gr AfterU.gr (by decide) listed w w' h hg) ?_, stepK_plain (fun _ _ h => Kp.of_gr h) (fun listed w w' h hg => FlipJ.other BeforeU.gr AfterU.gr (by decide) listed w w' h hg) ?_, stepK_plain (fun _ _ h => Kp.of_gr h) (fun listed w w' h hg => FlipJ.other BeforeU.gr AfterU.gr (by decide) listed w w' h hg) ?_, stepK_plain (fun _ _ h => Kp.of_gr h) (fun listed w w' h hg => FlipJ.other BeforeU.gr AfterU.gr (by decide) listed w w' h hg) ?_, stepK_plain (fun _ _ h => Kp.of_gr h) (fun listed w w' h hg => FlipJ.other BeforeU.gr AfterU.gr (by decide) listed w w' h hg) ?_, ?a11, stepK_plain (fun _ _ h => Kp.of_gr h) (fun listed w w' h hg => FlipJ.other BeforeU.gr AfterU.gr (by decide) listed w w' h hg) ?_, stepK_plain (fun _ _ h => Kp.of_gr h) (fun listed w w' h hg => FlipJ.other BeforeU.gr AfterU.gr (by decide) listed w w' h hg) ?_, stepK_plain (fun _ _ h => Kp.of_gr h) (fun listed w w' h hg => FlipJ.other BeforeU.gr AfterU.gr (by decide) listed w w' h hg) ?_, stepK_plain (fun _ _ h => Kp.of_gr h) (fun listed w w' h hg => FlipJ.other BeforeU.gr AfterU.gr (by decide) listed w w' h hg) ?_, stepK_plain (fun _ _ h => Kp.of_gr h) (fun listed w w' h hg => FlipJ.other BeforeU.gr AfterU.gr (by decide) listed w w' h hg) ?_, trivial⟩
                  case a11 =>
                    intro listed a wz hj hl hpre hg hdef hold
                    have hbf := hj.pre (getD_tf hl)
                    clear hdef
                    have h0 : a.tmps[0]?.getD undef = .slice (some ⟨b, o, none⟩) lx.length cx := hold 0 rfl
                    have hp : a.tmps[8]?.getD undef = .pointer (some ⟨P2, 0, none⟩) := hold 8 rfl
                    have hi : a.tmps[9]?.getD undef = .int .i64 k := hold 9 rfl
                    have zc0 := Kp.cell hg c0 Hnb.out
                    have zc1 := Kp.cell hg c1 Hnb.out
                    have zc2 := Kp.cell hg c2 Hnb.out
                    have zc3 := Kp.cell hg c3 Hnb.out
                    have zd0 := Kp.cell hg d0 Hnb.out
                    have zd1 := Kp.cell hg d1 Hnb.out
                    have zd2 := Kp.cell hg d2 Hnb.out
                    have zd3 := Kp.cell hg d3 Hnb.out
                    have Hg := Lib.hid hg
                    clear hold c0 c1 c2 c3 d0 d1 d2 d3 hg
                    have hs := stU_calls hbf.1 y.a y.b hbf.2.1 hbf.2.2 (by rw [← HE.out]; omega)
                    rw [HP2.out] at hs
                    have Hs := Lib.hid (show Calls Try.prog 26 #[.pointer (some ⟨P2, 0, none⟩), .agg #[.int .i64 y.a.k, .int .i64 y.a.n, .string y.a.s, .slice y.a.p y.a.l.length y.a.c], .agg #[.int .i64 y.b.k, .int .i64 y.b.n, .string y.b.s, .slice y.b.p y.b.l.length y.b.c]] wz _ from hs)
                    clear hs hbf
                    simp [predsImp, Region.binds, dstAt, fx]
                    intros
                    rename_i K hK
                    go_simp
                    refine Hs.out.mono ?_
                    rintro e w7 ⟨s', r', rfl, htk, is', k7, hto⟩
                    obtain rfl := Hdet.out _ _ htk
                    exact hK _ _ rfl k7 (FlipJ.step hl ⟨s', htk, is', hto.early Hg.out.size⟩)
                  all_goals
                    intro a wz hg hold
                    have h0 : a.tmps[0]?.getD undef = .slice (some ⟨b, o, none⟩) lx.length cx := hold 0 rfl
                    have hp : a.tmps[8]?.getD undef = .pointer (some ⟨P2, 0, none⟩) := hold 8 rfl
                    have hi : a.tmps[9]?.getD undef = .int .i64 k := hold 9 rfl
                    have zc0 := Kp.cell hg c0 Hnb.out
                    have zc1 := Kp.cell hg c1 Hnb.out
                    have zc2 := Kp.cell hg c2 Hnb.out
                    have zc3 := Kp.cell hg c3 Hnb.out
                    have zd0 := Kp.cell hg d0 Hnb.out
                    have zd1 := Kp.cell hg d1 Hnb.out
                    have zd2 := Kp.cell hg d2 Hnb.out
                    have zd3 := Kp.cell hg d3 Hnb.out
                    have Hg := Lib.hid hg
                    clear hold c0 c1 c2 c3 d0 d1 d2 d3 hg
                    simp [predsImp, Region.binds, dstAt, fx]
                    intros
                    rename_i K hK
                    go_simp
                  all_goals exact hK _ _ rfl (Gr.rfl' _)
                · intro w9 k9 hj
                  rintro _ rfl _ rfl _ rfl _ rfl _ rfl _ rfl _ rfl _ rfl _ rfl _ rfl _ rfl _ rfl _ rfl _ rfl _ rfl _ rfl _ rfl
                  simp only [finAll, Act.put, Exit.then, List.setIfInBounds_toArray, List.set_cons_succ, List.set_cons_zero]
                  obtain ⟨u', htk, iu', hto⟩ := hj.post (by simp)
                  have g9 : Gr w w9 := Below.trans g7 (k9.below (fun b hb => by have := Iu7.out.ge hb; omega) g7.size)
                  rw [← HE.out] at htk
                  obtain ⟨rfl, hEE⟩ := Htk.out.uniq htk
                  have Hst : Hid (∃ s u : StD, s.P = P1 ∧ u.P = P2 ∧ s.In (w.heap.size + 1) w9 ∧ u.In (w.heap.size + 1) w9 ∧ s.apart u ∧ s.E = u.E ∧ s.E.length ≤ k + 1) := by
                    refine ⟨s', u', HP17.out, hto.P.trans HP2.out, Is7.out.kp k9 (fun b hb hm => Hap7.out.2 b hm hb), iu', (Hap7.out.swap.step Is7.out hto).swap, hEE, ?_⟩
                    obtain ⟨F, hF, hF1⟩ := Htk.out.more
                    rw [hF, List.length_append]
                    omega
                  have HB9 := Lib.hid (HB7.out.kp k9 fun hm => by have := Iu7.out.ge hm; omega)
                  clear htk iu' k9 hto hEE hj c0 c1 c2 c3 d0 d1 d2 d3
                  go_wp2_with fail
                  go_roundg (lx.length - (k + 1))
                  case measure => omega
                  case rel => exact ⟨k + 1, by omega, rfl, by go_num, Hst, HB9, g9⟩
            · obtain rfl : k = lx.length := by omega
              obtain ⟨s, u, hP1, hP2, is, iu, hap, hE, hlen⟩ := hst.out
              have Iu := Lib.hid iu
              have HE := Lib.hid hE
              have HP2 := Lib.hid hP2
              have hmk := stMark_calls is
              rw [hP1] at hmk
              have Hmk := Lib.hid hmk
              generalize hE0 : s.E = E0 at *
              have Hst2 := Lib.hid (show ∃ s : StD, s.P = P1 ∧ s.In (w.heap.size + 1) wr ∧ s.apart u ∧ ∃ F, s.E = E0 ++ F ∧ F.length ≤ 0 from ⟨s, hP1, is, hap, [], by rw [hE0, List.append_nil], Nat.le_refl _⟩)
              clear hst is iu hap hE hP1 hP2 hmk hE0 hlt hk
              go_wp2_with fail
              refine Hmk.out.mono ?_
              rintro e w6 ⟨rfl, g6⟩
              replace g6 : Gr wr w6 := g6
              have gw6 : Gr w w6 := gr.trans g6
              have Hst6 : Hid (∃ s : StD, s.P = P1 ∧ s.In (w.heap.size + 1) w6 ∧ s.apart u ∧ ∃ F, s.E = E0 ++ F ∧ F.length ≤ 0) := by
                obtain ⟨s, h1, h2, h3, h4⟩ := Hst2.out
                exact ⟨s, h1, h2.gr g6, h3, h4⟩
              have Iu6 := Lib.hid (Iu.out.gr g6)
              have HB6 := Lib.hid (hbt.out.gr g6)
              have hE0l : E0.length ≤ 1048576 := by omega
              clear Hst2 Iu hbt Hmk gr g6 hlen
              go_wp2_with fail
              go_loopg [15] ly.length (fun m i wq => ∃ k : Nat, k ≤ ly.length ∧ m = ly.length - k ∧ i = .int .i64 k ∧ Hid (∃ s : StD, s.P = P1 ∧ s.In (w.heap.size + 1) wq ∧ s.apart u ∧ ∃ F, s.E = E0 ++ F ∧ F.length ≤ k) ∧ Hid (u.In (w.heap.size + 1) wq) ∧ Hid (BlkT wq w.heap.size 27 #[.int .i64 t.k, .int .i64 t.n, .string t.s, .slice t.p t.l.length t.c]) ∧ Gr w wq)
              case atStart => exact ⟨0, Nat.zero_le _, rfl, rfl, Hst6, Iu6, HB6, gw6⟩
              case round =>
                clear Hst6 Iu6 HB6 gw6
                obtain ⟨k, hk, rfl, rfl, hst, hiu, hbt, gr⟩ := hrel
                obtain ⟨s, hP1, is, hap, F, hF, hF1⟩ := hst.out
                have Is := Lib.hid is
                have Hap := Lib.hid hap
                have HP1 := Lib.hid hP1
                have HF := Lib.hid hF
                clear hst is hap hP1 hF
                by_cases hlt : k < ly.length
                · obtain ⟨b, o, rfl⟩ := HY.out.ptr (by omega)
                  have hin0 := (HY.out.2.2.2 _ (List.getElem_mem hlt))
                  obtain ⟨⟨⟨c0, c1, c2, c3⟩, ⟨d0, d1, d2, d3⟩⟩, ⟨hia, hib⟩, hbl⟩ := (HY.out.mono gr).elem k hlt
                  have Hia := Lib.hid hin0.1
                  have Hib := Lib.hid hin0.2
                  clear hia hib hin0
                  generalize ly[k] = y at *
                  go_upto_region 17 with fail
                  refine wp_region_rely_tail 11 [fx (.pointer (some ⟨P1, 0, none⟩)), fx (.slice (some ⟨b, o, none⟩) ly.length cy), fx (.int .i64 k), fx (.pointer (some ⟨b, o + k * 8, none⟩)), fx (.pointer (some ⟨b, o + k * 8, none⟩)), fx (.agg #[.int .i64 y.a.k, .int .i64 y.a.n, .string y.a.s, .slice y.a.p y.a.l.length y.a.c]), fx (.slice (some ⟨b, o, none⟩) ly.length cy), fx (.int .i64 k), fx (.pointer (some ⟨b, o + k * 8, none⟩)), fx (.pointer (some ⟨b, o + k * 8 + 4, none⟩)), fx (.agg #[.int .i64 y.b.k, .int .i64 y.b.n, .string y.b.s, .slice y.b.p y.b.l.length y.b.c])]
                    (by kernel_rfl) (by kernel_rfl) (by decide) (by repeat (first | exact Stable.nil | refine Stable.fix ?_)) ?_ ?_
                  · refine ⟨?_, ?_, ?_, ?_, ?_, ?_, ?_, ?_, ?_, ?_, ?_, trivial⟩
                    all_goals
                      intro a wz hg hold
                      have h0 : a.tmps[1]?.getD undef = .slice (some ⟨b, o, none⟩) ly.length cy := hold 1 rfl
                      have hp : a.tmps[7]?.getD undef = .pointer (some ⟨P1, 0, none⟩) := hold 7 rfl
                      have hi : a.tmps[15]?.getD undef = .int .i64 k := hold 15 rfl
                      have zc0 := Gr.at hg c0
                      have zc1 := Gr.at hg c1
                      have zc2 := Gr.at hg c2
                      have zc3 := Gr.at hg c3
                      have zd0 := Gr.at hg d0
                      have zd1 := Gr.at hg d1
                      have zd2 := Gr.at hg d2
                      have zd3 := Gr.at hg d3
                      clear hold c0 c1 c2 c3 d0 d1 d2 d3
                      simp [predsImp, Region.binds, dstAt, fx]
                      intros
                      first
                        | (rw [if_pos (by simp [*])]
                           intro K hK)
                        | (rename_i K hK)
                      go_simp
                    all_goals exact hK _ _ rfl (Gr.rfl' _)
                  · intro w7 hg
                    rintro _ rfl _ rfl _ rfl _ rfl _ rfl _ rfl _ rfl _ rfl _ rfl _ rfl _ rfl
                    simp only [finAll, Act.put, List.setIfInBounds_toArray, List.set_cons_succ, List.set_cons_zero, List.drop_succ_cons, List.drop_zero, List.take_zero]
                    have g7 : Gr w w7 := gr.trans hg
                    have Is7 := Lib.hid (Is.out.gr hg)
                    have hs := stU_calls Is7.out y.a y.b (Tm.In_below g7 Hia.out) (Tm.In_below g7 Hib.out) (by rw [HF.out, List.length_append]; omega)
                    rw [HP1.out] at hs
                    have Hs := Lib.hid (show Calls Try.prog 26 #[.pointer (some ⟨P1, 0, none⟩), .agg #[.int .i64 y.a.k, .int .i64 y.a.n, .string y.a.s, .slice y.a.p y.a.l.length y.a.c], .agg #[.int .i64 y.b.k, .int .i64 y.b.n, .string y.b.s, .slice y.b.p y.b.l.length y.b.c]] w7 _ from hs)
                    have Hiu7 := Lib.hid (hiu.out.gr hg)
                    have Hbt7 := Lib.hid (hbt.out.gr hg)
                    clear hs c0 c1 c2 c3 d0 d1 d2 d3 hg
                    go_wp2_with fail
                    refine Hs.out.mono ?_
                    rintro e w8 ⟨s', r, rfl, htk, is', k8, hto⟩
                    have g8 : Gr w w8 := Below.trans g7 (k8.below (fun b hb => by have := Is7.out.ge hb; omega) g7.size)
                    have Hst8 : Hid (∃ s : StD, s.P = P1 ∧ s.In (w.heap.size + 1) w8 ∧ s.apart u ∧ ∃ F, s.E = E0 ++ F ∧ F.length ≤ k + 1) := by
                      obtain ⟨F', hF', hF2⟩ := htk.more
                      exact ⟨s', hto.P.trans HP1.out, is', Hap.out.step Hiu7.out hto, F ++ F', by rw [hF', HF.out, List.append_assoc], by rw [List.length_append]; omega⟩
                    have Hiu8 := Lib.hid (Hiu7.out.kp k8 fun b hb hm => Hap.out.1 b hm hb)
                    have HB8 := Lib.hid (Hbt7.out.kp k8 fun hm => by have := Is7.out.ge hm; omega)
                    clear htk is' k8 hto Hs
                    go_wp2_with fail
                    go_roundg (ly.length - (k + 1))
                    case measure => omega
                    case rel => exact ⟨k + 1, by omega, rfl, by go_num, Hst8, Hiu8, HB8, g8⟩
                · obtain rfl : k = ly.length := by omega
                  have hu := stUndo_calls Is.out E0.length (by rw [HF.out, List.length_append]; omega)
                  rw [HP1.out] at hu
                  have Hu := Lib.hid hu
                  clear hu
                  go_wp2_with fail
                  refine Hu.out.mono ?_
                  rintro e w7 ⟨s', rfl, hE', is', k7, hto⟩
                  have g7 : Gr w w7 := Below.trans gr (k7.below (fun b hb => by have := Is.out.ge hb; omega) gr.size)
                  have Is7 := Lib.hid is'
                  have Iu7 := Lib.hid (hiu.out.kp k7 fun b hb hm => Hap.out.1 b hm hb)
                  have HB7 := Lib.hid (hbt.out.kp k7 fun hm => by have := Is.out.ge hm; omega)
                  have hEs : s'.E = E0 := by rw [hE', HF.out, List.take_left]
                  have HEs := Lib.hid hEs
                  have HP17 := Lib.hid (hto.P.trans HP1.out)
                  have hm1 := stMark_calls Is7.out
                  rw [HP17.out, hEs] at hm1
                  have Hm1 := Lib.hid hm1
                  clear hE' is' k7 hto hEs hm1 Hu Is hiu hbt Hap
                  go_wp2_with fail
                  refine Hm1.out.mono ?_
                  rintro e w8 ⟨rfl, g8⟩
                  replace g8 : Gr w7 w8 := g8
                  have hm2 := stMark_calls (Iu7.out.gr g8)
                  rw [HP2.out, ← HE.out] at hm2
                  have Hm2 := Lib.hid hm2
                  clear hm2
                  go_wp2_with fail
                  refine Hm2.out.mono ?_
                  rintro e w9 ⟨rfl, g9⟩
                  replace g9 : Gr w7 w9 := Gr.trans g8 g9
                  have Is9 := Lib.hid (Is7.out.gr g9)
                  have Iu9 := Lib.hid (Iu7.out.gr g9)
                  have HB9 := Lib.hid (HB7.out.gr g9)
                  have gw9 := g7.trans g9
                  have Hρ := Lib.hid (Is9.out.same Iu9.out (HEs.out.trans HE.out))
                  have hr1 := stR_calls Is9.out t (Tm.In_below gw9 It.out) (Ot.out.mono fun b hb => by omega)
                  rw [HP17.out] at hr1
                  have Hr1 := Lib.hid (show Calls Try.prog 29 #[.pointer (some ⟨P1, 0, none⟩), .agg #[.int .i64 t.k, .int .i64 t.n, .string t.s, .slice t.p t.l.length t.c]] w9 _ from hr1)
                  have t0 := HB9.out.cell 0 (v := .int .i64 t.k) rfl
                  have t1 := HB9.out.cell 1 (v := .int .i64 t.n) rfl
                  have t2 := HB9.out.cell 2 (v := .string t.s) rfl
                  have t3 := HB9.out.cell 3 (v := .slice t.p t.l.length t.c) rfl
                  clear hr1 g8 g9 Is7 Iu7 HB7 Hm1 Hm2 g7
                  go_upto_region 21 with (first | (refine Hr1.out.mono ?_; rintro e wa ⟨m1, rfl, im1, em1, ga⟩; rw [show m1.val = .agg #[.int .i64 m1.k, .int .i64 m1.n, .string m1.s, .slice m1.p m1.l.length m1.c] from rfl]) | fail)
                  clear t0 t1 t2 t3 Hr1
                  have hM := BlkT.new wa 27 #[.int .i64 m1.k, .int .i64 m1.n, .string m1.s, .slice m1.p m1.l.length m1.c]
                  have gM : Gr wa (wa.alloc (.cells #[.int .i64 m1.k, .int .i64 m1.n, .string m1.s, .slice m1.p m1.l.length m1.c] 27)) := by go_grown
                  generalize wa.alloc (.cells #[.int .i64 m1.k, .int .i64 m1.n, .string m1.s, .slice m1.p m1.l.length m1.c] 27) = wb at *
                  have HM := Lib.hid hM
                  have Im1 := Lib.hid (Tm.In_below gM im1)
                  generalize wa.heap.size = BM at *
                  have g9b : Gr w9 wb := Gr.trans ga gM
                  have Em1 := Lib.hid em1
                  have hr2 := stR_calls (Iu9.out.gr g9b) t (Tm.In_below (gw9.trans g9b) It.out) (Ot.out.mono fun b hb => by omega)
                  rw [HP2.out] at hr2
                  have Hr2 := Lib.hid (show Calls Try.prog 29 #[.pointer (some ⟨P2, 0, none⟩), .agg #[.int .i64 t.k, .int .i64 t.n, .string t.s, .slice t.p t.l.length t.c]] wb _ from hr2)
                  have hb9 := HB9.out.gr g9b
                  have t0 := hb9.cell 0 (v := .int .i64 t.k) rfl
                  have t1 := hb9.cell 1 (v := .int .i64 t.n) rfl
                  have t2 := hb9.cell 2 (v := .string t.s) rfl
                  have t3 := hb9.cell 3 (v := .slice t.p t.l.length t.c) rfl
                  clear hr2 hb9 im1 em1 hM gM ga
                  go_upto_region 22 with (first | (refine Hr2.out.mono ?_; rintro e wc ⟨m2, rfl, im2, em2, gc⟩; rw [show m2.val = .agg #[.int .i64 m2.k, .int .i64 m2.n, .string m2.s, .slice m2.p m2.l.length m2.c] from rfl]) | fail)
                  clear t0 t1 t2 t3 Hr2
                  have hN := BlkT.new wc 27 #[.int .i64 m2.k, .int .i64 m2.n, .string m2.s, .slice m2.p m2.l.length m2.c]
                  have gN : Gr wc (wc.alloc (.cells #[.int .i64 m2.k, .int .i64 m2.n, .string m2.s, .slice m2.p m2.l.length m2.c] 27)) := by go_grown
                  generalize wc.alloc (.cells #[.int .i64 m2.k, .int .i64 m2.n, .string m2.s, .slice m2.p m2.l.length m2.c] 27) = wd at *
                  have hM2 := HM.out.gr (Gr.trans gc gN)
                  have gbd : Gr wb wd := Gr.trans gc gN
                  have Im2 := Lib.hid (Tm.In_below gN im2)
                  have Im1' := Lib.hid (Tm.In_below gbd Im1.out)
                  generalize wc.heap.size = BN at *
                  have g9d : Gr w9 wd := g9b.trans gbd
                  have hee : m1.erase = m2.erase := by rw [Em1.out, em2, Hρ.out]
                  have hsame := same_calls Im1'.out Im2.out
                  rw [hee, (same_iff _ _).2 rfl] at hsame
                  have Hsame := Lib.hid (show Calls Try.prog 32 #[.agg #[.int .i64 m1.k, .int .i64 m1.n, .string m1.s, .slice m1.p m1.l.length m1.c], .agg #[.int .i64 m2.k, .int .i64 m2.n, .string m2.s, .slice m2.p m2.l.length m2.c]] wd _ from hsame)
                  have Is_d := Lib.hid (Is9.out.gr g9d)
                  have Iu_d := Lib.hid (Iu9.out.gr g9d)
                  have gwd := gw9.trans g9d
                  have hb1 := stB_calls Is_d.out
                  rw [HP17.out] at hb1
                  have m10 := hM2.cell 0 (v := .int .i64 m1.k) rfl
                  have m11 := hM2.cell 1 (v := .int .i64 m1.n) rfl
                  have m12 := hM2.cell 2 (v := .string m1.s) rfl
                  have m13 := hM2.cell 3 (v := .slice m1.p m1.l.length m1.c) rfl
                  have m20 := hN.cell 0 (v := .int .i64 m2.k) rfl
                  have m21 := hN.cell 1 (v := .int .i64 m2.n) rfl
                  have m22 := hN.cell 2 (v := .string m2.s) rfl
                  have m23 := hN.cell 3 (v := .slice m2.p m2.l.length m2.c) rfl
                  clear hb1 hM2 hN im2 em2 hee hsame gN gc gbd g9b
                  go_wp2_with fail
                  refine Hsame.out.mono ?_
                  rintro e we ⟨rfl, ge⟩
                  replace ge : Gr wd we := ge
                  have hb1 := stB_calls (Is_d.out.gr ge)
                  rw [HP17.out] at hb1
                  have Hb1 := Lib.hid hb1
                  clear hb1 m10 m11 m12 m13 m20 m21 m22 m23
                  go_wp2_with fail
                  refine Hb1.out.mono ?_
                  rintro e wf ⟨v1, L1, rfl, o1, l1, i1, gf⟩
                  obtain ⟨p1, c1, rfl⟩ := o1.form
                  have hb2 := stB_calls (Iu_d.out.gr (Gr.trans ge gf))
                  rw [HP2.out] at hb2
                  have Hb2 := Lib.hid hb2
                  have Sl1 := Lib.hid (o1.sl i1).2
                  have L1' := Lib.hid l1
                  clear hb2 o1 l1 i1 Hb1
                  go_wp2_with fail
                  refine Hb2.out.mono ?_
                  rintro e wg ⟨v2, L2, rfl, o2, l2, i2, gg⟩
                  obtain ⟨p2, c2, rfl⟩ := o2.form
                  rw [← Hρ.out] at l2
                  obtain rfl := L1'.out.uniq l2
                  have Hsn := Lib.hid (sameNumbers_calls p1 p2 c1 c2 L1 wg (Sl1.out.mono gg) (o2.sl i2).2)
                  have gwg : Gr w wg := ((gwd.trans ge).trans gf).trans gg
                  clear o2 l2 i2 gg Hb2
                  go_wp2_with fail
                  refine Hsn.out.mono ?_
                  rintro e wh ⟨rfl, gh⟩
                  replace gh : Gr wg wh := gh
                  go_wp2_with fail
                  exact HR.out _ _ rfl (gwg.trans gh)
end Go.Proofs.Ytmecghjnghhhkaa
