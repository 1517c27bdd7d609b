/-
  hornkeep.ownBinds: a list of binds in new memory, with spare room in which marks stand.
  hornkeep.stillBinds: a list of binds of one's own is as it was.
  Matching, plain: one term to another, with what the variables have got so far.
-/
import Derived.Test.YthncdmijledpnaaTM14
import Derived.Test.YthncdmijledpnaaTM16
import Derived.Test.YthncdmijledpnaaTM09
import Derived.Test.YthncdmijledpnaaTM06
import Derived.Test.YthncdmijledpnaaTM10
namespace Go.Proofs.Ythncdmijledpnaa
open Go.RowKit Go.Maps Go.Lib

theorem lo_nextR {B : Nat} {F : Bd → Prop} {lo : List Bd} {v v' : Value} {wC wD w4 : World} {n : Int} {u : Tm} (hlo : ∀ y ∈ lo, y.t.In wC ∧ y.t.On (fun x => B ≤ x ∧ v.ownBlock ≠ some x) ∧ y.t.Roomy wC ∧ F y) (iu : u.In wD) (ou : u.On (fun x => B ≤ x ∧ v.ownBlock ≠ some x)) (mu : u.Roomy wD) (fu : F ⟨n, u⟩) (hg : Gr wC wD) (h3 : wD.grownBy w4 v.ownBlock) (h4 : v'.ownBlock = v.ownBlock ∨ v'.ownBlock = some wD.heap.size) :
    ∀ y ∈ lo ++ [⟨n, u⟩], y.t.In w4 ∧ y.t.On (fun x => B ≤ x ∧ v'.ownBlock ≠ some x) ∧ y.t.Roomy w4 ∧ F y := by
  have one : ∀ s : Tm, s.In wD → s.On (fun x => B ≤ x ∧ v.ownBlock ≠ some x) → s.Roomy wD → s.In w4 ∧ s.On (fun x => B ≤ x ∧ v'.ownBlock ≠ some x) ∧ s.Roomy w4 := fun s h1 h2 hm => by
    have hk : Kp (fun b => v.ownBlock = some b) wD w4 := Kp.of_grown h3 fun r hr => hr
    refine ⟨kp_in h1 h2 (fun b hb => hb.2) hk, (h2.and h1.on).mono fun x hx => ⟨hx.1.1, fun e => ?_⟩, Tm.Roomy.same (fun b hb _ => World.cell?_of_block (hk.block b hb.2 hb.1.2)) (h2.and h1.on) hm⟩
    rcases h4 with h4 | h4
    · rw [h4] at e; exact hx.1.2 e
    · rw [h4] at e
      have := Option.some.inj e
      omega
  intro y hy
  rcases List.mem_append.1 hy with hy | hy
  · obtain ⟨a1, a2, am, a3⟩ := hlo y hy
    have h := one _ (Tm.In_below hg a1) a2 (am.gr a1 hg)
    exact ⟨h.1, h.2.1, h.2.2, a3⟩
  · rw [List.mem_singleton] at hy
    subst hy
    have h := one _ iu ou mu
    exact ⟨h.1, h.2.1, h.2.2, fu⟩

/-- A list of binds of one's own is handed back. -/
def RetOwnBs (l : List Bd) (w : World) (e : Ending) (w' : World) : Prop :=
  ∃ (g : Nat) (lm : List Bd), e = .returned (.slice (some ⟨g, 0, none⟩) lm.length (lm.length + 3)) ∧ seeBds lm = seeBds l ∧ (Bds.mk (some ⟨g, 0, none⟩) (lm.length + 3) lm).In w' ∧ w.heap.size ≤ g ∧ BlkT w' g 115 (lm.flatMap Bd.cells ++ bdMarks).toArray ∧
    (∀ y ∈ lm, y.t.On (w.heap.size ≤ ·) ∧ y.t.Roomy w') ∧ Gr w w'
def ownTV (S : Nat → Prop) (u : T) : VP := fun v w => ∃ x : Tm, v = x.val ∧ x.In w ∧ x.erase = u ∧ x.Roomy w ∧ x.On S
theorem ownTV_stable {S : Nat → Prop} {u : T} : ∀ v w w', ownTV S u v w → Gr w w' → ownTV S u v w' := fun _ _ _ ⟨x, h1, h2, h3, h4, h5⟩ hg => ⟨x, h1, Tm.In_below hg h2, h3, h4.gr h2 hg, h5⟩
def aggBV (n : Int) : VP := fun v _ => ∃ (k m : Int) (s : ByteArray) (p : Option Addr) (l c : Nat), v = .agg #[.int .i64 n, .int .i64 k, .int .i64 m, .string s, .slice p l c]
theorem aggBV_stable {n : Int} {R : World → World → Prop} : ∀ v w w', aggBV n v w → R w w' → aggBV n v w' := fun _ _ _ h _ => h
def slOne : VP := fun v _ => ∃ B : Nat, v = .slice (some ⟨B, 0, none⟩) 1 1
theorem slOne_stable {R : World → World → Prop} : ∀ v w w', slOne v w → R w w' → slOne v w' := fun _ _ _ h _ => h
def relBd (n : Int) : LkRel := fun u v _ => ∃ (k m : Int) (s : ByteArray) (p : Option Addr) (l c : Nat), u = .agg #[.int .i64 k, .int .i64 m, .string s, .slice p l c] ∧ v = .agg #[.int .i64 n, .int .i64 k, .int .i64 m, .string s, .slice p l c]
def relOne (B0 : Nat) : LkRel := fun u v w => ∃ (B : Nat) (n k m : Int) (s : ByteArray) (p : Option Addr) (l c : Nat), u = .agg #[.int .i64 n, .int .i64 k, .int .i64 m, .string s, .slice p l c] ∧ v = .slice (some ⟨B, 0, none⟩) 1 1 ∧ B0 ≤ B ∧ BlkT w B 115 #[.int .i64 n, .int .i64 k, .int .i64 m, .string s, .slice p l c]
theorem seeBds_take (l : List Bd) (k : Nat) (h : k < l.length) : seeBds (l.take (k + 1)) = seeBds (l.take k) ++ [(l[k].v, l[k].t.erase)] := by
  rw [List.take_succ_eq_append_getElem h, seeBds, seeBds, List.map_append]
  rfl

set_option maxHeartbeats 4000000 in
set_option maxRecDepth 100000 in
theorem ownBinds_calls (p : Option Addr) (c : Nat) (l : List Bd) (w : World) (hin : (Bds.mk p c l).In w) (hlen : (l.length + 3) * 64 ≤ 140737488351232) :
    Calls Try.prog 34 #[.slice p l.length c] w (RetOwnBs l w) := by
  have hR : Hid (∀ g lm w', seeBds lm = seeBds l → (Bds.mk (some ⟨g, 0, none⟩) (lm.length + 3) lm).In w' → w.heap.size ≤ g → BlkT w' g 115 (lm.flatMap Bd.cells ++ bdMarks).toArray → (∀ y ∈ lm, y.t.On (w.heap.size ≤ ·) ∧ y.t.Roomy w') → Gr w w' → RetOwnBs l w (.returned (.slice (some ⟨g, 0, none⟩) lm.length (lm.length + 3))) w') := fun g lm w' h1 h2 h3 h4 h5 h6 => ⟨g, lm, rfl, h1, h2, h3, h4, h5, h6⟩
  generalize RetOwnBs l w = Q at hR ⊢
  have HIn := Lib.hid hin
  obtain ⟨hlc, ⟨hl64, hcm⟩, _, _⟩ := hin
  simp only at hlc hl64 hcm
  go_enter Try.func34, Try.ntmps34
  try simp only [List.append_eq, List.cons_append, List.nil_append]
  go_wp2_with fail
  go_loopg [3, 7] l.length (fun m u0 i wr => ∃ (k : Nat) (u : Value) (lm : List Bd), u = u0 ∧ k ≤ l.length ∧ m = l.length - k ∧ i = .int .i64 k ∧ Hid (lm.length = k ∧ seeBds lm = seeBds (l.take k) ∧ BuiltBds wr w.heap.size u lm ∧ ∀ y ∈ lm, y.t.In wr ∧ y.t.On (fun x => w.heap.size ≤ x ∧ u.ownBlock ≠ some x) ∧ y.t.Roomy wr ∧ In64 y.v) ∧ Gr w wr)
  case atStart => exact ⟨0, _, [], rfl, Nat.zero_le _, rfl, rfl, ⟨rfl, rfl, World.ownsRow_nil _ _ _ 5, (fun y hy => nomatch hy)⟩, Gr.rfl' _⟩
  case round =>
    obtain ⟨k, u, lm, rfl, hk, rfl, rfl, hj, gr⟩ := hrel
    by_cases hlt : k < l.length
    · obtain ⟨b, o, rfl⟩ := HIn.out.ptr (by omega)
      obtain ⟨⟨c0, c1, c2, c3, c4⟩, hti, ⟨hv1, hv2⟩, hbl⟩ := (HIn.out.mono gr).elem k hlt
      have Hxi := Lib.hid hti
      have Htk := Lib.hid (seeBds_take l k hlt)
      have Hv := Lib.hid (show In64 l[k].v from ⟨hv1, hv2⟩)
      clear hti hv1 hv2
      generalize l[k] = y at *
      obtain ⟨n, x⟩ := y
      simp only at c0 c1 c2 c3 c4 Hxi Htk Hv
      have HV := Lib.hid (show x.val = .agg #[.int .i64 x.k, .int .i64 x.n, .string x.s, .slice x.p x.l.length x.c] from rfl)
      have hst : ∀ L ∈ [((⟨11, 21, 12, 22⟩, relBd n) : Lk × LkRel), (⟨12, 22, 13, 23⟩, relOne wr.heap.size)], ∀ u v w w', L.2 u v w → Gr w w' → L.2 u v w' := by
        intro L hL u v w w' h hg
        simp only [List.mem_cons, List.mem_nil_iff, or_false] at hL
        rcases hL with rfl | rfl
        · exact h
        · obtain ⟨B, n, k, m, s, p, l, c, h1, h2, h3, h4⟩ := h
          exact ⟨B, n, k, m, s, p, l, c, h1, h2, h3, h4.gr hg⟩
      go_upto_region 5 with fail
      refine wp_region_relyA 14 [fx u, fx (.slice (some ⟨b, o, none⟩) l.length c), fx (.int .i64 k), fx (.pointer (some ⟨b, o + k * 5, none⟩)), fx (.pointer (some ⟨b, o + k * 5, none⟩)), fx (.int .i64 n), fx (.slice (some ⟨b, o, none⟩) l.length c), fx (.int .i64 k), fx (.pointer (some ⟨b, o + k * 5, none⟩)), fx (.pointer (some ⟨b, o + k * 5 + 1, none⟩)), fx (.agg #[.int .i64 x.k, .int .i64 x.n, .string x.s, .slice x.p x.l.length x.c]), ownTV (wr.heap.size ≤ ·) x.erase, aggBV n, slOne]
        Gr (LinkJ 30 [(⟨11, 21, 12, 22⟩, relBd n), (⟨12, 22, 13, 23⟩, relOne wr.heap.size)]) (by kernel_rfl) (by kernel_rfl) (by decide) (by kernel_rfl) (fun _ _ h => h) (fun _ _ _ h k => Gr.trans h k) (fun w _ => LinkJ.start _ _ w rfl) (by repeat (first | exact StableR.nil | refine StableR.fix ?_ | refine StableR.cons ownTV_stable ?_ | refine StableR.cons aggBV_stable ?_ | refine StableR.cons slOne_stable ?_)) ?_ ?_
      · refine ⟨stepA_plainL (fun _ _ h => h) (fun listed a w w' v h hl hg => LinkJ.other hst rfl listed a w w' v h hl ((fun _ _ h => h) _ _ hg)) ?_, stepA_plainL (fun _ _ h => h) (fun listed a w w' v h hl hg => LinkJ.other hst rfl listed a w w' v h hl ((fun _ _ h => h) _ _ hg)) ?_, stepA_plainL (fun _ _ h => h) (fun listed a w w' v h hl hg => LinkJ.other hst rfl listed a w w' v h hl ((fun _ _ h => h) _ _ hg)) ?_, stepA_plainL (fun _ _ h => h) (fun listed a w w' v h hl hg => LinkJ.other hst rfl listed a w w' v h hl ((fun _ _ h => h) _ _ hg)) ?_, stepA_plainL (fun _ _ h => h) (fun listed a w w' v h hl hg => LinkJ.other hst rfl listed a w w' v h hl ((fun _ _ h => h) _ _ hg)) ?_, stepA_plainL (fun _ _ h => h) (fun listed a w w' v h hl hg => LinkJ.other hst rfl listed a w w' v h hl ((fun _ _ h => h) _ _ hg)) ?_, stepA_plainL (fun _ _ h => h) (fun listed a w w' v h hl hg => LinkJ.other hst rfl listed a w w' v h hl ((fun _ _ h => h) _ _ hg)) ?_, stepA_plainL (fun _ _ h => h) (fun listed a w w' v h hl hg => LinkJ.other hst rfl listed a w w' v h hl ((fun _ _ h => h) _ _ hg)) ?_, stepA_plainL (fun _ _ h => h) (fun listed a w w' v h hl hg => LinkJ.other hst rfl listed a w w' v h hl ((fun _ _ h => h) _ _ hg)) ?_, stepA_plainL (fun _ _ h => h) (fun listed a w w' v h hl hg => LinkJ.other hst rfl listed a w w' v h hl ((fun _ _ h => h) _ _ hg)) ?_, stepA_plainL (fun _ _ h => h) (fun listed a w w' v h hl hg => LinkJ.other hst rfl listed a w w' v h hl ((fun _ _ h => h) _ _ hg)) ?_, stepA_plainL (fun _ _ h => h) (fun listed a w w' v h hl hg => LinkJ.other hst rfl listed a w w' v h hl ((fun _ _ h => h) _ _ hg)) ?b11, ?a12, ?a13, trivial⟩
        case a12 =>
          intro listed fr ww hj hl hpre hg hdef hold
          have h0 : fr.tmps[0]?.getD undef = .slice (some ⟨b, o, none⟩) l.length c := hold 0 rfl
          have h3 : fr.tmps[3]?.getD undef = u := hold 3 rfl
          have h4 : fr.tmps[4]?.getD undef = .int .i64 k := hold 4 rfl
          have z0 := Gr.at hg c0
          have z1 := Gr.at hg c1
          have z2 := Gr.at hg c2
          have z3 := Gr.at hg c3
          have z4 := Gr.at hg c4
          have Hg := Lib.hid hg
          clear hold c0 c1 c2 c3 c4
          clear hdef
          simp only [predsImp]
          intro v1 e1 p1 v2 e2 p2 K hK
          replace p1 : v1 = .int .i64 n := p1
          subst p1
          obtain ⟨⟨k1, m1, s1, q1, d1, l1⟩, rfl, -, -, -, -⟩ := p2
          rewrite [tm_val] at e2
          go_simp
          exact hK _ _ ⟨_, _, _, _, _, _, rfl⟩ (Gr.rfl' _) (LinkJ.step hst hj hl (Gr.rfl' _) (by intro L hL; simp only [List.mem_cons, List.mem_nil_iff, or_false] at hL; rcases hL with rfl | rfl; exact .inr ⟨rfl, show (11 : Nat) ≠ 12 by decide, rfl, show (21 : Nat) ≠ 22 by decide, show (22 : Nat) < 30 by decide, hpre ⟨11, Ground.data⟩ (by simp) rfl, ⟨_, _, _, _, _, _, e2, rfl⟩⟩; exact .inl ⟨show (13 : Nat) ≠ 12 by decide, .inl rfl, show (some 22 : Option Nat) ≠ some 23 by decide⟩))
        case a13 =>
          intro listed fr ww hj hl hpre hg hdef hold
          have h0 : fr.tmps[0]?.getD undef = .slice (some ⟨b, o, none⟩) l.length c := hold 0 rfl
          have h3 : fr.tmps[3]?.getD undef = u := hold 3 rfl
          have h4 : fr.tmps[4]?.getD undef = .int .i64 k := hold 4 rfl
          have z0 := Gr.at hg c0
          have z1 := Gr.at hg c1
          have z2 := Gr.at hg c2
          have z3 := Gr.at hg c3
          have z4 := Gr.at hg c4
          have Hg := Lib.hid hg
          clear hold c0 c1 c2 c3 c4
          clear hdef
          simp only [predsImp]
          intro v2 e2 p2 K hK
          obtain ⟨k2, m2, s2, q2, l2, d2, rfl⟩ := p2
          go_simp
          exact hK _ _ ⟨_, rfl⟩ (by go_grown) (LinkJ.step hst hj hl (by go_grown) (by intro L hL; simp only [List.mem_cons, List.mem_nil_iff, or_false] at hL; rcases hL with rfl | rfl; exact .inl ⟨show (12 : Nat) ≠ 13 by decide, .inr (show (some 23 : Option Nat) ≠ some 21 by decide), show (some 23 : Option Nat) ≠ some 22 by decide⟩; exact .inr ⟨rfl, show (12 : Nat) ≠ 13 by decide, rfl, show (22 : Nat) ≠ 23 by decide, show (23 : Nat) < 30 by decide, hpre ⟨12, Ground.data⟩ (by simp) rfl, ⟨ww.heap.size, _, _, _, _, _, _, _, e2, rfl, hg.size, BlkT.new _ _ _⟩⟩))
        case b11 =>
          intro fr ww hg hold
          have h0 : fr.tmps[0]?.getD undef = .slice (some ⟨b, o, none⟩) l.length c := hold 0 rfl
          have h3 : fr.tmps[3]?.getD undef = u := hold 3 rfl
          have h4 : fr.tmps[4]?.getD undef = .int .i64 k := hold 4 rfl
          have z0 := Gr.at hg c0
          have z1 := Gr.at hg c1
          have z2 := Gr.at hg c2
          have z3 := Gr.at hg c3
          have z4 := Gr.at hg c4
          have Hg := Lib.hid hg
          clear hold c0 c1 c2 c3 c4
          simp [predsImp, Region.binds, dstAt, fx]
          intros
          rename_i K hK
          go_simp
          rewrite [← HV.out]
          refine (own_calls (Tm.In_below Hg.out Hxi.out)).mono ?_
          rintro e w10 ⟨x1, rfl, ix, ex, ox, rx, hg2⟩
          exact hK _ _ ⟨x1, rfl, ix, ex, rx, ox.mono fun b hb => Nat.le_trans Hg.out.size hb⟩ hg2
        all_goals
          intro fr ww hg hold
          have h0 : fr.tmps[0]?.getD undef = .slice (some ⟨b, o, none⟩) l.length c := hold 0 rfl
          have h3 : fr.tmps[3]?.getD undef = u := hold 3 rfl
          have h4 : fr.tmps[4]?.getD undef = .int .i64 k := hold 4 rfl
          have z0 := Gr.at hg c0
          have z1 := Gr.at hg c1
          have z2 := Gr.at hg c2
          have z3 := Gr.at hg c3
          have z4 := Gr.at hg c4
          have Hg := Lib.hid hg
          clear hold c0 c1 c2 c3 c4
          simp [predsImp, Region.binds, dstAt, fx]
          intros
          rename_i K hK
          go_simp
        all_goals exact hK _ _ rfl (Gr.rfl' _)
      · intro w9 hg
        rintro u rfl _ rfl _ rfl _ rfl _ rfl _ rfl _ rfl _ rfl _ rfl _ rfl _ rfl _ ⟨⟨k1, m1, s1, p1, d1, l1⟩, rfl, ix, ex, rx, ox⟩ _ ⟨k2, m2, s2, p2, l2, d2, rfl⟩ _ ⟨B1, rfl⟩ hlk
        simp only [Act.put, List.setIfInBounds_toArray, List.set_cons_succ, List.set_cons_zero, List.drop_succ_cons, List.drop_zero] at hlk ⊢
        obtain ⟨k4, m4, s4, p4, l4, d4, h5, h6⟩ : relBd n (Tm.mk k1 m1 s1 p1 d1 l1).val (.agg #[.int .i64 n, .int .i64 k2, .int .i64 m2, .string s2, .slice p2 l2 d2]) w9 := hlk.end_ (L := (⟨11, 21, 12, 22⟩, relBd n)) (by simp) (by show 12 < 14; omega)
        obtain ⟨B, n3, k3, m3, s3, p3, l3, d3, h1, h2, hB, hblk⟩ : relOne wr.heap.size (.agg #[.int .i64 n, .int .i64 k2, .int .i64 m2, .string s2, .slice p2 l2 d2]) (.slice (some ⟨B1, 0, none⟩) 1 1) w9 := hlk.end_ (L := (⟨12, 22, 13, 23⟩, relOne wr.heap.size)) (by simp) (by show 13 < 14; omega)
        rw [tm_val] at h5
        cases h5
        cases h6
        cases h1
        cases h2
        have hblk2 : BlkT w9 B1 115 (bdCells ⟨n, .mk k1 m1 s1 p1 d1 l1⟩) := hblk
        clear hlk c0 c1 c2 c3 c4 hblk hst
        obtain ⟨j1, j2, j3, j4⟩ := hj.out
        have hs := gr.size
        have hs9 := hg.size
        have Hn := Lib.hid (fun (u2 : Value) (w10 : World) (r2 : w9.grownBy w10 u.ownBlock) (r3 : u2.ownBlock = u.ownBlock ∨ u2.ownBlock = some w9.heap.size) => lo_nextR (n := n) (F := fun y => In64 y.v) j4 ix (ox.mono fun b hb => ⟨Nat.le_trans hs hb, fun e => by have := (j3.lt b e).2; omega⟩) rx Hv.out hg r2 r3)
        have HJ := Lib.hid (And.intro j1 j2)
        have Ex := Lib.hid ex
        have HB := Lib.hid (j3.gr hg)
        have G9 := Lib.hid (gr.trans hg)
        clear j1 j2 j3 j4 ix ex rx ox
        refine wpList_append_bd rfl _ _ rfl rfl w.heap.size u lm ⟨n, .mk k1 m1 s1 p1 d1 l1⟩ B1 1 (by rfl) (by rfl) HB.out (by omega) (by have := HJ.out.1; omega) hblk2 ?_
        intro u2 w10 r1 r2 r3
        have hlo := Lib.hid (Hn.out u2 w10 r2 r3)
        have R1 := Lib.hid r1
        have G10 := Lib.hid (Below.trans G9.out (grownBy_below r2 (B := w.heap.size) (by omega) fun b hb => (HB.out.lt b hb).1))
        clear r1 r2 r3 hblk2
        go_wp2_with fail
        go_roundg (l.length - (k + 1))
        case measure => omega
        case rel => exact ⟨k + 1, u2, _, rfl, by omega, rfl, by go_num, ⟨by rw [List.length_append, HJ.out.1]; rfl, by rw [Htk.out, ← HJ.out.2, ← Ex.out, seeBds, List.map_append]; rfl, R1.out, hlo.out⟩, G10.out⟩
    · obtain rfl : k = l.length := by omega
      obtain ⟨j1, j2, j3, j4⟩ := hj.out
      rw [List.take_length] at j2
      have hmk : Hid (∀ wq, Calls Try.prog 79 #[] wq (Ret (.agg #[.int .i64 9, .int .i64 (-77), .string spoiltB, .slice none 0 0]) wq)) := fun wq => (markY_calls wq).mono fun e w' h => by rw [← markTm_val]; exact h
      have HJ := Lib.hid (And.intro j1 (And.intro j2 (And.intro j3 j4)))
      have hlm : Hid ((lm.length + 3) * 64 ≤ 140737488351232) := by rw [j1]; exact hlen
      clear j1 j2 j3 j4
      go_wp2_with (first
        | (go_at_call 79; refine (hmk.out _).mono ?_; rintro e wq ⟨rfl, hg⟩; replace hg : Gr wr wq := hg; have G1 := Lib.hid (gr.trans hg); have HB1 := Lib.hid (HJ.out.2.2.1.gr hg); have HG0 := Lib.hid hg; clear hg)
        | (go_at_call 110; refine (roomyB_calls _ _ lm _ HB1.out hlm.out).mono ?_; rintro e w6 ⟨g, rfl, hgs, hgc, hb⟩; have HG6 := Lib.hid (And.intro hgs (And.intro hgc hb)); clear hgs hgc hb)
        | fail)
      try go_ret
      obtain ⟨hgs, hgc, hb⟩ := HG6.out
      obtain ⟨j1, j2, j3, j4⟩ := HJ.out
      have g06 : Gr wr w6 := HG0.out.trans hb
      have hs := G1.out.size
      have hat : Bd.row w6 g 0 lm := by
        intro i x hx
        have hi : i < lm.length := (List.getElem?_eq_some_iff.1 hx).1
        have h5 : ∀ j, j < 5 → w6.cell? ⟨g, 0 + i * 5 + j, none⟩ = x.cells[j]? := by
          intro j hj
          rw [Nat.zero_add, cell_of_row w6 g _ _ _ _ hgc, List.getElem?_toArray, List.getElem?_append_left (by rw [bdcells_len]; omega)]
          exact bdcells_at hx j hj
        exact ⟨h5 0 (by omega), h5 1 (by omega), h5 2 (by omega), h5 3 (by omega), h5 4 (by omega)⟩
      exact hR.out g lm w6 j2 ⟨by show lm.length ≤ lm.length + 3; omega, ⟨by have := hlm.out; show lm.length * 64 ≤ _; omega, by have := hlm.out; show lm.length + 3 ≤ _; omega⟩, .inr ⟨g, 0, rfl, hat⟩, fun y hy => ⟨Tm.In_below g06 (j4 y hy).1, (j4 y hy).2.2.2⟩⟩ (by omega) hgc (fun y hy => ⟨(j4 y hy).2.1.mono fun b hb => hb.1, (j4 y hy).2.2.1.gr (j4 y hy).1 g06⟩) (G1.out.trans hb)
end Go.Proofs.Ythncdmijledpnaa

namespace Go.Proofs.Ythncdmijledpnaa
open Go.RowKit Go.Maps Go.Lib

set_option maxHeartbeats 4000000 in
set_option maxRecDepth 100000 in
theorem stillBinds_calls (b o c : Nat) (lm : List Bd) (p2 : Option Addr) (c2 : Nat) (l : List Bd) (w : World) (h1 : (Bds.mk (some ⟨b, o, none⟩) c lm).In w) (hc : lm.length + 1 ≤ c) (hm : w.cell? ⟨b, o + lm.length * 5, none⟩ = some (.int .i64 (-7)))
    (h2 : (Bds.mk p2 c2 l).In w) (he : seeBds lm = seeBds l) (hr : ∀ y ∈ lm, y.t.Roomy w) : Calls Try.prog 49 #[.slice (some ⟨b, o, none⟩) lm.length c, .slice p2 l.length c2] w (Ret (.bool true) w) := by
  have hR : Hid (∀ v, true = v → ∀ w', Gr w w' → Ret (.bool true) w (.returned (.bool v)) w') := fun v hv w' hg => ⟨by rw [hv], hg⟩
  generalize Ret (.bool true) w = Q at hR ⊢
  have H1 := Lib.hid h1
  have H2 := Lib.hid h2
  have HE := Lib.hid he
  have HL := Lib.hid ((seeBds_at he).1)
  have HR := Lib.hid hr
  have HM := Lib.hid hm
  obtain ⟨hlc, ⟨hl64, hcm⟩, _, _⟩ := h1
  simp only at hlc hl64 hcm
  rw [← HL.out]
  clear h2 he hr hm
  go_enter Try.func49, Try.ntmps49
  try simp only [List.append_eq, List.cons_append, List.nil_append]
  go_wp2_with fail
  go_loopg [13] lm.length (fun m i wr => ∃ k : Nat, k ≤ lm.length ∧ m = lm.length - k ∧ i = .int .i64 k ∧ Gr w wr)
  case atStart => exact ⟨0, Nat.zero_le _, rfl, rfl, Gr.rfl' _⟩
  case round =>
    obtain ⟨k, hk, rfl, rfl, gr⟩ := hrel
    by_cases hlt : k < lm.length
    · have hlt2 : k < l.length := by have := HL.out; omega
      obtain ⟨b2, o2, rfl⟩ := H2.out.ptr (by omega)
      obtain ⟨⟨c0, c1, c2', c3, c4⟩, hti, ⟨hv1, hv2⟩, hbl⟩ := (H1.out.mono gr).elem k hlt
      obtain ⟨⟨d0, d1, d2, d3, d4⟩, htj, _, _⟩ := (H2.out.mono gr).elem k hlt2
      obtain ⟨hev, het⟩ := (seeBds_at HE.out).2 k hlt hlt2
      have Hro := Lib.hid ((HR.out _ (List.getElem_mem hlt)).gr ((H1.out.2.2.2 _ (List.getElem_mem hlt)).1) gr)
      have Hi := Lib.hid hti
      have Hj := Lib.hid htj
      have Ht := Lib.hid het
      rw [← hev] at d0
      clear hti htj het hev
      generalize lm[k] = y at *
      generalize l[k] = z at *
      obtain ⟨n, x⟩ := y
      obtain ⟨n', x'⟩ := z
      simp only at c0 c1 c2' c3 c4 d0 d1 d2 d3 d4 Hi Hj Ht Hro hv1 hv2
      have HV := Lib.hid (show x.val = .agg #[.int .i64 x.k, .int .i64 x.n, .string x.s, .slice x.p x.l.length x.c] from rfl)
      have HV' := Lib.hid (show x'.val = .agg #[.int .i64 x'.k, .int .i64 x'.n, .string x'.s, .slice x'.p x'.l.length x'.c] from rfl)
      have hb1 : decide (n = n) = true := by simp
      have hb0 : decide (n ≠ n) = false := by simp
      go_upto_region 6 with fail
      refine wp_region_rely [fx (.slice (some ⟨b, o, none⟩) lm.length c), fx (.int .i64 k), fx (.pointer (some ⟨b, o + k * 5, none⟩)), fx (.pointer (some ⟨b, o + k * 5, none⟩)), fx (.int .i64 n), fx (.slice (some ⟨b2, o2, none⟩) lm.length c2), fx (.int .i64 k), fx (.pointer (some ⟨b2, o2 + k * 5, none⟩)), fx (.pointer (some ⟨b2, o2 + k * 5, none⟩)), fx (.int .i64 n), fx (.bool false), fx (.bool false), fx (.slice (some ⟨b, o, none⟩) lm.length c), fx (.int .i64 k), fx (.pointer (some ⟨b, o + k * 5, none⟩)), fx (.pointer (some ⟨b, o + k * 5 + 1, none⟩)), fx (.agg #[.int .i64 x.k, .int .i64 x.n, .string x.s, .slice x.p x.l.length x.c]), fx (.slice (some ⟨b2, o2, none⟩) lm.length c2), fx (.int .i64 k), fx (.pointer (some ⟨b2, o2 + k * 5, none⟩)), fx (.pointer (some ⟨b2, o2 + k * 5 + 1, none⟩)), fx (.agg #[.int .i64 x'.k, .int .i64 x'.n, .string x'.s, .slice x'.p x'.l.length x'.c]), fx (.bool true), fx (.bool false), fx (.bool false)]
        (by kernel_rfl) (by kernel_rfl) (by repeat (first | exact Stable.nil | refine Stable.fix ?_)) ?_ ?_
      · refine ⟨?_, ?_, ?_, ?_, ?_, ?_, ?_, ?_, ?_, ?_, ?_, ?_, ?_, ?_, ?_, ?_, ?_, ?_, ?_, ?_, ?_, ?_, ?a22, ?_, ?_, trivial⟩
        all_goals
          intro a ww hg hold
          have h0 : a.tmps[0]?.getD undef = .slice (some ⟨b, o, none⟩) lm.length c := hold 0 rfl
          have h1 : a.tmps[1]?.getD undef = .slice (some ⟨b2, o2, none⟩) lm.length c2 := hold 1 rfl
          have h5 : a.tmps[5]?.getD undef = .int .i64 k := hold 5 rfl
          have y0 := Gr.at hg c0
          have y1 := Gr.at hg c1
          have y2 := Gr.at hg c2'
          have y3 := Gr.at hg c3
          have y4 := Gr.at hg c4
          have y5 := Gr.at hg d0
          have y6 := Gr.at hg d1
          have y7 := Gr.at hg d2
          have y8 := Gr.at hg d3
          have y9 := Gr.at hg d4
          have Hg := Lib.hid hg
          clear hold c0 c1 c2' c3 c4 d0 d1 d2 d3 d4
          simp [predsImp, Region.binds, dstAt, fx, wantedE, Act.eval]
          intros
          first
            | (rw [if_pos (by simp [*])]
               intro K hK)
            | (rename_i K hK)
          go_simp
        case a22 =>
          rewrite [← HV.out, ← HV'.out]
          refine (still_calls (Tm.In_below Hg.out Hi.out) (Tm.In_below Hg.out Hj.out) Ht.out (Hro.out.gr Hi.out Hg.out)).mono ?_
          rintro e w10 ⟨rfl, hg2⟩
          exact hK _ _ rfl hg2
        all_goals exact hK _ _ rfl (Gr.rfl' _)
      · intro w9 hg
        rintro _ rfl _ rfl _ rfl _ rfl _ rfl _ rfl _ rfl _ rfl _ rfl _ rfl _ rfl _ rfl _ rfl _ rfl _ rfl _ rfl _ rfl _ rfl _ rfl _ rfl _ rfl _ rfl _ rfl _ rfl _ rfl
        simp only [finAll, Act.put, List.setIfInBounds_toArray, List.set_cons_succ, List.set_cons_zero]
        clear c0 c1 c2' c3 c4 d0 d1 d2 d3 d4
        go_wp2_with fail
        go_roundg (lm.length - (k + 1))
        case measure => omega
        case rel => exact ⟨k + 1, by omega, rfl, by go_num, gr.trans hg⟩
    · obtain rfl : k = lm.length := by omega
      have m0 := Gr.at gr HM.out
      go_wp2_with fail
      exact hR.out _ (by simp) _ gr
end Go.Proofs.Ythncdmijledpnaa

namespace Go.Proofs.Ythncdmijledpnaa

mutual
/-- The pattern is laid on the term. -/
def T.mat : T → T → (Int → Option T) → Option (Int → Option T)
  | .mk k n s l, t, f =>
    if k = 1 then (match f n with
      | none => some (putF f n t)
      | some x => if T.order x t = 0 then some f else none)
    else if k = t.k ∧ n = t.n ∧ s = t.s ∧ l.length = t.l.length then T.matL l t.l f else none
def T.matL : List T → List T → (Int → Option T) → Option (Int → Option T)
  | x :: xs, y :: ys, f => (match T.mat x y f with
    | none => none
    | some g => T.matL xs ys g)
  | _, _, f => some f
end

theorem T.eta (t : T) : t = .mk t.k t.n t.s t.l := by cases t; rfl
theorem formed_args' {t : T} (h : t.formed = true) : T.formedL t.l = true := by
  obtain ⟨k, n, s, l⟩ := t
  rcases formed_args h with ⟨_, h⟩ | ⟨_, h⟩
  · exact h
  · show T.formedL l = true
    rw [h, T.formedL]

/-- What the variables have. -/
def Got (g : Int → Option T) (n : Int) : T := (g n).getD (varT n)
/-- From f on to g, over variables of which O speaks. -/
structure Mats (f g : Int → Option T) (O : Int → Prop) : Prop where
  up : ∀ n x, f n = some x → g n = some x
  dom : ∀ n, g n ≠ none → f n ≠ none ∨ O n
  all : ∀ n, O n → g n ≠ none
theorem Mats.got {f g : Int → Option T} {O : Int → Prop} (h : Mats f g O) {n : Int} (hn : f n ≠ none) : Got g n = Got f n := by
  cases hf : f n with
  | none => exact absurd hf hn
  | some x => rw [Got, Got, hf, h.up n x hf]

mutual
theorem mat_some : ∀ (p t : T) (f g : Int → Option T), p.formed = true → t.formed = true → (∀ n x, f n = some x → x.formed = true) → T.mat p t f = some g → Mats f g (fun n => T.occ n p) ∧ T.map (Got g) p = t ∧ ∀ n x, g n = some x → x.formed = true
  | .mk k n s l, t, f, g, hp, ht, hf, h => by
    rw [T.mat] at h
    by_cases hk : k = 1
    · subst hk
      rw [if_pos rfl] at h
      obtain ⟨_, rfl, rfl⟩ := formed_var hp
      have hocc : ∀ m, T.occ m (T.mk 1 n [] []) ↔ n = m := fun m => T.occ_var
      have hmap : T.map (Got g) (T.mk 1 n [] []) = Got g n := T.map_var _ n
      rw [hmap]
      cases hfn : f n with
      | none =>
        rw [hfn] at h
        simp only [Option.some.injEq] at h
        subst h
        refine ⟨⟨fun m x hm => ?_, fun m hm => ?_, fun m hm => ?_⟩, ?_, fun m x hm => ?_⟩
        · rw [putF]
          by_cases e : m = n
          · subst e; rw [hfn] at hm; cases hm
          · rw [if_neg e]; exact hm
        · rw [putF] at hm
          by_cases e : m = n
          · right; exact (hocc m).2 e.symm
          · rw [if_neg e] at hm; exact .inl hm
        · obtain rfl := (hocc m).1 hm
          rw [putF, if_pos rfl]
          exact fun h => nomatch h
        · rw [Got, putF, if_pos rfl]; rfl
        · rw [putF] at hm
          by_cases e : m = n
          · rw [if_pos e] at hm; cases hm; exact ht
          · rw [if_neg e] at hm; exact hf m x hm
      | some y =>
        rw [hfn] at h
        simp only at h
        by_cases ho : T.order y t = 0
        · rw [if_pos ho] at h
          simp only [Option.some.injEq] at h
          subst h
          obtain rfl := (order_zero y t (hf n y hfn) ht).1 ho
          refine ⟨⟨fun m x hm => hm, fun m hm => .inl hm, fun m hm => ?_⟩, ?_, hf⟩
          · obtain rfl := (hocc m).1 hm
            rw [hfn]
            exact fun h => nomatch h
          · rw [Got, hfn]; rfl
        · rw [if_neg ho] at h; cases h
    · rw [if_neg hk] at h
      by_cases hh : k = t.k ∧ n = t.n ∧ s = t.s ∧ l.length = t.l.length
      · rw [if_pos hh] at h
        obtain ⟨h1, h2, h3, h4⟩ := hh
        obtain ⟨m1, m2, m3⟩ := matL_some l t.l f g (formed_args' hp) (formed_args' ht) h4 hf h
        have hocc : ∀ m, T.occ m (T.mk k n s l) ↔ T.occL m l := fun m => by
          rw [T.occ, if_neg hk]
          rcases formed_args hp with ⟨h9, _⟩ | ⟨h9, h8⟩
          · rw [if_pos h9]
          · rw [if_neg h9, h8]
            constructor
            · exact False.elim
            · intro h
              rw [T.occL] at h
              exact h
        refine ⟨⟨m1.up, fun m hm => (m1.dom m hm).imp id fun h => (hocc m).2 h, fun m hm => m1.all m ((hocc m).1 hm)⟩, ?_, m3⟩
        rw [T.map, if_neg hk]
        rcases formed_args hp with ⟨h9, _⟩ | ⟨h9, h8⟩
        · rw [if_pos h9, m2, h1, h2, h3]
          exact (T.eta t).symm
        · rw [if_neg h9, h1, h2, h3]
          subst h8
          conv => rhs; rw [T.eta t]
          rw [List.eq_nil_of_length_eq_zero h4.symm]
      · rw [if_neg hh] at h; cases h
theorem matL_some : ∀ (p t : List T) (f g : Int → Option T), T.formedL p = true → T.formedL t = true → p.length = t.length → (∀ n x, f n = some x → x.formed = true) → T.matL p t f = some g → Mats f g (fun n => T.occL n p) ∧ T.mapL (Got g) p = t ∧ ∀ n x, g n = some x → x.formed = true
  | [], [], f, g, _, _, _, hf, h => by
    rw [T.matL] at h
    simp only [Option.some.injEq] at h
    subst h
    refine ⟨⟨fun m x hm => hm, fun m hm => .inl hm, fun m hm => ?_⟩, by rw [T.mapL], hf⟩
    have : T.occL m [] := hm
    rw [T.occL] at this
    exact this.elim
    all_goals intros; simp_all
  | [], _ :: _, _, _, _, _, hl, _, _ => by simp at hl
  | _ :: _, [], _, _, _, _, hl, _, _ => by simp at hl
  | x :: xs, y :: ys, f, g, hp, ht, hl, hf, h => by
    rw [T.formedL, Bool.and_eq_true] at hp ht
    rw [T.matL] at h
    cases hm : T.mat x y f with
    | none => rw [hm] at h; cases h
    | some e =>
      rw [hm] at h
      simp only at h
      obtain ⟨a1, a2, a3⟩ := mat_some x y f e hp.1 ht.1 hf hm
      obtain ⟨b1, b2, b3⟩ := matL_some xs ys e g hp.2 ht.2 (by simpa using hl) a3 h
      refine ⟨⟨fun n z hn => b1.up n z (a1.up n z hn), fun n hn => ?_, fun n hn => ?_⟩, ?_, b3⟩
      · rcases b1.dom n hn with h1 | h1
        · exact (a1.dom n h1).imp id fun h => by rw [T.occL]; exact .inl h
        · right; rw [T.occL]; exact .inr h1
      · have : T.occL n (x :: xs) := hn
        rw [T.occL] at this
        rcases this with h1 | h1
        · cases he : e n with
          | none => exact absurd he (a1.all n h1)
          | some z => rw [b1.up n z he]; exact fun h => nomatch h
        · exact b1.all n h1
      · rw [T.mapL, b2, ← a2]
        congr 1
        exact T.map_congr x fun n hn => b1.got (a1.all n hn)
end
mutual
/-- Where it can be done it is done. -/
theorem mat_full : ∀ (p t : T) (f : Int → Option T) (θ : Int → T), p.formed = true → t.formed = true → (∀ n x, f n = some x → x.formed = true ∧ θ n = x) → T.map θ p = t → ∃ g, T.mat p t f = some g ∧ ∀ n x, g n = some x → x.formed = true ∧ θ n = x
  | .mk k n s l, t, f, θ, hp, ht, hf, h => by
    rw [T.mat]
    by_cases hk : k = 1
    · subst hk
      rw [if_pos rfl]
      obtain ⟨_, rfl, rfl⟩ := formed_var hp
      have hθ : θ n = t := by
        rw [← h]
        exact (T.map_var θ n).symm
      cases hfn : f n with
      | none =>
        refine ⟨_, rfl, fun m x hm => ?_⟩
        rw [putF] at hm
        by_cases e : m = n
        · rw [if_pos e] at hm; cases hm; exact ⟨ht, by rw [e]; exact hθ⟩
        · rw [if_neg e] at hm; exact hf m x hm
      | some y =>
        have := (hf n y hfn).2
        have hy : y = t := by rw [← this, hθ]
        subst hy
        refine ⟨f, ?_, hf⟩
        simp only
        rw [if_pos ((order_zero y y ht ht).2 rfl)]
    · rw [if_neg hk]
      rw [T.map, if_neg hk] at h
      rcases formed_args hp with ⟨h9, h8⟩ | ⟨h9, h8⟩
      · rw [if_pos h9] at h
        subst h
        have hlen : (T.mapL θ l).length = l.length := by rw [T.mapL_eq, List.length_map]
        rw [if_pos ⟨rfl, rfl, rfl, hlen.symm⟩]
        exact matL_full l (T.mapL θ l) f θ h8 (formed_args' ht) hlen.symm hf rfl
      · rw [if_neg h9] at h
        subst h
        subst h8
        rw [if_pos ⟨rfl, rfl, rfl, rfl⟩]
        exact matL_full [] [] f θ (by rw [T.formedL]) (by rw [T.formedL]) rfl hf (by rw [T.mapL])
theorem matL_full : ∀ (p t : List T) (f : Int → Option T) (θ : Int → T), T.formedL p = true → T.formedL t = true → p.length = t.length → (∀ n x, f n = some x → x.formed = true ∧ θ n = x) → T.mapL θ p = t → ∃ g, T.matL p t f = some g ∧ ∀ n x, g n = some x → x.formed = true ∧ θ n = x
  | [], [], f, θ, _, _, _, hf, _ => ⟨f, by rw [T.matL]; intros; simp_all, hf⟩
  | [], _ :: _, _, _, _, _, hl, _, _ => by simp at hl
  | _ :: _, [], _, _, _, _, hl, _, _ => by simp at hl
  | x :: xs, y :: ys, f, θ, hp, ht, hl, hf, h => by
    rw [T.formedL, Bool.and_eq_true] at hp ht
    rw [T.mapL] at h
    injection h with h1 h2
    obtain ⟨e, he, hf2⟩ := mat_full x y f θ hp.1 ht.1 hf h1
    obtain ⟨g, hg, hf3⟩ := matL_full xs ys e θ hp.2 ht.2 (by simpa using hl) hf2 h2
    refine ⟨g, ?_, hf3⟩
    rw [T.matL, he]
    exact hg
end

/-- One term can be laid on another. -/
def T.matches (p t : T) : Prop := ∃ θ, T.map θ p = t
theorem mat_iff {p t : T} (hp : p.formed = true) (ht : t.formed = true) : (T.mat p t fun _ => none).isSome = true ↔ T.matches p t := by
  constructor
  · intro h
    obtain ⟨g, hg⟩ := Option.isSome_iff_exists.1 h
    exact ⟨_, (mat_some p t (fun _ => none) g hp ht (fun _ _ h => by cases h) hg).2.1⟩
  · rintro ⟨θ, h⟩
    obtain ⟨g, hg, _⟩ := mat_full p t (fun _ => none) θ hp ht (fun _ _ h => by cases h) h
    rw [hg]; rfl
end Go.Proofs.Ythncdmijledpnaa
