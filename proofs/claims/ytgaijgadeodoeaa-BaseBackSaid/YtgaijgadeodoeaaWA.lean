/-
  (*base.Base).View and Look where the base has one clause.
-/
import Derived.Test.YtgaijgadeodoeaaW9
namespace Go.Proofs.Ytgaijgadeodoeaa
open Go.RowKit Go.Maps Go.Lib

def viewV (hv : Value) (t : T) : VP := fun v w => ∃ G : Tm, v = .agg #[hv, .int .i64 G.k, .int .i64 G.n, .string G.s, .slice G.p G.l.length G.c] ∧ G.In w ∧ G.erase = t
theorem viewV_stable {hv : Value} {t : T} : ∀ v w w', viewV hv t v w → Gr w w' → viewV hv t v w' := fun _ _ _ ⟨G, h1, h2, h3⟩ hg => ⟨G, h1, Tm.In_below hg h2, h3⟩
def boxV (hv : Value) (t : T) (B0 : Nat) : VP := fun v w => ∃ (V : Nat) (G : Tm), v = .pointer (some ⟨V, 0, none⟩) ∧ B0 ≤ V ∧ BlkT w V 162 #[hv, .int .i64 G.k, .int .i64 G.n, .string G.s, .slice G.p G.l.length G.c] ∧ G.erase = t
theorem boxV_stable {hv : Value} {t : T} {B0 : Nat} : ∀ v w w', boxV hv t B0 v w → Gr w w' → boxV hv t B0 v w' := fun _ _ _ ⟨V, G, h1, h2, h3, h4⟩ hg => ⟨V, G, h1, h2, h3.gr hg, h4⟩

def RetView (w : World) (e : Ending) (w' : World) : Prop := ∃ (V g cap : Nat) (G h b : Tm), e = .returned (.tuple #[.pointer (some ⟨V, 0, none⟩), .int .i64 0]) ∧ OneView w' V g cap G h b ∧ 1 ≤ cap ∧ w.heap.size ≤ V ∧ Gr w w'

theorem erase_nil {G H : Tm} (h : G.erase = H.erase) (hl : H.l = []) : G.l = [] := by
  obtain ⟨k, n, s, p, c, l⟩ := G
  obtain ⟨k', n', s', p', c', l'⟩ := H
  simp only [Tm.l] at hl ⊢
  subst hl
  rw [Tm.erase, Tm.erase, Tm.eraseL] at h
  injection h with _ _ _ h
  have := Tm.eraseL_length l
  rw [h] at this
  exact List.eq_nil_of_length_eq_zero this.symm

set_option maxHeartbeats 8000000 in
set_option maxRecDepth 100000 in
theorem view_calls (B M1 M2 : Nat) (G : Tm) (t u : T) (w : World) (hB : OneBase w B M1 M2 G.s G.l.length t u) (hG : G.In w) (fG : G.erase.formed = true) (cG : G.erase.callable = true) (aG : G.l = []) (ft : t.formed = true) (fu : u.formed = true) (hs : G.s.size ≤ 1000) :
    Calls Try.prog 119 #[.pointer (some ⟨B, 0, none⟩), G.val] w (RetView w) := by
  have hR : Hid (∀ (V g cap : Nat) (G h b : Tm) (w' : World), OneView w' V g cap G h b → 1 ≤ cap → w.heap.size ≤ V → Gr w w' → RetView w (.returned (.tuple #[.pointer (some ⟨V, 0, none⟩), .int .i64 0])) w') := fun V g cap G h b w' h1 h2 h3 h4 => ⟨V, g, cap, G, h, b, rfl, h1, h2, h3, h4⟩
  generalize hQ : RetView w = Q at hR ⊢
  clear hQ
  have hl0 : G.l.length ≤ 1000 := by rw [aG]; simp
  have Hkey := Lib.hid (keyOf_bpred (s := G.s) (n := (G.l.length : Int)) (by simp only [maxLen]; omega) (wf_64 ⟨by omega, by omega⟩))
  have hl64 : IntKind.i64.wrap (G.l.length : Int) = G.l.length := IntWalk.i64_in _ (by omega)
  obtain ⟨⟨av, hbl⟩, ⟨hv, f, hm1, hf1, h, b, ho, ih, ib, eh, eb⟩, _⟩ := hB
  obtain ⟨g, cap, rfl, hcap, hcs⟩ := row_cells ho
  have HCs := Lib.hid hcs
  have HBl := Lib.hid hbl
  have HM1 := Lib.hid hm1
  have HF1 := Lib.hid hf1
  have IH := Lib.hid ih
  have IB := Lib.hid ib
  have FH : Hid (h.erase.formed = true) := by show _ = _; rw [eh]; exact ft
  have FB : Hid (b.erase.formed = true) := by show _ = _; rw [eb]; exact fu
  have HG := Lib.hid hG
  have FG := Lib.hid fG
  have CGc := Lib.hid cG
  have AG := Lib.hid aG
  have hff : Hid (T.formedL (Tm.eraseL [G]) = true) := Lib.hid ((formedL_one G).trans fG)
  clear hbl hm1 hf1 ho ih ib eh eb ft fu hcs hG fG cG aG
  have Hgv := Lib.hid (show G.val = .agg #[.int .i64 G.k, .int .i64 G.n, .string G.s, .slice G.p G.l.length G.c] from rfl)
  rw [Hgv.out]
  go_enter Try.func119, Try.ntmps119
  try simp only [List.append_eq, List.cons_append, List.nil_append]
  go_upto_region 1 with fail
  have hN := Blk4.new w (.int .i64 G.k) (.int .i64 G.n) (.string G.s) (.slice G.p G.l.length G.c)
  have gA : Gr w (w.alloc (.cells #[.int .i64 G.k, .int .i64 G.n, .string G.s, .slice G.p G.l.length G.c] 28)) := by go_grown
  generalize w.alloc (.cells #[.int .i64 G.k, .int .i64 G.n, .string G.s, .slice G.p G.l.length G.c] 28) = wA at *
  have HT := Lib.hid hN
  clear hN
  obtain ⟨⟨t0, t1, t2, t3⟩, _, _⟩ := HT.out.parts
  go_upto_region 3 with (first
    | (go_at_call 42; refine (all_calls (one_new (t := G) (Tm.In_below gA HG.out) (Gr.rfl' _))).mono ?_; rintro e wB ⟨rfl, hb⟩; rewrite [hff.out]; have g2 : Gr wA wB := below_step hb (by go_grown); replace HT := Lib.hid (HT.out.gr g2); have gB := gA.trans g2; clear hb g2 t0 t1 t2 t3; obtain ⟨⟨t0, t1, t2, t3⟩, _, _⟩ := HT.out.parts)
    | fail)
  go_upto_region 5 with (first
    | (go_at_call 83; rewrite [← Hgv.out]; refine (callable_calls _ _).mono ?_; rw [CGc.out]; rintro e wC ⟨rfl, hb⟩; replace HT := Lib.hid (HT.out.gr hb); have gC := gB.trans hb; clear hb t0 t1 t2 t3; obtain ⟨⟨t0, t1, t2, t3⟩, _, _⟩ := HT.out.parts)
    | fail)
  have b2 := (HBl.out.gr gC).cell 2 (v := .map (some M1)) rfl
  refine wp_region_rely [fx (.pointer (some ⟨B, 0, none⟩)), fx (.pointer (some ⟨B, 0, none⟩)), fx (.pointer (some ⟨B, 2, none⟩)), fx (.map (some M1)), fx G.val, fx (.agg #[.string G.s, .int .i64 G.l.length]), fx (.slice (some ⟨g, 0, none⟩) 1 cap), fx G.val, tmIs (wC.heap.size ≤ ·) G.erase, viewV (.slice (some ⟨g, 0, none⟩) 1 cap) G.erase, boxV (.slice (some ⟨g, 0, none⟩) 1 cap) G.erase wC.heap.size, boxV (.slice (some ⟨g, 0, none⟩) 1 cap) G.erase wC.heap.size, fx (.int .i64 0)]
    (by kernel_rfl) (by kernel_rfl) (by repeat (first | exact Stable.nil | refine Stable.fix ?_ | refine Stable.cons tmIs_stable ?_ | refine Stable.cons viewV_stable ?_ | refine Stable.cons boxV_stable ?_)) ?_ ?_
  · refine ⟨?_, ?_, ?_, ?_, ?_, ?a5, ?_, ?_, ?a8, ?a9, ?a10, ?a11, ?_, trivial⟩
    all_goals
      intro a wr hg hold
      have h0 : a.tmps[0]?.getD undef = .pointer (some ⟨B, 0, none⟩) := hold 0 rfl
      have h3 : a.tmps[3]?.getD undef = .pointer (some ⟨w.heap.size, 0, none⟩) := hold 3 rfl
      clear hold
      have y2 := Gr.at hg b2
      have x0 := Gr.at hg t0
      have x1 := Gr.at hg t1
      have x2 := Gr.at hg t2
      have x3 := Gr.at hg t3
      have hlk := (GMap.run (HM1.out.gr (gC.trans hg)) bpred_keyed Try.underlying104 (zero_held wr) (x := (G.s, (G.l.length : Int))) Hkey.out).1
      rw [HF1.out] at hlk
      simp only [kPred, Option.getD_some] at hlk
      clear b2 t0 t1 t2 t3
      simp [predsImp, Region.binds, dstAt, fx, wantedE, Act.eval]
      intros
      first
        | (rw [if_pos (by simp [*])]
           intro K hK)
        | (rename_i K hK)
      go_simp
    case a5 =>
      refine (of_calls G wr).mono ?_
      rintro e w10 ⟨rfl, hg2⟩
      exact hK _ _ rfl hg2
    case a8 =>
      refine (copy_calls (t := G) (Tm.In_below (gC.trans hg) HG.out) FG.out).mono ?_
      rintro e w10 ⟨z, i1, i2, rfl, ib, i3⟩
      exact hK _ _ ⟨z, rfl, i1, i2, i3.mono fun b hb => Nat.le_trans hg.size hb⟩ ib
    case a9 =>
      have hq : tmIs (wC.heap.size ≤ ·) G.erase (a.tmps[21]?.getD undef) wr := by assumption
      obtain ⟨z, e1, i1, j1, _⟩ := hq
      rw [e1]
      simp only [Tm.val]
      go_simp
      exact hK _ _ ⟨z, rfl, i1, j1⟩ (Gr.rfl' _)
    case a10 =>
      have hq : viewV (.slice (some ⟨g, 0, none⟩) 1 cap) G.erase (a.tmps[22]?.getD undef) wr := by assumption
      obtain ⟨z, e1, i1, j1⟩ := hq
      rw [e1]
      go_simp
      exact hK _ _ ⟨_, z, rfl, hg.size, BlkT.new wr 162 #[.slice (some ⟨g, 0, none⟩) 1 cap, .int .i64 z.k, .int .i64 z.n, .string z.s, .slice z.p z.l.length z.c], j1⟩ (by go_grown)
    case a11 =>
      have hq : boxV (.slice (some ⟨g, 0, none⟩) 1 cap) G.erase wC.heap.size (a.tmps[23]?.getD undef) wr := by assumption
      exact hK _ _ hq (Gr.rfl' _)
    all_goals exact hK _ _ rfl (Gr.rfl' _)
  · intro wd hg
    rintro _ rfl _ rfl _ rfl _ rfl _ rfl _ rfl _ rfl _ rfl v8 _ v9 _ v10 _ _ ⟨V, z, rfl, hVs, hVb, hz⟩ _ rfl
    have gD := gC.trans hg
    have hVs' : w.heap.size ≤ V := Nat.le_trans gC.size hVs
    have hgl : g < w.heap.size := World.block_lt_of_cell? _ _ (HCs.out 0 _ rfl)
    have hone : Hid (OneView wd V g cap z h b) := ⟨hVb, fun j x hx => Gr.at gD (HCs.out j x hx), Tm.In_below gD IH.out, Tm.In_below gD IB.out, FH.out, FB.out, erase_nil hz AG.out, by omega, IH.out.on.mono fun x hx => by omega, IB.out.on.mono fun x hx => by omega⟩
    clear hg b2 t0 t1 t2 t3 hVb
    simp only [finAll, Act.put, List.setIfInBounds_toArray, List.set_cons_succ, List.set_cons_zero, List.drop_succ_cons, List.drop_zero, List.take_zero]
    go_wp2_with fail
    exact hR.out V g cap z h b _ hone.out hcap hVs' gD
end Go.Proofs.Ytgaijgadeodoeaa
