/-
  hornkeep.thereTerm
  term.Match: the binds that it hands back are the caller's.
-/
import Derived.Test.YthncdmijledpnaaTM24
import Derived.Test.YthncdmijledpnaaTM28
import Derived.Test.YthncdmijledpnaaTM21
import Derived.Test.YthncdmijledpnaaTM13
namespace Go.Proofs.Ythncdmijledpnaa
open Go.RowKit Go.Maps Go.Lib

theorem atom_e (c : UInt8) : (atomTm ⟨#[c]⟩).erase = .mk 3 0 [c] [] := by rw [atomTm, Tm.erase, Tm.eraseL, ByteArray.toList_mk]
theorem ab_formed : ((atomTm ⟨#[97]⟩).erase.formed && (atomTm ⟨#[98]⟩).erase.formed) = true := by rw [atom_e, atom_e]; decide
theorem lgg_ab : (if ((atomTm ⟨#[97]⟩).erase.formed && (atomTm ⟨#[98]⟩).erase.formed) = true then T.lgg (atomTm ⟨#[97]⟩).erase (atomTm ⟨#[98]⟩).erase else zeroT) = varT 0 := by
  rw [ab_formed, if_pos rfl, atom_e, atom_e]
  show (T.gen _ _ []).1 = _
  rw [T.gen, if_neg (by decide), if_neg (fun h => absurd h.2 (by decide))]
  simp [seekP]

set_option maxHeartbeats 4000000 in
set_option maxRecDepth 100000 in
theorem thereTerm_calls (w : World) : Calls Try.prog 33 #[] w (Ret (.bool true) w) := by
  have hR : Hid (∀ v, true = v → ∀ w', Gr w w' → Ret (.bool true) w (.returned (.bool v)) w') := fun v hv w' hg => ⟨by rw [hv], hg⟩
  generalize Ret (.bool true) w = Q at hR ⊢
  have va : (atomTm ⟨#[97]⟩).val = .agg #[.int .i64 3, .int .i64 0, .string ⟨#[97]⟩, .slice none 0 0] := rfl
  have vb : (atomTm ⟨#[98]⟩).val = .agg #[.int .i64 3, .int .i64 0, .string ⟨#[98]⟩, .slice none 0 0] := rfl
  have Va := Lib.hid va
  have Vb := Lib.hid vb
  have v0 : Hid ((varTm 0).val = .agg #[.int .i64 1, .int .i64 0, .string ⟨#[]⟩, .slice none 0 0]) := rfl
  clear va vb
  go_enter Try.func33, Try.ntmps33
  try simp only [List.append_eq, List.cons_append, List.nil_append]
  have Ma : Hid True := trivial
  go_upto_region 2 with (first
    | (go_at_call 76; clear Ma; refine (atomR_calls ⟨#[97]⟩ _).mono ?_; rintro e w1 ⟨rfl, g1⟩; have G1 := Lib.hid g1; clear g1)
    | (go_at_call 76; refine (atomR_calls ⟨#[98]⟩ _).mono ?_; rintro e w2 ⟨rfl, g2⟩; have G2 := Lib.hid (Gr.trans G1.out g2); clear g2)
    | (go_at_call 27
       rewrite [← Va.out, ← Vb.out]
       refine (generalM_calls (atomTm ⟨#[97]⟩) (atomTm ⟨#[98]⟩) _ (atomTm_in (by decide) _) (atomTm_in (by decide) _) (by decide)).mono ?_
       rintro e w3 ⟨⟨kb, nb, sb, pb, cb, lb⟩, c, rfl, hin, hon, hmi, hg, he, hc0⟩
       obtain rfl := (hc0 ab_formed).symm
       have HB := Lib.hid (And.intro hin (he.trans lgg_ab))
       have G3 := Lib.hid (Gr.trans G2.out hg)
       rewrite [tm_val]
       clear hin hon hmi he hg hc0)
    | fail)
  have hN := Blk4.new w3 (.int .i64 kb) (.int .i64 nb) (.string sb) (.slice pb lb.length cb)
  have gB : Gr w3 (w3.alloc (.cells #[.int .i64 kb, .int .i64 nb, .string sb, .slice pb lb.length cb] 25)) := by go_grown
  generalize w3.alloc (.cells #[.int .i64 kb, .int .i64 nb, .string sb, .slice pb lb.length cb] 25) = w4 at *
  obtain ⟨⟨c0, c1, c2, c3⟩, _, _⟩ := hN.parts
  have Vx := Lib.hid (show (Tm.mk kb nb sb pb cb lb).val = .agg #[.int .i64 kb, .int .i64 nb, .string sb, .slice pb lb.length cb] from tm_val ..)
  have G4 := Lib.hid (Gr.trans G3.out gB)
  have HB4 := Lib.hid (Tm.In_below gB HB.out.1)
  clear gB hN
  refine wp_region_rely [fx (.int .i64 0), fx (.bool true), fx (.bool true), fx (.agg #[.int .i64 kb, .int .i64 nb, .string sb, .slice pb lb.length cb]), fx (.agg #[.int .i64 1, .int .i64 0, .string ⟨#[]⟩, .slice none 0 0]), fx (.bool true), fx (.bool true), fx (.bool true)]
    (by kernel_rfl) (by kernel_rfl) (by repeat (first | exact Stable.nil | refine Stable.fix ?_)) ?_ ?_
  · refine ⟨?_, ?_, ?_, ?_, ?a4, ?a5, ?_, ?_, trivial⟩
    all_goals
      intro a ww hg hold
      have h1 : a.tmps[1]?.getD undef = .pointer (some ⟨w3.heap.size, 0, none⟩) := hold 1 rfl
      have h2 : a.tmps[2]?.getD undef = .int .i64 0 := hold 2 rfl
      have y0 := Gr.at hg c0
      have y1 := Gr.at hg c1
      have y2 := Gr.at hg c2
      have y3 := Gr.at hg c3
      have Hg := Lib.hid hg
      clear hold c0 c1 c2 c3
      simp [predsImp, Region.binds, dstAt, fx, wantedE, Act.eval]
      intros
      first
        | (rw [if_pos (by simp [*])]
           intro K hK)
        | (rename_i K hK)
      go_simp
    case a4 =>
      refine (rV_calls 0 _ ⟨by decide, by decide⟩).mono ?_
      rintro e w10 ⟨rfl, hg2⟩
      exact hK _ _ rfl hg2
    case a5 =>
      rewrite [← Vx.out, ← v0.out]
      refine (same_calls (Tm.In_below Hg.out HB4.out) (varTm_in ⟨by decide, by decide⟩ _)).mono ?_
      rintro e w10 ⟨rfl, hg2⟩
      rw [HB.out.2, varTm_erase, T.same_self]
      exact hK _ _ rfl hg2
    all_goals exact hK _ _ rfl (Gr.rfl' _)
  · intro w9 hg
    rintro _ rfl _ rfl _ rfl _ rfl _ rfl _ rfl _ rfl _ rfl
    simp only [finAll, Act.put, List.setIfInBounds_toArray, List.set_cons_succ, List.set_cons_zero]
    clear c0 c1 c2 c3
    go_wp2_with fail
    exact hR.out _ rfl _ (Gr.trans G4.out hg)
end Go.Proofs.Ythncdmijledpnaa

namespace Go.Proofs.Ythncdmijledpnaa
open Go.RowKit Go.Maps Go.Lib Go.Sort
open Go.ChangeMaps (setBlock)

def RetMatchM (w : World) (e : Ending) (w' : World) : Prop :=
  ∃ (pp : Option Addr) (c : Nat) (l : List Bd) (b : Bool) (k : Int), e = .returned (.tuple #[.slice pp l.length c, .bool b, .int .i64 k]) ∧ (Bds.mk pp c l).In w' ∧ (∀ y ∈ l, y.t.On (w.heap.size ≤ ·) ∧ y.t.Mine w') ∧ Gr w w' ∧ ∃ B, w.heap.size ≤ B ∧ BuiltBds w' B (.slice pp l.length c) l
theorem match_retM {B0 : Nat} {g : Int → Option T} {E : Array MapEntry} {seen : Array Nat} {w w' : World} {B : Nat} {v : Value} {lo lo' : List Bd} (hcol : ColA g E seen lo) (hr : ∀ n, g n ≠ none → 0 ≤ n ∧ n ≤ 1099511627776)
    (hlo : ∀ y ∈ lo, y.t.In w' ∧ y.t.On (fun x => B0 ≤ x) ∧ y.t.Mine w' ∧ y.t.erase.formed = true ∧ 0 ≤ y.v ∧ y.v ≤ 1099511627776) (hp : lo'.Perm lo) (hb : BuiltBds w' B v lo') (hg : Gr w w') (hB0 : w.heap.size ≤ B0) (hBw : w.heap.size ≤ B) : RetMatchM w (.returned (.tuple #[v, .bool true, .int .i64 0])) w' := by
  have hlen := hcol.len hr
  have hlen' : lo'.length = lo.length := hp.length_eq
  obtain ⟨pp, c, rfl, hB⟩ := hb.bds (by omega) fun y hy => by
    have := hlo y (hp.mem_iff.1 hy)
    exact ⟨this.1, by constructor <;> omega⟩
  exact ⟨pp, c, lo', true, 0, rfl, hB, fun y hy => ⟨((hlo y (hp.mem_iff.1 hy)).2.1).mono fun b hb => Nat.le_trans hB0 hb, (hlo y (hp.mem_iff.1 hy)).2.2.1⟩, hg, B, hBw, hb⟩

theorem lo_nextM {B : Nat} {F : Bd → Prop} {lo : List Bd} {v v' : Value} {wC wD w4 : World} {n : Int} {u : Tm} (hlo : ∀ y ∈ lo, y.t.In wC ∧ y.t.On (fun x => B ≤ x ∧ v.ownBlock ≠ some x) ∧ y.t.Mine wC ∧ F y) (iu : u.In wC) (ou : u.On (fun x => B ≤ x ∧ v.ownBlock ≠ some x)) (mu : u.Mine wC) (fu : F ⟨n, u⟩) (hg : Gr wC wD) (h3 : wD.grownBy w4 v.ownBlock) (h4 : v'.ownBlock = v.ownBlock ∨ v'.ownBlock = some wD.heap.size) :
    ∀ y ∈ lo ++ [⟨n, u⟩], y.t.In w4 ∧ y.t.On (fun x => B ≤ x ∧ v'.ownBlock ≠ some x) ∧ y.t.Mine w4 ∧ F y := by
  have one : ∀ s : Tm, s.In wC → s.On (fun x => B ≤ x ∧ v.ownBlock ≠ some x) → s.Mine wC → s.In w4 ∧ s.On (fun x => B ≤ x ∧ v'.ownBlock ≠ some x) ∧ s.Mine w4 := fun s h1 h2 hm => by
    have hk : Kp (fun b => v.ownBlock = some b) wC w4 := (Kp.of_gr hg).trans (Kp.of_grown h3 fun r hr => hr)
    refine ⟨kp_in h1 h2 (fun b hb => hb.2) hk, (h2.and h1.on).mono fun x hx => ⟨hx.1.1, fun e => ?_⟩, mine_kp hm h1 h2 (fun b hb => hb.2) hk⟩
    rcases h4 with h4 | h4
    · rw [h4] at e; exact hx.1.2 e
    · rw [h4] at e
      have := Option.some.inj e
      have := hg.size
      omega
  intro y hy
  rcases List.mem_append.1 hy with hy | hy
  · obtain ⟨a1, a2, am, a3⟩ := hlo y hy
    exact ⟨(one _ a1 a2 am).1, (one _ a1 a2 am).2.1, (one _ a1 a2 am).2.2, a3⟩
  · rw [List.mem_singleton] at hy
    subst hy
    exact ⟨(one _ iu ou mu).1, (one _ iu ou mu).2.1, (one _ iu ou mu).2.2, fu⟩
set_option maxHeartbeats 4000000 in
set_option maxRecDepth 100000 in
theorem tmatchM_calls (p t : Tm) (w : World) (ip : p.In w) (it : t.In w) : Calls Try.prog 28 #[p.val, t.val] w (RetMatchM w) := by
  have Ip := Lib.hid ip
  have It := Lib.hid it
  have hall : ∀ (w0 w' : World), Gr w w0 → Gr (w0.alloc (.cells #[.int .i64 p.k, .int .i64 p.n, .string p.s, .slice p.p p.l.length p.c, .int .i64 t.k, .int .i64 t.n, .string t.s, .slice t.p t.l.length t.c] 25)) w' → Calls Try.prog 80 #[.slice (some ⟨w0.heap.size, 0, none⟩) 2 2] w' (Ret (.bool (p.erase.formed && t.erase.formed)) w') := fun w0 w' h0 h1 => by
    have h2 := all_calls (two_new (Tm.In_below h0 ip) (Tm.In_below h0 it) h1)
    rw [show T.formedL (Tm.eraseL [p, t]) = (p.erase.formed && t.erase.formed) by simp [Tm.eraseL, T.formedL]] at h2
    exact h2
  have Hall := Lib.hid hall
  have hQ0 : Hid (∀ w', Gr w w' → ((p.erase.formed && t.erase.formed) = false) → RetMatchM w (.returned (.tuple #[.slice none 0 0, .bool false, .int .i64 2])) w') := fun w' h1 _ => ⟨none, 0, [], false, 2, rfl, ⟨Nat.le_refl _, ⟨by simp, by simp⟩, .inl rfl, (fun y hy => nomatch hy)⟩, (fun y hy => nomatch hy), h1, w.heap.size, Nat.le_refl _, World.ownsRow_nil _ _ _ 5⟩
  have hQ1 : Hid (∀ w', Gr w w' → ((p.erase.formed && t.erase.formed) = true) → T.mat p.erase t.erase (fun _ => none) = none → RetMatchM w (.returned (.tuple #[.slice none 0 0, .bool false, .int .i64 0])) w') := fun w' h1 _ _ => ⟨none, 0, [], false, 0, rfl, ⟨Nat.le_refl _, ⟨by simp, by simp⟩, .inl rfl, (fun y hy => nomatch hy)⟩, (fun y hy => nomatch hy), h1, w.heap.size, Nat.le_refl _, World.ownsRow_nil _ _ _ 5⟩
  generalize hQ : RetMatchM w = Q at hQ0 hQ1 ⊢
  have HQ := Lib.hid hQ
  have HQ0 := hQ0
  have HQ1 := hQ1
  have hmm := @run_makeMap Try.prog
  clear ip it hall hQ hQ0 hQ1
  rw [show p.val = .agg #[.int .i64 p.k, .int .i64 p.n, .string p.s, .slice p.p p.l.length p.c] from rfl, show t.val = .agg #[.int .i64 t.k, .int .i64 t.n, .string t.s, .slice t.p t.l.length t.c] from rfl]
  go_enter Try.func28, Try.ntmps28
  try simp only [List.append_eq, List.cons_append, List.nil_append]
  go_upto_region 1 with fail
  obtain ⟨h3, h4, gA⟩ := two_blocks w (.int .i64 p.k) (.int .i64 p.n) (.string p.s) (.slice p.p p.l.length p.c) (.int .i64 t.k) (.int .i64 t.n) (.string t.s) (.slice t.p t.l.length t.c)
  generalize ((w.alloc (.cells #[.int .i64 p.k, .int .i64 p.n, .string p.s, .slice p.p p.l.length p.c] 25)).alloc (.cells #[.int .i64 t.k, .int .i64 t.n, .string t.s, .slice t.p t.l.length t.c] 25)) = wA at *
  obtain ⟨⟨x0, x1, x2, x3⟩, _, _⟩ := h3.out.parts
  obtain ⟨⟨y0, y1, y2, y3⟩, _, sA⟩ := h4.out.parts
  have hff : ∃ ff, (p.erase.formed && t.erase.formed) = ff := ⟨_, rfl⟩
  obtain ⟨ff, hff⟩ := hff
  rw [hff] at Hall
  have Hff := Lib.hid hff
  clear hff
  go_wp2_with fail
  refine (Hall.out _ _ gA (Gr.rfl' _)).mono ?_
  rintro e w2 ⟨rfl, hg2⟩
  have gA2 : Gr wA w2 := Gr.trans (show Gr wA _ by go_grown) hg2
  have g2 : Gr w w2 := gA.trans gA2
  clear x0 x1 x2 x3 y0 y1 y2 y3 hg2
  cases ff with
  | false =>
    have Hb := Lib.hid (HQ0.out w2 g2 Hff.out)
    go_wp2_with fail
    exact Hb.out
  | true =>
    have hf : p.erase.formed = true ∧ t.erase.formed = true := by have := Hff.out; simpa using this
    have Hf := Lib.hid hf
    obtain ⟨⟨x0, x1, x2, x3⟩, _, _⟩ := (h3.out.gr gA2).parts
    obtain ⟨⟨y0, y1, y2, y3⟩, _, _⟩ := (h4.out.gr gA2).parts
    go_upto_region 4 with fail
    have gM : Gr w2 (w2.alloc (.map #[] 0)) := by go_grown
    have hm0 := TMap.made (· < w2.heap.size) w2
    have z0 := Gr.at gM x0
    have z1 := Gr.at gM x1
    have z2 := Gr.at gM x2
    have z3 := Gr.at gM x3
    have u0 := Gr.at gM y0
    have u1 := Gr.at gM y1
    have u2 := Gr.at gM y2
    have u3 := Gr.at gM y3
    have sM : (w2.alloc (.map #[] 0)).heap.size = w2.heap.size + 1 := World.size_alloc _ _
    generalize w2.alloc (.map #[] 0) = w3 at *
    have g3 : Gr w w3 := g2.trans gM
    have hcall := match_calls (p := p) (t := t) (f := fun _ => none) hm0 (fun b hb => ⟨by omega, by omega⟩) (Tm.In_below g3 Ip.out) ((Tm.In.on (Tm.In_below g2 Ip.out))) (Tm.In_below g3 It.out) ((Tm.In.on (Tm.In_below g2 It.out))) hf.1 hf.2
    have Hcall := Lib.hid (show Calls Try.prog 90 #[.agg #[.int .i64 p.k, .int .i64 p.n, .string p.s, .slice p.p p.l.length p.c], .agg #[.int .i64 t.k, .int .i64 t.n, .string t.s, .slice t.p t.l.length t.c], .map (some w2.heap.size)] w3 _ from hcall)
    have HM0 : Hid (w.heap.size ≤ w2.heap.size) := g2.size
    generalize w2.heap.size = M at *
    clear hcall hm0 hf x0 x1 x2 x3 y0 y1 y2 y3
    go_wp2_with fail
    refine Hcall.out.mono ?_
    rintro e w5 ⟨bb, rfl, k5, hyes, hno⟩
    have g5 : Gr w w5 := Below.trans g3 (k5.below (fun b hb => by rw [hb]; exact HM0.out) g3.size)
    clear z0 z1 z2 z3 u0 u1 u2 u3
    cases bb with
    | false =>
      have Hb := Lib.hid (HQ1.out w5 g5 Hff.out (hno rfl))
      clear hyes hno
      go_wp2_with fail
      exact Hb.out
    | true =>
      obtain ⟨g, hg, hm⟩ := hyes rfl
      have Hg := Lib.hid hg
      obtain ⟨E, c, hb, hold, hbn, hkn, hent, hin⟩ := hm.entries
      have hr4 : ∀ n, g n ≠ none → 0 ≤ n ∧ n ≤ 1099511627776 := hm.2.2
      have hbl : M < w5.heap.size := (Array.getElem?_eq_some_iff.1 hb).1
      have Hb := Lib.hid hb
      have Hold := Lib.hid hold
      have Hbn := Lib.hid hbn
      have Hkn := Lib.hid hkn
      have Hent := Lib.hid hent
      have Hin := Lib.hid hin
      have Hr4 := Lib.hid hr4
      clear hold hbn hkn hent hin hr4 hm hyes hno hg
      have hrg0 := run_range_map (P := Try.prog) w5 104 2 25 M E c Try.underlying104 hb
      go_wp2_with fail
      go_loopg [8] ((leftOf E #[]).size) (fun m v0 wr => ∃ (seen : Array Nat) (lo : List Bd) (v : Value), v = v0 ∧ m = (leftOf E seen).size ∧ wr.heap[w5.heap.size]? = some (.mapIter (some M) c seen c) ∧ BuiltBds wr (w5.heap.size + 1) v lo ∧ Gr w5 wr ∧ w5.heap.size < wr.heap.size ∧ Hid (ColA g E seen lo) ∧ Hid (∀ y ∈ lo, y.t.In wr ∧ y.t.On (fun x => w5.heap.size + 1 ≤ x ∧ v.ownBlock ≠ some x) ∧ y.t.Mine wr ∧ y.t.erase.formed = true ∧ 0 ≤ y.v ∧ y.v ≤ 1099511627776))
      case atStart => exact ⟨#[], [], _, rfl, rfl, heap_alloc_new w5 _, World.ownsRow_nil _ _ _ 5, (by go_grown), (by simp), ColA.start, fun y hy => nomatch hy⟩
      case round =>
        obtain ⟨seen, lo, v, rfl, rfl, hr, hrow, gr, hsz, hcol, hlo⟩ := hrel
        have hbr : wr.heap[M]? = some (.map E c) := (gr.block M hbl).trans Hb.out
        have Hrow := Lib.hid hrow
        clear hrow
        rcases run_next_at (P := Try.prog) wr 0 w5.heap.size M c c seen E c hr hbr Hold.out (Nat.le_refl _) with ⟨h0, hnext⟩ | ⟨e, he, w1, hw1, hnext⟩
        · have Hall2 := Lib.hid (all_seen E seen h0)
          go_upto_region 11 with fail
          have Hlen := Lib.hid (ColA.len hcol.out Hr4.out)
          go_wp2_with (first
            | (go_at_call 91; refine (sortBdsM_calls (w5.heap.size + 1) _ lo wr Hrow.out Hlen.out hsz).mono ?_; rintro e w7 ⟨rfl, lo', hp, hs, hb1, hbw⟩; have Hend := Lib.hid (match_retM (B0 := w5.heap.size + 1) (w := w) hcol.out Hr4.out (fun y hy => by
                obtain ⟨a1, a2, am, a3⟩ := hlo.out y hy
                exact ⟨kp_in a1 a2 (fun b hb => hb.2) hbw, a2.mono fun b hb => hb.1, mine_kp am a1 a2 (fun b hb => hb.2) hbw, a3⟩) hp hb1 (Below.trans (g5.trans gr) (hbw.below (fun b hb => Nat.le_trans g5.size (Nat.le_trans (Nat.le_succ _) (Hrow.out.ge hb))) (g5.trans gr).size)) (by have := g5.size; omega) (by have := g5.size; omega)); clear hp hs hb1 hbw)
            | fail)
          rw [← HQ.out]
          exact Hend.out
        · obtain ⟨hem, hes⟩ := mem_left he
          have hlt := left_shrinks E seen e he
          obtain ⟨hkp, hr2⟩ := kp_step (o' := .mapIter (some M) c (seen.push e.born) c) hr hw1
          generalize setBlock w1 w5.heap.size (.mapIter (some M) c (seen.push e.born) c) = w2' at hnext hkp hr2
          have g2' : Gr w5 w2' := Kp.gr_at gr hkp (Nat.le_refl _)
          have hbr2 : w2'.heap[M]? = some (.map E c) := (g2'.block M hbl).trans Hb.out
          have hentry := run_entry_at (P := Try.prog) w2' w5.heap.size M c seen E c e hr2 hbr2 hem Hbn.out
          have hsz2 : w5.heap.size < w2'.heap.size := Nat.lt_of_lt_of_le hsz hkp.size
          have Hrow2 := Lib.hid (BuiltBds.kp Hrow.out hkp (fun x hx h => by omega))
          have Hlo2 := Lib.hid (show ∀ y ∈ lo, y.t.In w2' ∧ y.t.Mine w2' from fun y hy => ⟨kp_in (hlo.out y hy).1 (hlo.out y hy).2.1 (fun b hb e => by rw [e] at hb; omega) hkp, mine_kp (hlo.out y hy).2.2.1 (hlo.out y hy).1 (hlo.out y hy).2.1 (fun b hb e => by rw [e] at hb; omega) hkp⟩)
          obtain ⟨n, tm, hkey, hval, hfn, htin, hform, hton, hn0, hn1⟩ := Hent.out e hem
          have Htv := Lib.hid (show tm.val = .agg #[.int .i64 tm.k, .int .i64 tm.n, .string tm.s, .slice tm.p tm.l.length tm.c] from rfl)
          rw [hkey, hval, Htv.out] at hnext hentry
          simp only [kI64] at hnext hentry
          have Hem := Lib.hid hem
          have Hes := Lib.hid hes
          have Hkey := Lib.hid hkey
          have Hfn := Lib.hid hfn
          clear hem hes hkey hfn hval he hw1 hkp hr hbr
          go_upto_region 10 with fail
          have hB := BlkT.new w2' 25 #[.int .i64 tm.k, .int .i64 tm.n, .string tm.s, .slice tm.p tm.l.length tm.c]
          have gB : Gr w2' (w2'.alloc (.cells #[.int .i64 tm.k, .int .i64 tm.n, .string tm.s, .slice tm.p tm.l.length tm.c] 25)) := by go_grown
          generalize w2'.alloc (.cells #[.int .i64 tm.k, .int .i64 tm.n, .string tm.s, .slice tm.p tm.l.length tm.c] 25) = wB at *
          have hrB : wB.heap[w5.heap.size]? = some (.mapIter (some M) c (seen.push e.born) c) := (gB.block _ hsz2).trans hr2
          have grB : Gr w5 wB := g2'.trans gB
          have hszB : w5.heap.size < wB.heap.size := Nat.lt_of_lt_of_le hsz2 gB.size
          have HcB := Lib.hid (show Calls Try.prog 82 #[.agg #[.int .i64 tm.k, .int .i64 tm.n, .string tm.s, .slice tm.p tm.l.length tm.c]] wB _ from copyT_calls (t := tm) (Tm.In_below grB htin) hform)
          have HrB := Lib.hid hrB
          have HrowB := Lib.hid (Hrow2.out.gr gB)
          have HloB := Lib.hid (show ∀ y ∈ lo, y.t.In wB ∧ y.t.Mine wB from fun y hy => ⟨Tm.In_below gB (Hlo2.out y hy).1, (Hlo2.out y hy).2.gr (Hlo2.out y hy).1 gB⟩)
          have t0 := hB.cell 0 (v := .int .i64 tm.k) rfl
          have t1 := hB.cell 1 (v := .int .i64 tm.n) rfl
          have t2 := hB.cell 2 (v := .string tm.s) rfl
          have t3 := hB.cell 3 (v := .slice tm.p tm.l.length tm.c) rfl
          generalize w2'.heap.size = H at *
          clear hB hrB hr2 gB g2' hbr2 hentry hnext Hlo2 Hrow2
          go_wp2_with fail
          refine HcB.out.mono ?_
          rintro e' wC ⟨u, iu, eu, rfl, gC, ou, uw, _⟩
          have Huv := Lib.hid (show u.val = .agg #[.int .i64 u.k, .int .i64 u.n, .string u.s, .slice u.p u.l.length u.c] from rfl)
          rw [Huv.out]
          have Iu := Lib.hid iu
          have Ou := Lib.hid ou
          have Eu := Lib.hid eu
          have Uw := Lib.hid uw.mine
          have grC : Gr w5 wC := grB.trans gC
          have hszC : w5.heap.size < wC.heap.size := Nat.lt_of_lt_of_le hszB gC.size
          have HrowC := Lib.hid (HrowB.out.gr gC)
          have Hcol2 := Lib.hid (ColA.snoc (tm := u) hcol.out Hbn.out Hkn.out Hem.out Hes.out Hkey.out (by rw [Hfn.out, Eu.out]))
          have Hlen := Lib.hid (ColA.len Hcol2.out Hr4.out)
          have Hlen2 : (lo.length + 1) * 64 ≤ 140737488351232 := by
            have := Hlen.out
            rw [List.length_append, List.length_singleton] at this
            omega
          have HrC : Hid (wC.heap[w5.heap.size]? = some (.mapIter (some M) c (seen.push e.born) c)) := (gC.block _ hszB).trans HrB.out
          have HloC := Lib.hid (show ∀ y ∈ lo, y.t.In wC ∧ y.t.Mine wC from fun y hy => ⟨Tm.In_below gC (HloB.out y hy).1, (HloB.out y hy).2.gr (HloB.out y hy).1 gC⟩)
          have Hlo3 := Lib.hid (show ∀ wD w4 (v' : Value), Gr wC wD → wD.grownBy w4 v.ownBlock → (v'.ownBlock = v.ownBlock ∨ v'.ownBlock = some wD.heap.size) → ∀ y ∈ lo ++ [Bd.mk n u], y.t.In w4 ∧ y.t.On (fun x => w5.heap.size + 1 ≤ x ∧ v'.ownBlock ≠ some x) ∧ y.t.Mine w4 ∧ y.t.erase.formed = true ∧ 0 ≤ y.v ∧ y.v ≤ 1099511627776 from fun wD w4 v' a1 a2 a3 =>
            lo_nextM (F := fun y => y.t.erase.formed = true ∧ 0 ≤ y.v ∧ y.v ≤ 1099511627776) (fun y hy => ⟨(HloC.out y hy).1, (hlo.out y hy).2.1, (HloC.out y hy).2, (hlo.out y hy).2.2.2⟩) Iu.out (Ou.out.mono fun x hx => ⟨by omega, fun e => by have := own_ltA HrowB.out e; omega⟩) Uw.out ⟨by simp only; rw [Eu.out]; exact hform, hn0, hn1⟩ a1 a2 a3)
          clear t0 t1 t2 t3 uw iu ou eu
          go_wp2_with (first
            | (refine wpList_append_bd rfl _ _ rfl rfl (w5.heap.size + 1) _ lo ⟨n, u⟩ wC.heap.size 1 (by rfl) (by rfl) (HrowC.out.gr (by go_grown)) (by simp; omega) Hlen2 (BlkT.new wC _ _) ?_
               intro v' w4 h2 h3 h4)
            | fail)
          have gC4 : Below (w5.heap.size + 1) wC w4 := Below.trans (Below.mono (show Gr wC _ by go_grown) hszC) (grownBy_below h3 (by simp; omega) fun b hb => HrowC.out.ge hb)
          have Hlo4 := Lib.hid (Hlo3.out _ _ _ (by go_grown) h3 h4)
          go_roundg ((leftOf E (seen.push e.born)).size)
          case measure => exact hlt
          case rel => exact ⟨_, _, _, rfl, rfl, (gC4.block _ (Nat.lt_succ_self _)).trans HrC.out, h2, Below.trans grC (Below.mono gC4 (Nat.le_succ _)), Nat.lt_of_lt_of_le hszC gC4.size, Hcol2, Hlo4⟩
end Go.Proofs.Ythncdmijledpnaa
