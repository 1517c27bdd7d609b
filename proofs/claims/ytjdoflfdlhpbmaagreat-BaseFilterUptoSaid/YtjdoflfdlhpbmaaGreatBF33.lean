/-
  Slices of pairs that a call makes by append.
  hornkeep.BaseFilter: the walk.
-/
import Derived.Test.YtjdoflfdlhpbmaaGreatBF25
import Derived.Test.YtjdoflfdlhpbmaaGreatBF20
import Derived.Test.YtjdoflfdlhpbmaaGreatBF03
import Derived.Test.YtjdoflfdlhpbmaaGreatBF06
import Derived.Test.YtjdoflfdlhpbmaaGreatBF32
namespace Go.Proofs.YtjdoflfdlhpbmaaGreat
open Go.RowKit Go.Maps Go.Lib

/-- The slice v of the call's own (blocks from B on) holds the pairs l. -/
def BuiltPrs (w : World) (B : Nat) (v : Value) (l : List Pr) : Prop := w.ownsRow B 45 8 v l.length (l.flatMap Pr.cells)
theorem BuiltPrs.gr {w w' : World} {B : Nat} {v : Value} {l : List Pr} (h : BuiltPrs w B v l) (hg : Gr w w') : BuiltPrs w' B v l := ownsRow_gr h hg
theorem BuiltPrs.ge {w : World} {B : Nat} {v : Value} {l : List Pr} (h : BuiltPrs w B v l) {b : Nat} (hb : v.ownBlock = some b) : B ≤ b := by
  rcases h.2 with ⟨rfl, _⟩ | ⟨g, cap, cur, rfl, h2, _⟩
  · cases hb
  · cases hb; exact h2

/-- Two solved forms of the same pairs. -/
theorem Holds.uniq {E : List (T × T)} {ρ ρ' : Int → T} (h : Holds E ρ) (h' : Holds E ρ') (hc : Canon ρ) (hc' : Canon ρ') : ρ = ρ' := hc.uniq hc' (h.2 _ h'.1) (h'.2 _ h.1)
end Go.Proofs.YtjdoflfdlhpbmaaGreat

namespace Go.Proofs.YtjdoflfdlhpbmaaGreat
open Go.RowKit Go.Maps Go.Lib

def slTms (l : List Tm) : VP := fun v w => ∃ (p : Option Addr) (c : Nat), v = .slice p l.length c ∧ Tm.Sl w p c l
theorem slTms_stable {l : List Tm} : ∀ v w w', slTms l v w → Gr w w' → slTms l v w' := fun _ _ _ ⟨p, c, h1, h2⟩ hg => ⟨p, c, h1, h2.mono hg⟩
def prAg (hd : Tm) (X : T) : VP := fun v w => ∃ b : Tm, v = .agg #[.int .i64 b.k, .int .i64 b.n, .string b.s, .slice b.p b.l.length b.c, .int .i64 hd.k, .int .i64 hd.n, .string hd.s, .slice hd.p hd.l.length hd.c] ∧ b.In w ∧ b.erase = X
theorem prAg_stable {hd : Tm} {X : T} : ∀ v w w', prAg hd X v w → Gr w w' → prAg hd X v w' := fun _ _ _ ⟨b, h1, h2, h3⟩ hg => ⟨b, h1, Tm.In_below hg h2, h3⟩
def prOne (hd : Tm) (X : T) : VP := fun v w => ∃ (b : Tm) (p : Option Addr), v = .slice p 1 1 ∧ (Prs.mk p 1 [⟨b, hd⟩]).In w ∧ b.erase = X
theorem prOne_stable {hd : Tm} {X : T} : ∀ v w w', prOne hd X v w → Gr w w' → prOne hd X v w' := fun _ _ _ ⟨b, p, h1, h2, h3⟩ hg => ⟨b, p, h1, h2.mono hg, h3⟩
theorem pr_one {w w' : World} {a b : Tm} (ha : a.In w) (hb : b.In w) (hg : Gr (w.alloc (.cells #[.int .i64 a.k, .int .i64 a.n, .string a.s, .slice a.p a.l.length a.c, .int .i64 b.k, .int .i64 b.n, .string b.s, .slice b.p b.l.length b.c] 45)) w') : (Prs.mk (some ⟨w.heap.size, 0, none⟩) 1 [⟨a, b⟩]).In w' := by
  have hB := (BlkT.new w 45 #[.int .i64 a.k, .int .i64 a.n, .string a.s, .slice a.p a.l.length a.c, .int .i64 b.k, .int .i64 b.n, .string b.s, .slice b.p b.l.length b.c]).gr hg
  have g0 : Gr w w' := below_step hg (by go_grown)
  refine ⟨Nat.le_refl _, ⟨by simp, by simp⟩, .inr ⟨w.heap.size, 0, rfl, fun i x hx => ?_⟩, fun y hy => ?_⟩
  · cases i with
    | zero =>
      simp only [List.getElem?_cons_zero, Option.some.injEq] at hx
      subst hx
      exact ⟨⟨hB.cell 0 rfl, hB.cell 1 rfl, hB.cell 2 rfl, hB.cell 3 rfl⟩, hB.cell 4 rfl, hB.cell 5 rfl, hB.cell 6 rfl, hB.cell 7 rfl⟩
    | succ i => simp at hx
  · simp only [List.mem_cons, List.mem_nil_iff, or_false] at hy
    subst hy
    exact ⟨Tm.In_below g0 ha, Tm.In_below g0 hb⟩
theorem RetSolve.err {l : List Pr} {w w' : World} {e : Ending} (h : RetSolve l w e w') : ∃ (v : Value) (E : Int), e = .returned (.tuple #[v, .int .i64 E]) ∧ Gr w w' ∧ (∃ q n c, v = .slice q n c) ∧ (E = 0 → ∃ ρ, Unif ρ (seePrs l)) := by
  obtain ⟨hg, ⟨_, rfl⟩ | ⟨_, ⟨rfl, _⟩ | ⟨ρ, p, c, s, rfl, _, _, _, h4⟩⟩⟩ := h
  · exact ⟨_, _, rfl, hg, ⟨_, _, _, rfl⟩, fun h => by cases h⟩
  · exact ⟨_, _, rfl, hg, ⟨_, _, _, rfl⟩, fun h => by cases h⟩
  · exact ⟨_, _, rfl, hg, ⟨_, _, _, rfl⟩, fun _ => ⟨ρ, h4.1⟩⟩
theorem bf_64 {lo n : Nat} {w : World} {B M1 M2 : Nat} {va : Value} {st : BSt} {R : List HrT} (h : BfM lo w B M1 M2 va st R) (hl : st.last ≤ n) (hn : n ≤ 8388608) : (∀ i ∈ st.all, In64 i) ∧ ∀ g, ∀ i ∈ lookT g ((st.pr (keyT g)).getD []), In64 i := by
  have key : ∀ x ∈ R, In64 x.i := fun x hx => by
    have h1 := h.a.ids x hx
    have h2 := h.a.last
    unfold In64
    omega
  refine ⟨fun i hi => ?_, fun g i hi => ?_⟩
  · rw [h.a.all] at hi
    obtain ⟨x, hx, rfl⟩ := List.mem_map.1 hi
    exact key x ((List.mem_filter.1 hx).1)
  · rw [lookT] at hi
    obtain ⟨y, hy, rfl⟩ := List.mem_map.1 hi
    have hy1 := (List.mem_filter.1 hy).1
    rw [h.a.pr] at hy1
    split at hy1
    · obtain ⟨x, hx, rfl⟩ := List.mem_map.1 hy1
      exact key x ((List.mem_filter.1 hx).1)
    · cases hy1
theorem IntSl.at {w : World} {b o c : Nat} {V : List Int} (h : IntSl w (some ⟨b, o, none⟩) c V) (i : Nat) (hi : i < V.length) : w.cell? ⟨b, o + i, none⟩ = some (.int .i64 V[i]) := by
  rcases h.2.2.2 with rfl | ⟨b', o', hp, _, hr⟩
  · simp at hi
  · cases hp
    exact hr i _ (List.getElem?_eq_getElem hi)

set_option maxHeartbeats 16000000 in
set_option maxRecDepth 100000 in
theorem baseFilter_walk (l : Tms) (goal : Tm) (w : World) (hl : l.In w) (hg : goal.In w) (zl : l.l.length ≤ 1048576) :
    Calls Tryz.prog 3 #[l.val, goal.val] w (Ret (.bool true) w) := by
  have hR : Hid (∀ w', Gr w w' → Ret (.bool true) w (.returned (.bool true)) w') := fun w' hg => ⟨rfl, hg⟩
  generalize hQ : Ret (.bool true) w = Q at hR ⊢
  clear hQ
  obtain ⟨lp, lc, L⟩ := l
  simp only at zl
  have HL := Lib.hid (show Tm.Sl w lp lc L from hl)
  have Hg := Lib.hid hg
  have hLc := hl.1
  have hLc2 := hl.2.1
  simp only at hLc hLc2
  clear hl hg
  have Hgv := Lib.hid (show goal.val = .agg #[.int .i64 goal.k, .int .i64 goal.n, .string goal.s, .slice goal.p goal.l.length goal.c] from rfl)
  simp only [Tms.val]
  rw [Hgv.out]
  go_enter Tryz.func3, Tryz.ntmps3
  try simp only [List.append_eq, List.cons_append, List.nil_append]
  go_upto_region 1 with fail
  have hT := Blk4.new w (.int .i64 goal.k) (.int .i64 goal.n) (.string goal.s) (.slice goal.p goal.l.length goal.c)
  have gw : Gr w (w.alloc (.cells #[.int .i64 goal.k, .int .i64 goal.n, .string goal.s, .slice goal.p goal.l.length goal.c] 24)) := by go_grown
  have hs1 : (w.alloc (.cells #[.int .i64 goal.k, .int .i64 goal.n, .string goal.s, .slice goal.p goal.l.length goal.c] 24)).heap.size = w.heap.size + 1 := World.size_alloc _ _
  generalize w.alloc (.cells #[.int .i64 goal.k, .int .i64 goal.n, .string goal.s, .slice goal.p goal.l.length goal.c] 24) = w1 at *
  have HT := Lib.hid hT
  clear hT
  go_upto_region 4 with (first
    | (go_at_call 4; refine (thereBase_calls _).mono ?_; rintro e w2 ⟨rfl, hb⟩; have g12 : Gr w1 w2 := hb; clear hb)
    | (go_at_call 5; refine (new_calls _).mono ?_; rintro e w3 ⟨rfl, hw3⟩; have hNB := (new_base w2).1; rewrite [← hw3] at hNB; have g23 : Gr w2 w3 := by rw [hw3]; go_grown
       have HNB := Lib.hid hNB
       clear hw3 hNB)
    | fail)
  have gw2 : Gr w w2 := gw.trans g12
  replace HT := Lib.hid (HT.out.gr g12)
  have hlo : w.heap.size + 1 ≤ w2.heap.size := by have := g12.size; omega
  have HB0 : Hid (BfM w2.heap.size w3 (w2.heap.size + 1 + 1) w2.heap.size (w2.heap.size + 1) (.slice none 0 0) newSt []) := BfM.new HNB.out ⟨by omega, Nat.le_refl _, by omega⟩
  clear hs1 HNB gw g12
  generalize hBe : w2.heap.size + 1 + 1 = B at *
  generalize hM2e : w2.heap.size + 1 = M2 at *
  have hlB : w2.heap.size ≤ B := by omega
  clear hBe hM2e
  go_wp2_with fail
  go_loopg [6] L.length (fun m i wr => ∃ (k : Nat) (va : Value) (st : BSt) (R : List HrT), k ≤ L.length ∧ m = L.length - k ∧ i = .int .i64 k ∧ Hid (BfM w2.heap.size wr B w2.heap.size M2 va st R) ∧ (0 ≤ st.last ∧ st.last ≤ k) ∧ Gr w2 wr)
  case atStart => exact ⟨0, _, _, _, Nat.zero_le _, rfl, rfl, HB0.out, ⟨Int.le_refl _, Int.le_refl _⟩, g23⟩
  case round =>
    obtain ⟨k, va, st, R, hk, rfl, rfl, HTw, hlast, gr⟩ := hrel
    have grl := gr.size
    have gwr : Gr w wr := gw2.trans gr
    by_cases hlt : k < L.length
    · obtain ⟨bR, oR, rfl⟩ := HL.out.ptr (by omega)
      obtain ⟨⟨x0, x1, x2, x3⟩, hx, _⟩ := (HL.out.mono gwr).elem k hlt
      generalize L[k] = x at *
      have Hx := Lib.hid hx
      have Hxv := Lib.hid (show x.val = .agg #[.int .i64 x.k, .int .i64 x.n, .string x.s, .slice x.p x.l.length x.c] from rfl)
      clear hx
      rcases make_cases x.erase with ⟨h0, b0, hmk, fh, fb, hpe⟩ | ⟨E, hmk, hE⟩
      · have HMk := Lib.hid hmk
        have Fh := Lib.hid fh
        have Fb := Lib.hid fb
        have Hpe := Lib.hid hpe
        clear hmk fh fb hpe
        go_upto_region 8 with (first
          | (go_at_call 6; rewrite [← Hxv.out]; refine (Make_callsO x _ Hx.out).mono ?_; rw [HMk.out]; rintro e w5 ⟨hm, bm, rfl, hi, hi2, he, hb, o1, o2⟩; simp only [Prod.mk.injEq] at he; have Hhi := Lib.hid hi; have Hbi := Lib.hid hi2; have He := Lib.hid he; have Ho1 := Lib.hid o1; have Ho2 := Lib.hid o2; have Hcv := Lib.hid (clVal_eq hm bm); rewrite [clVal_eq]; clear hi hi2 he o1 o2 x0 x1 x2 x3)
          | fail)
        have hC : Blk8 (w5.alloc (.cells #[.int .i64 hm.k, .int .i64 hm.n, .string hm.s, .slice hm.p hm.l.length hm.c, .int .i64 bm.k, .int .i64 bm.n, .string bm.s, .slice bm.p bm.l.length bm.c] 29)) w5.heap.size (.int .i64 hm.k) (.int .i64 hm.n) (.string hm.s) (.slice hm.p hm.l.length hm.c) (.int .i64 bm.k) (.int .i64 bm.n) (.string bm.s) (.slice bm.p bm.l.length bm.c) := heap_alloc_new _ _
        have gC : Gr w5 (w5.alloc (.cells #[.int .i64 hm.k, .int .i64 hm.n, .string hm.s, .slice hm.p hm.l.length hm.c, .int .i64 bm.k, .int .i64 bm.n, .string bm.s, .slice bm.p bm.l.length bm.c] 29)) := by go_grown
        generalize w5.alloc (.cells #[.int .i64 hm.k, .int .i64 hm.n, .string hm.s, .slice hm.p hm.l.length hm.c, .int .i64 bm.k, .int .i64 bm.n, .string bm.s, .slice bm.p bm.l.length bm.c] 29) = w6 at *
        have g6 : Gr wr w6 := hb.trans gC
        have hs5 := hb.size
        have hs6 := gC.size
        have HMb := Lib.hid HTw.out.b.lt
        replace HTw := Lib.hid (HTw.out.gr g6)
        replace Hhi := Lib.hid (Tm.In_below gC Hhi.out)
        replace Hbi := Lib.hid (Tm.In_below gC Hbi.out)
        obtain ⟨e1, e2⟩ := He.out
        have HSmall := Lib.hid (tm_small (t := hm) (by rw [e1]; exact Fh.out))
        have Hpe2 := Lib.hid (show plainErr reserved hm.erase bm.erase = 0 by rw [e1, e2]; exact Hpe.out)
        have HFh := Lib.hid (show hm.erase.formed = true by rw [e1]; exact Fh.out)
        have HFb := Lib.hid (show bm.erase.formed = true by rw [e2]; exact Fb.out)
        have HCal := Lib.hid (plain_callable Hpe2.out)
        obtain ⟨c0, c1, c2, c3, c4, c5, c6, c7⟩ := hC.cells
        go_upto_region 10 with (first
          | (go_at_call 7; rewrite [← Hcv.out]; refine (add_gen _ B w2.heap.size M2 va st hm bm _ w6 HTw.out.b Hhi.out Hbi.out (Ho1.out.mono fun y hy e => by subst e; have := HMb.out y (.inl rfl); omega) (Ho2.out.mono fun y hy e => by subst e; have := HMb.out y (.inl rfl); omega) (fun y hy => hy.1) Hpe2.out HFh.out HFb.out HSmall.out.1 HSmall.out.2 hlast.1 (by omega)).mono ?_; rintro e w7 ⟨va2, st2, hadd, rfl, hB2, hK2, hoo⟩; rewrite [← keyT_tm] at hadd; have HB2 := Lib.hid (HTw.out.add ⟨HCal.out, HFh.out, HFb.out⟩ hadd hB2 hK2 (by omega) hoo); have HK2 := Lib.hid hK2; have hl2 := hadd.last; clear hadd hB2 hK2 hoo)
          | fail)
        have g7 : Gr w2 w7 := Below.trans (gr.trans g6) (HK2.out.below (B := w2.heap.size) HTw.out.low (by omega))
        have hs0 : ((0 : Int) != 0) = false := rfl
        go_wp2_with fail
        go_roundg (L.length - (k + 1))
        case measure => omega
        case rel => exact ⟨k + 1, va2, st2, _, by omega, rfl, by go_num, HB2.out, ⟨by omega, by omega⟩, g7⟩
      · have hE2 : (E == 0) = false := beq_eq_false_iff_ne.2 hE
        have hE3 : (E != 0) = true := by simp [bne, hE2]
        have HMk := Lib.hid hmk
        clear hmk hE
        go_upto_region 8 with (first
          | (go_at_call 6; rewrite [← Hxv.out]; refine (Make_callsO x _ Hx.out).mono ?_; rw [HMk.out]; rintro e w5 ⟨hm, bm, rfl, hi, hi2, he, hb, o1, o2⟩; rewrite [clVal_eq]; clear hi hi2 he o1 o2 x0 x1 x2 x3)
          | fail)
        have gC : Gr w5 (w5.alloc (.cells #[.int .i64 hm.k, .int .i64 hm.n, .string hm.s, .slice hm.p hm.l.length hm.c, .int .i64 bm.k, .int .i64 bm.n, .string bm.s, .slice bm.p bm.l.length bm.c] 29)) := by go_grown
        generalize w5.alloc (.cells #[.int .i64 hm.k, .int .i64 hm.n, .string hm.s, .slice hm.p hm.l.length hm.c, .int .i64 bm.k, .int .i64 bm.n, .string bm.s, .slice bm.p bm.l.length bm.c] 29) = w6 at *
        have g6 : Gr wr w6 := hb.trans gC
        go_wp2_with fail
        go_roundg (L.length - (k + 1))
        case measure => omega
        case rel => exact ⟨k + 1, va, st, R, by omega, rfl, by go_num, HTw.out.gr g6, ⟨hlast.1, by omega⟩, gr.trans g6⟩
    · obtain rfl : k = L.length := by omega
      replace HT := Lib.hid (HT.out.gr gr)
      have hTl : w.heap.size < wr.heap.size := (Array.getElem?_eq_some_iff.1 HT.out).1
      have HForm := Lib.hid (fun W (g : Gr wr W) => show Calls Tryz.prog 8 #[.agg #[.int .i64 goal.k, .int .i64 goal.n, .string goal.s, .slice goal.p goal.l.length goal.c]] W (Ret (.bool goal.erase.formed) W) from rformed_calls (Tm.In_below (gwr.trans g) Hg.out))
      have hkk : goal.erase.k = goal.k := by obtain ⟨_, _, _, _, _, _⟩ := goal; rfl
      obtain ⟨⟨q0, q1, q2, q3⟩, _, _⟩ := HT.out.parts
      obtain ⟨ff, hff⟩ : ∃ ff, goal.erase.formed = ff := ⟨_, rfl⟩
      have Hff := Lib.hid hff
      rw [hff] at HForm
      clear hff
      cases ff with
      | false =>
        go_wp2_with (first
          | (go_at_call 8; refine (HForm.out wr (Gr.rfl' _)).mono ?_; rintro e w5 ⟨rfl, hb⟩; replace hb : Gr wr w5 := hb)
          | fail)
        exact hR.out _ (gwr.trans hb)
      | true =>
        cases hcal : goal.erase.callable with
        | false =>
          rw [T.callable, hkk] at hcal
          simp only [Bool.or_eq_false_iff, decide_eq_false_iff_not] at hcal
          have hk3 : (goal.k != 3) = true := by simpa using hcal.1
          have hk4 : (goal.k != 4) = true := by simpa using hcal.2
          go_wp2_with (first
            | (go_at_call 8; refine (HForm.out wr (Gr.rfl' _)).mono ?_; rintro e w5 ⟨rfl, hb⟩; replace hb : Gr wr w5 := hb; replace q0 := Gr.at hb q0)
            | fail)
          exact hR.out _ (gwr.trans hb)
        | true =>
          have HCal := Lib.hid hcal
          obtain ⟨w5, g5, HT5⟩ : ∃ w5, w5 = wr ∧ True := ⟨wr, rfl, trivial⟩
          clear g5 HT5 w5
          have Hlook := Lib.hid (fun W (g : Gr wr W) => show Calls Tryz.prog 9 #[.pointer (some ⟨B, 0, none⟩), .agg #[.int .i64 goal.k, .int .i64 goal.n, .string goal.s, .slice goal.p goal.l.length goal.c]] W _ from lookP_calls (BfS W B w2.heap.size M2 va) B w2.heap.size M2 va st goal W (HTw.out.gr g).b (fun x hx => hx.1) (Tm.In_below (gwr.trans g) Hg.out) Hff.out HCal.out (by omega))
          have Hall := Lib.hid (fun W (g : Gr wr W) => show Calls Tryz.prog 10 #[.pointer (some ⟨B, 0, none⟩)] W _ from allP_calls (BfS W B w2.heap.size M2 va) B w2.heap.size M2 va st W (HTw.out.gr g).b (by omega))
          have H64 := Lib.hid (bf_64 (n := L.length) HTw.out (by omega) (by omega))
          rw [T.callable, hkk, Bool.or_eq_true, decide_eq_true_eq, decide_eq_true_eq] at hcal
          have HKK := Lib.hid hcal
          clear hcal hkk
          -- the list that is let through, and all numbers
          have hlast2 := hlast.2
          have HFF : Hid (∀ (y : HrT) (ρ σ : Int → T), y ∈ R → y.d ∈ (st.pr (keyT y.h)).getD [] → T.map ρ (T.map σ goal.erase) = T.map ρ y.h → y.i ∈ lookT goal.erase ((st.pr (keyT goal.erase)).getD [])) := fun y ρ σ hy hd hu => by
            obtain ⟨e1, e2⟩ := unify_lets ρ σ Hff.out (HTw.out.c y hy).2.1 HCal.out (HTw.out.c y hy).1 hu
            rw [lookT, e1]
            exact List.mem_map.2 ⟨y.d, List.mem_filter.2 ⟨hd, e2⟩, rfl⟩
          generalize hFe : lookT goal.erase ((st.pr (keyT goal.erase)).getD []) = FL at *
          have H64F : Hid (∀ i ∈ FL, In64 i) := by rw [← hFe]; exact H64.out.2 _
          clear hFe
          obtain ⟨hk3, hk4⟩ | ⟨hk3, hk4⟩ : ((goal.k != 3) = false ∧ goal.k = goal.k) ∨ ((goal.k != 3) = true ∧ (goal.k != 4) = false) := by
            rcases HKK.out with h | h
            · exact .inl ⟨by simp [h], rfl⟩
            · exact .inr ⟨by simp [h], by simp [h]⟩
          all_goals
            go_upto_region 16 with (first
              | (go_at_call 8; refine (HForm.out wr (Gr.rfl' _)).mono ?_; rintro e w5 ⟨rfl, hb⟩; replace hb : Gr wr w5 := hb; replace q0 := Gr.at hb q0; replace q1 := Gr.at hb q1; replace q2 := Gr.at hb q2; replace q3 := Gr.at hb q3; have G5 := Lib.hid hb; clear hb)
              | (go_at_call 9; refine (Hlook.out _ G5.out).mono ?_; rintro e w6 ⟨vF, BF, rfl, hoF, g6⟩; obtain ⟨fq, fc, rfl, hFs⟩ := intsl_own hoF H64F.out; have G6 := Lib.hid (G5.out.trans g6); have HFs := Lib.hid hFs; clear hoF g6 hFs q0 q1 q2 q3)
              | (go_at_call 10; refine (Hall.out _ G6.out).mono ?_; rintro e w7 ⟨vA, rfl, hoA, g7⟩; obtain ⟨aq, ac, rfl, hAs⟩ := intsl_own hoA H64.out.1; have G7 := Lib.hid (G6.out.trans g7); replace HFs := Lib.hid (HFs.out.mono g7); have HAs := Lib.hid hAs; clear hoA g7 hAs)
              | fail)
            have h00 : ((0 : Int) != 0) = false := rfl
            have hFc := HFs.out.1
            have hFc2 := HFs.out.2.1
            have hAc := HAs.out.1
            have hAc2 := HAs.out.2.1
            go_wp2_with fail
            go_loopg [14] st.all.length (fun m i wx => ∃ k : Nat, k ≤ st.all.length ∧ m = st.all.length - k ∧ i = .int .i64 k ∧ Gr w7 wx)
            case atStart => exact ⟨0, Nat.zero_le _, rfl, rfl, Gr.rfl' _⟩
            case round =>
              obtain ⟨k2, hk2, rfl, rfl, gx⟩ := hrel
              by_cases hlt2 : k2 < st.all.length
              · obtain ⟨ab, ao, rfl, habl, hcell⟩ := HAs.out.ptr (by omega)
                have a0 := Gr.at gx (hcell k2 st.all[k2] (List.getElem?_eq_getElem hlt2))
                have HA0 := Lib.hid a0
                have hmem : st.all[k2] ∈ st.all := List.getElem_mem hlt2
                have HGet := Lib.hid (fun W (g : Gr w7 W) => getB_calls (HTw.out.gr (G7.out.trans g)) (H64.out.1 _ hmem) hmem)
                generalize st.all[k2] = idv at *
                have GX := Lib.hid (G7.out.trans gx)
                clear hcell hmem
                go_upto_region 22 with (first
                  | (go_at_call 11; refine (HGet.out _ gx).mono ?_; rintro e wb ⟨y, hd, bd, rfl, hy, hyi, hyd, eh, eb, ih, ib, gb⟩; rewrite [clVal_eq]; have HY := Lib.hid (And.intro hy (And.intro hyi (And.intro hyd (And.intro eh eb)))); have HI := Lib.hid (And.intro ih ib); have GB := Lib.hid (GX.out.trans gb); have GXB := Lib.hid gb; clear hy hyi hyd eh eb ih ib gb a0)
                  | fail)
                have hC : Blk8 (wb.alloc (.cells #[.int .i64 hd.k, .int .i64 hd.n, .string hd.s, .slice hd.p hd.l.length hd.c, .int .i64 bd.k, .int .i64 bd.n, .string bd.s, .slice bd.p bd.l.length bd.c] 29)) wb.heap.size (.int .i64 hd.k) (.int .i64 hd.n) (.string hd.s) (.slice hd.p hd.l.length hd.c) (.int .i64 bd.k) (.int .i64 bd.n) (.string bd.s) (.slice bd.p bd.l.length bd.c) := heap_alloc_new _ _
                have gC : Gr wb (wb.alloc (.cells #[.int .i64 hd.k, .int .i64 hd.n, .string hd.s, .slice hd.p hd.l.length hd.c, .int .i64 bd.k, .int .i64 bd.n, .string bd.s, .slice bd.p bd.l.length bd.c] 29)) := by go_grown
                generalize wb.alloc (.cells #[.int .i64 hd.k, .int .i64 hd.n, .string hd.s, .slice hd.p hd.l.length hd.c, .int .i64 bd.k, .int .i64 bd.n, .string bd.s, .slice bd.p bd.l.length bd.c] 29) = wc at *
                replace GB := Lib.hid (GB.out.trans gC)
                replace GXB := Lib.hid (GXB.out.trans gC)
                replace HI := Lib.hid (And.intro (Tm.In_below gC HI.out.1) (Tm.In_below gC HI.out.2))
                have HC := Lib.hid hC
                clear hC gC
                have HTc := Lib.hid (HT.out.gr GB.out)
                obtain ⟨⟨q0, q1, q2, q3⟩, _, _⟩ := HTc.out.parts
                have hall : Hid (∀ z ∈ ([goal] : List Tm), z.erase.formed = true) := fun z hz => by
                  simp only [List.mem_cons, List.mem_nil_iff, or_false] at hz
                  rw [hz]; exact Hff.out
                go_upto_region 23 with (first
                  | (go_at_call 12; refine (rvars_calls _ 1 [goal] _ (one_new (t := goal) (Tm.In_below (gwr.trans GB.out) Hg.out) (Gr.rfl' _)) hall.out).mono ?_; rintro e w9 ⟨pv, cv, rfl, hsl, hg9⟩; have hg' : Gr wc w9 := below_step hg9 (by go_grown); replace HC := Lib.hid (HC.out.gr hg'); replace HTc := Lib.hid (HTc.out.gr hg'); replace HI := Lib.hid (And.intro (Tm.In_below hg' HI.out.1) (Tm.In_below hg' HI.out.2)); replace GB := Lib.hid (GB.out.trans hg'); replace GXB := Lib.hid (GXB.out.trans hg'); have HSl := Lib.hid hsl; clear hsl hg9 hg' q0 q1 q2 q3)
                  | fail)
                obtain ⟨⟨q0, q1, q2, q3⟩, _, _⟩ := HTc.out.parts
                obtain ⟨c0, c1, c2, c3, c4, c5, c6, c7⟩ := HC.out.cells
                have HV : Hid (VarsOk (T.varsL (Tm.eraseL [goal]) [])) := VarsOk.varsL _ VarsOk.nil (formedL_erase hall.out)
                have HGi := Lib.hid (Tm.In_below (gwr.trans GB.out) Hg.out)
                have hfh : hd.erase.formed = true ∧ bd.erase.formed = true := by rw [HY.out.2.2.2.1, HY.out.2.2.2.2]; exact (HTw.out.c y HY.out.1).2
                have hall2 : Hid (∀ z ∈ ([hd, bd] : List Tm), z.erase.formed = true) := fun z hz => by
                  simp only [List.mem_cons, List.mem_nil_iff, or_false] at hz
                  rcases hz with h | h
                  · rw [h]; exact hfh.1
                  · rw [h]; exact hfh.2
                have HV2 : Hid (VarsOk (T.varsL (Tm.eraseL [hd, bd]) [])) := VarsOk.varsL _ VarsOk.nil (formedL_erase hall2.out)
                clear hfh
                generalize T.varsL (Tm.eraseL [goal]) [] = V at *
                generalize hVV2 : T.varsL (Tm.eraseL [hd, bd]) [] = V2 at *
                have HVV2 := Lib.hid hVV2
                have hv2 := HV2.out.len
                clear hVV2
                refine wp_region_rely_tail 14 [fx (.agg #[.int .i64 goal.k, .int .i64 goal.n, .string goal.s, .slice goal.p goal.l.length goal.c]), fx (.slice pv V.length cv), fx (.pointer (some ⟨wb.heap.size, 0, none⟩)), fx (.agg #[.int .i64 hd.k, .int .i64 hd.n, .string hd.s, .slice hd.p hd.l.length hd.c]), fx (.pointer (some ⟨wb.heap.size, 4, none⟩)), fx (.agg #[.int .i64 bd.k, .int .i64 bd.n, .string bd.s, .slice bd.p bd.l.length bd.c]), slTms [hd, bd], intsV V2, fx (.int .i64 V2.length), tmIs (fun _ => True) (T.map (swapF V2.length V) goal.erase), fx (.pointer (some ⟨wb.heap.size, 0, none⟩)), fx (.agg #[.int .i64 hd.k, .int .i64 hd.n, .string hd.s, .slice hd.p hd.l.length hd.c]), prAg hd (T.map (swapF V2.length V) goal.erase), prOne hd (T.map (swapF V2.length V) goal.erase)]
                  (by kernel_rfl) (by kernel_rfl) (by decide) (by repeat (first | exact Stable.nil | refine Stable.fix ?_ | refine Stable.cons tmIs_stable ?_ | refine Stable.cons slTms_stable ?_ | refine Stable.cons intsV_stable ?_ | refine Stable.cons prAg_stable ?_ | refine Stable.cons prOne_stable ?_)) ?_ ?_
                · refine ⟨?_, ?_, ?_, ?_, ?_, ?_, ?a6, ?a7, ?a8, ?a9, ?_, ?_, ?a12, ?a13, trivial⟩
                  all_goals
                    intro a wz hg hold
                    have h3 : a.tmps[3]?.getD undef = .pointer (some ⟨w.heap.size, 0, none⟩) := hold 3 rfl
                    have h15 : a.tmps[15]?.getD undef = .pointer (some ⟨wb.heap.size, 0, none⟩) := hold 15 rfl
                    have h17 : a.tmps[17]?.getD undef = .slice pv V.length cv := hold 17 rfl
                    have x0 := Gr.at hg q0
                    have x1 := Gr.at hg q1
                    have x2 := Gr.at hg q2
                    have x3 := Gr.at hg q3
                    have y0 := Gr.at hg c0
                    have y1 := Gr.at hg c1
                    have y2 := Gr.at hg c2
                    have y3 := Gr.at hg c3
                    have y4 := Gr.at hg c4
                    have y5 := Gr.at hg c5
                    have y6 := Gr.at hg c6
                    have y7 := Gr.at hg c7
                    have Hgr := Lib.hid hg
                    clear hold q0 q1 q2 q3 c0 c1 c2 c3 c4 c5 c6 c7 hg
                    simp [predsImp, Region.binds, dstAt, fx]
                    intros
                    first
                      | (rw [if_pos (by simp [*])]
                         intro K hK)
                      | (rename_i K hK)
                    go_simp
                  case a6 =>
                    exact hK _ _ ⟨_, _, rfl, two_new (t := hd) (u := bd) (Tm.In_below Hgr.out HI.out.1) (Tm.In_below Hgr.out HI.out.2) (Gr.rfl' _)⟩ (by go_grown)
                  case a7 =>
                    have hp : slTms [hd, bd] (a.tmps[100]?.getD undef) wz := by assumption
                    obtain ⟨p2, c2, e2, hs2⟩ := hp
                    rw [e2]
                    refine (rvars_calls p2 c2 [hd, bd] wz hs2 hall2.out).mono ?_
                    rintro e w10 ⟨p3, c3, rfl, hsl, hg3⟩
                    rw [HVV2.out] at hsl ⊢
                    exact hK _ _ ⟨p3, c3, rfl, hsl⟩ hg3
                  case a8 =>
                    have hp : intsV V2 (a.tmps[101]?.getD undef) wz := by assumption
                    obtain ⟨p2, c2, e2, hs2⟩ := hp
                    rw [e2]
                    go_simp
                    exact hK _ _ rfl (Gr.rfl' _)
                  case a9 =>
                    refine (swap_calls (t := goal) (d := (V2.length : Int)) (V := V) (Tm.In_below Hgr.out HGi.out) Hff.out (HSl.out.mono Hgr.out) HV.out ⟨by omega, by omega⟩).mono ?_
                    rintro e w10 ⟨z, i1, i2, rfl, ib, i3⟩
                    exact hK _ _ ⟨z, rfl, i1, i2, i3.mono fun b hb => trivial⟩ ib
                  case a12 =>
                    have hp : tmIs (fun _ => True) (T.map (swapF V2.length V) goal.erase) (a.tmps[103]?.getD undef) wz := by assumption
                    obtain ⟨r1, e1, i1, j1, o1⟩ := hp
                    rw [e1]
                    simp only [Tm.val]
                    go_simp
                    exact hK _ _ ⟨r1, rfl, i1, j1⟩ (Gr.rfl' _)
                  case a13 =>
                    have hp : prAg hd (T.map (swapF V2.length V) goal.erase) (a.tmps[106]?.getD undef) wz := by assumption
                    obtain ⟨r1, e1, i1, j1⟩ := hp
                    rw [e1]
                    go_simp
                    exact hK _ _ ⟨r1, _, rfl, pr_one i1 (Tm.In_below Hgr.out HI.out.1) (Gr.rfl' _), j1⟩ (by go_grown)
                  all_goals exact hK _ _ rfl (Gr.rfl' _)
                · intro w10 hg
                  rintro _ rfl _ rfl _ rfl _ rfl _ rfl _ rfl _ ⟨_, _, rfl, _⟩ _ ⟨_, _, rfl, _⟩ _ rfl _ ⟨_, rfl, _, _, _⟩ _ rfl _ rfl _ ⟨_, rfl, _, _⟩ _ ⟨b1, p1, rfl, hpr, hbe⟩
                  simp only [finAll, Act.put, List.setIfInBounds_toArray, List.set_cons_succ, List.set_cons_zero, List.drop_succ_cons, List.drop_zero, List.take_zero]
                  have HPr := Lib.hid hpr
                  have HBe := Lib.hid hbe
                  replace GXB := Lib.hid (GXB.out.trans hg)
                  clear hpr hbe hg q0 q1 q2 q3 c0 c1 c2 c3 c4 c5 c6 c7
                  go_upto_region 24 with fail
                  go_wp2_with fail
                  refine (fitsPairs_calls p1 1 [⟨b1, hd⟩] w10 HPr.out).mono ?_
                  rintro e w11 ⟨fb, rfl, _, g11⟩
                  replace GXB := Lib.hid (GXB.out.trans g11)
                  replace HPr := Lib.hid (HPr.out.mono g11)
                  clear g11
                  cases fb with
                  | false =>
                    go_wp2_with fail
                    go_roundg (st.all.length - (k2 + 1))
                    case measure => omega
                    case rel => exact ⟨k2 + 1, by omega, rfl, by go_num, gx.trans GXB.out⟩
                  | true =>
                    go_upto_region 26 with (first
                      | (go_at_call 15; refine (solve_calls p1 1 [⟨b1, hd⟩] w11 HPr.out).mono ?_; intro e w12 hs; obtain ⟨vs, E, rfl, g12, ⟨q9, n9, c9, rfl⟩, hE⟩ := hs.err; have GY := Lib.hid (GXB.out.trans g12); have HE := Lib.hid hE; clear hs g12 hE)
                      | fail)
                    have HEin : Hid (E = 0 → idv ∈ FL) := fun h => by
                      obtain ⟨ρ, hρ⟩ := HE.out h
                      have h1 := hρ (b1.erase, hd.erase) (by simp [seePrs])
                      simp only [HBe.out, HY.out.2.2.2.1] at h1
                      have h2 := HFF.out y ρ _ HY.out.1 HY.out.2.2.1 h1
                      rwa [HY.out.2.1] at h2
                    have HA1 := Lib.hid (Gr.at GY.out HA0.out)
                    go_wp2_with fail
                    go_loopg [21, 22] FL.length (fun m v j wy => ∃ q : Nat, q ≤ FL.length ∧ m = FL.length - q ∧ v = .bool (decide (idv ∈ FL.take q)) ∧ j = .int .i64 q ∧ Gr w12 wy)
                    case atStart => exact ⟨0, Nat.zero_le _, rfl, by simp, rfl, Gr.rfl' _⟩
                    case round =>
                      obtain ⟨q, hq, rfl, rfl, rfl, gy⟩ := hrel
                      by_cases hlt3 : q < FL.length
                      · obtain ⟨fb, fo, rfl, hfbl, hfcell⟩ := HFs.out.ptr (by omega)
                        have f0 := Gr.at (gx.trans (GY.out.trans gy)) (hfcell q FL[q] (List.getElem?_eq_getElem hlt3))
                        have a0 := Gr.at gy HA1.out
                        have Htk := Lib.hid (show FL.take (q + 1) = FL.take q ++ [FL[q]] from List.take_succ_eq_append_getElem hlt3)
                        have HGY := Lib.hid gy
                        clear hfcell gy
                        generalize FL[q] = fv at *
                        cases hd0 : decide (idv ∈ FL.take q) with
                        | true =>
                          have Hd0 := Lib.hid hd0
                          clear hd0
                          go_upto_region 30 with fail
                          go_quiet (fail)
                          go_wp2_with fail
                          go_roundg (FL.length - (q + 1))
                          case measure => omega
                          case rel => exact ⟨q + 1, by omega, rfl, by rw [Htk.out]; have h9 := of_decide_eq_true Hd0.out; simp [h9], by go_num, HGY.out.drewN _⟩
                        | false =>
                          have Hd0 := Lib.hid hd0
                          clear hd0
                          cases hd1 : (fv == idv) with
                          | true =>
                            go_upto_region 30 with fail
                            go_quiet (fail)
                            have Hd1 := Lib.hid hd1
                            go_wp2_with fail
                            go_roundg (FL.length - (q + 1))
                            case measure => omega
                            case rel => exact ⟨q + 1, by omega, rfl, by rw [Htk.out]; have h9 := eq_of_beq Hd1.out; simp [h9], by go_num, HGY.out.drewN _⟩
                          | false =>
                            go_upto_region 30 with fail
                            go_quiet (fail)
                            have Hd1 := Lib.hid hd1
                            go_wp2_with fail
                            go_roundg (FL.length - (q + 1))
                            case measure => omega
                            case rel => exact ⟨q + 1, by omega, rfl, by rw [Htk.out]; have h9 := of_decide_eq_false Hd0.out; have h8 := beq_eq_false_iff_ne.1 Hd1.out; simp [h9, Ne.symm h8], by go_num, HGY.out.drewN _⟩
                      · obtain rfl : q = FL.length := by omega
                        rw [List.take_length]
                        have HGY := Lib.hid (gx.trans (GY.out.trans gy))
                        clear gy
                        by_cases hE0 : E = 0
                        · have h9 : decide (idv ∈ FL) = true := by simp [HEin.out hE0]
                          rw [h9]
                          have hE1 : (E == 0) = true := by simp [hE0]
                          clear hE0 h9
                          go_wp2_with fail
                          go_roundg (st.all.length - (k2 + 1))
                          case measure => omega
                          case rel => exact ⟨k2 + 1, by omega, rfl, by go_num, HGY.out⟩
                        · have hE1 : (E == 0) = false := beq_eq_false_iff_ne.2 hE0
                          clear hE0
                          go_wp2_with fail
                          go_roundg (st.all.length - (k2 + 1))
                          case measure => omega
                          case rel => exact ⟨k2 + 1, by omega, rfl, by go_num, HGY.out⟩
              · obtain rfl : k2 = st.all.length := by omega
                go_wp2_with fail
                exact hR.out _ (gwr.trans (G7.out.trans gx))
end Go.Proofs.YtjdoflfdlhpbmaaGreat
