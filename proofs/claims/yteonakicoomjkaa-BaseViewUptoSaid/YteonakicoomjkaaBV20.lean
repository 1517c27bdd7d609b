/-
  (*base.Base).Look where the base has one clause.
  hornkeep.thereBase
  Two bases side by side: what is done to one leaves the other as it is.
  A base and two views: what is done to the base leaves the views as they are; one view leaves the other.
-/
import Derived.Test.YteonakicoomjkaaBV14
import Derived.Test.YteonakicoomjkaaBV13
import Derived.Test.YteonakicoomjkaaBV04
import Derived.Test.YteonakicoomjkaaBV18
import Derived.Test.YteonakicoomjkaaBV19
namespace Go.Proofs.Yteonakicoomjkaa
open Go.RowKit Go.Maps Go.Lib

def RetLook (w : World) (e : Ending) (w' : World) : Prop := ∃ q c, e = .returned (.tuple #[.slice q 1 c, .int .i64 0]) ∧ Gr w w'

set_option maxHeartbeats 8000000 in
set_option maxRecDepth 100000 in
theorem look_calls (B M1 M2 : Nat) (G : Tm) (t u : T) (w : World) (hB : OneBase w B M1 M2 G.s G.l.length t u) (hG : G.In w) (fG : G.erase.formed = true) (cG : G.erase.callable = true) (aG : G.l = []) (ft : t.formed = true) (fu : u.formed = true) (hs : G.s.size ≤ 1000) :
    Calls Try.prog 91 #[.pointer (some ⟨B, 0, none⟩), G.val] w (RetLook w) := by
  have hR : Hid (∀ (q : Option Addr) (c : Nat) (w' : World), Gr w w' → RetLook w (.returned (.tuple #[.slice q 1 c, .int .i64 0])) w') := fun q c w' h => ⟨q, c, rfl, h⟩
  generalize hQ : RetLook w = Q at hR ⊢
  clear hQ
  have hview := Lib.hid (fun W (hg : Gr w W) => view_calls B M1 M2 G t u W (hB.gr hg) (Tm.In_below hg hG) fG cG aG ft fu hs)
  clear hB hG fG cG aG ft fu hs
  have Hgv := Lib.hid (show G.val = .agg #[.int .i64 G.k, .int .i64 G.n, .string G.s, .slice G.p G.l.length G.c] from rfl)
  rw [Hgv.out]
  go_enter Try.func91, Try.ntmps91
  try simp only [List.append_eq, List.cons_append, List.nil_append]
  go_upto_region 1 with fail
  have hN := Blk4.new w (.int .i64 G.k) (.int .i64 G.n) (.string G.s) (.slice G.p G.l.length G.c)
  have gA : Gr w (w.alloc (.cells #[.int .i64 G.k, .int .i64 G.n, .string G.s, .slice G.p G.l.length G.c] 24)) := by go_grown
  generalize w.alloc (.cells #[.int .i64 G.k, .int .i64 G.n, .string G.s, .slice G.p G.l.length G.c] 24) = wA at *
  have HT := Lib.hid hN
  clear hN
  obtain ⟨⟨t0, t1, t2, t3⟩, _, _⟩ := HT.out.parts
  go_wp2_with (first
    | (go_at_call 34; rewrite [← Hgv.out]; refine (hview.out _ gA).mono ?_; rintro e wB ⟨V, g, cap, G2, h, b, rfl, hone, hcap, hV, hb⟩; have gB := gA.trans hb; have hVw : w.heap.size ≤ V := Nat.le_trans gA.size hV; have HO := Lib.hid hone; clear hone hb t0 t1 t2 t3)
    | fail)
  go_loopg [8] 1 (fun n v wr => ∃ x : Value, x = v ∧ Gr w wr ∧ ((n = 1 ∧ x = .slice none 0 0 ∧ Hid (OneView wr V g cap G2 h b)) ∨ (n = 0 ∧ ∃ q c, x = .slice q 1 c ∧ Hid (∃ q' c' g0 g1 g2 g3, BlkT wr V 150 #[.slice q' 0 c', g0, g1, g2, g3]))))
  case atStart => exact ⟨_, rfl, gB, .inl ⟨rfl, rfl, HO⟩⟩
  case round =>
    obtain ⟨x, rfl, gr, ⟨rfl, rfl, hone⟩ | ⟨rfl, q, c, rfl, hend⟩⟩ := hrel
    · go_wp2_with (first
        | (go_at_call 36; refine (next_first V g cap G2 h b _ hone.out hcap).mono ?_; rintro e wC ⟨h2, b2, rfl, ⟨q', c', g0, g1, g2, g3, hblk⟩, hkp⟩; have gC : Gr w wC := Below.trans gr (hkp.below (B := w.heap.size) (fun x hx => by omega) gr.size); have HE := Lib.hid hblk; rewrite [clVal_four]; clear hblk hkp)
        | (refine wpList_append_one rfl _ _ 50 3 rfl Try.underlying50 infoInt rfl (by decide) w.heap.size (.slice none 0 0) 0 [] _ 1 [.int .i64 1] (by rfl) (by rfl) (World.ownsRow_nil _ _ _ 1) (by have := gC.size; simp; omega) rfl (by
             intro j u hu
             match j, hu with
             | 0, hu => cases hu; go_simp
             | j + 1, hu => simp at hu) (by
             intro u hu
             simp only [List.mem_cons, List.mem_nil_iff, or_false] at hu
             rw [hu]; rfl) (by decide) (by decide) ?_
           intro v' w' h2' h3 h4
           have gl := grownBy_below h3 (Nat.le_refl _) fun k hk => by cases hk
           have gw' : Gr wC w' := below_step gl (by go_grown)
           obtain ⟨q, cq, rfl, _⟩ := row_form h2'
           clear h2' h3 h4 gl)
        | fail)
      go_roundg 0
      case measure => omega
      case rel => exact ⟨_, rfl, gC.trans gw', .inr ⟨rfl, q, cq, rfl, ⟨q', c', g0, g1, g2, g3, HE.out.gr gw'⟩⟩⟩
    · obtain ⟨q', c', g0, g1, g2, g3, hblk⟩ := hend.out
      have HE := Lib.hid hblk
      clear hblk hend
      go_wp2_with (first
        | (go_at_call 36; refine (next_end V q' c' g0 g1 g2 g3 _ HE.out).mono ?_; rintro e wC ⟨rfl, hb⟩; have gC := gr.trans hb; rewrite [clVal_four]; clear hb)
        | fail)
      have gsz := gC.size
      exact hR.out _ _ _ (gC.trans (by go_grown))
end Go.Proofs.Yteonakicoomjkaa

namespace Go.Proofs.Yteonakicoomjkaa
open Go.RowKit Go.Maps Go.Lib

theorem new_base (w : World) : NewBase (((w.alloc (.map #[] 0)).alloc (.map #[] 0)).alloc (.cells #[.int .i64 0, .slice none 0 0, .map (some w.heap.size), .map (some (w.heap.size + 1))] 136)) (w.heap.size + 1 + 1) w.heap.size (w.heap.size + 1) ∧ Gr w (((w.alloc (.map #[] 0)).alloc (.map #[] 0)).alloc (.cells #[.int .i64 0, .slice none 0 0, .map (some w.heap.size), .map (some (w.heap.size + 1))] 136)) := by
  have h1 : GMap 138 kPred (w.alloc (.map #[] 0)) w.heap.size fun _ => none := GMap.made _ _ _
  have h2 : GMap 3 kInt ((w.alloc (.map #[] 0)).alloc (.map #[] 0)) (w.alloc (.map #[] 0)).heap.size fun _ => none := GMap.made _ _ _
  have h3 := BlkT.new ((w.alloc (.map #[] 0)).alloc (.map #[] 0)) 136 #[.int .i64 0, .slice none 0 0, .map (some w.heap.size), .map (some (w.heap.size + 1))]
  rw [World.size_alloc] at h2
  rw [World.size_alloc, World.size_alloc] at h3
  exact ⟨⟨h3, h1.gr (by go_grown), h2.gr (by go_grown), by omega, by omega, by omega⟩, by go_grown⟩

set_option maxHeartbeats 8000000 in
set_option maxRecDepth 100000 in
theorem thereBase_calls (w : World) : Calls Try.prog 28 #[] w (Ret (.bool true) w) := by
  have hR : Hid (∀ b, true = b → ∀ w', Gr w w' → Ret (.bool true) w (.returned (.bool b)) w') := fun b hb w' hg => ⟨by rw [hb], hg⟩
  generalize hQ : Ret (.bool true) w = Q at hR ⊢
  clear hQ
  obtain ⟨hnb, gN⟩ := new_base w
  have HNB := Lib.hid hnb
  clear hnb
  have Hav := Lib.hid (show (atomTm ⟨#[112]⟩).val = .agg #[.int .i64 3, .int .i64 0, .string ⟨#[112]⟩, .slice none 0 0] from rfl)
  have hpe : Hid ((atomTm ⟨#[112]⟩).erase = atomT [112]) := by show _ = _; rw [atomTm_erase, ByteArray.toList_mk]
  have hpf : Hid ((atomT [112]).formed = true) := by show _ = _; exact formed_atom (by decide)
  go_enter Try.func28, Try.ntmps28
  try simp only [List.append_eq, List.cons_append, List.nil_append]
  go_upto_region 2 with (first
    | (go_at_call 31; refine (new_calls w).mono ?_; rintro e w' ⟨rfl, rfl⟩)
    | fail)
  generalize ((w.alloc (.map #[] 0)).alloc (.map #[] 0)).alloc (.cells #[.int .i64 0, .slice none 0 0, .map (some w.heap.size), .map (some (w.heap.size + 1))] 136) = w1 at *
  have hB0 : w.heap.size ≤ w.heap.size + 1 + 1 := by omega
  have hM2 : w.heap.size ≤ w.heap.size + 1 := by omega
  have hM1 : w.heap.size ≤ w.heap.size := Nat.le_refl _
  generalize w.heap.size + 1 + 1 = B at *
  generalize w.heap.size + 1 = M2 at *
  obtain ⟨M1, hM1e⟩ : ∃ M1, M1 = w.heap.size := ⟨_, rfl⟩
  replace HNB : Hid (NewBase w1 B M1 M2) := by rw [hM1e]; exact HNB
  replace hM1 : w.heap.size ≤ M1 := by omega
  clear hM1e
  go_upto_region 3 with (first
    | (go_at_call 67; refine (atomR_calls _ _).mono ?_; rintro e w2 ⟨rfl, hb⟩; have g2 : Gr w1 w2 := hb; clear hb)
    | (go_at_call 29; rewrite [← Hav.out]; refine (Make_calls (atomTm ⟨#[112]⟩) _ (atomTm_in (by decide) _)).mono ?_; rw [hpe.out, makeAns_some hpf.out make_p]; rintro e w3 ⟨hm, bm, rfl, hi, hi2, he, hb⟩; have g3 := g2.trans hb; have Hhm := Lib.hid hi; have Hbm := Lib.hid hi2; have He := Lib.hid he; rewrite [clVal_eq]; clear hi hi2 he hb)
    | fail)
  have he := He.out
  simp only [Prod.mk.injEq] at he
  have Eh := Lib.hid he.1
  have Eb := Lib.hid he.2
  clear he He
  obtain ⟨hms, hml⟩ := atom_parts (t := hm) (s := ⟨#[112]⟩) (by rw [Eh.out, ByteArray.toList_mk])
  have hbl := (atom_parts (t := bm) (s := ⟨#[116, 114, 117, 101]⟩) (by rw [Eb.out, blTrue])).2
  have Hms := Lib.hid hms
  have Hml := Lib.hid hml
  have Hbl := Lib.hid hbl
  clear hms hml hbl
  have Hcv := Lib.hid (clVal_eq hm bm)
  have Hmv := Lib.hid (show hm.val = .agg #[.int .i64 hm.k, .int .i64 hm.n, .string hm.s, .slice hm.p hm.l.length hm.c] from rfl)
  have hN : Blk8 (w3.alloc (.cells #[.int .i64 hm.k, .int .i64 hm.n, .string hm.s, .slice hm.p hm.l.length hm.c, .int .i64 bm.k, .int .i64 bm.n, .string bm.s, .slice bm.p bm.l.length bm.c] 41)) w3.heap.size (.int .i64 hm.k) (.int .i64 hm.n) (.string hm.s) (.slice hm.p hm.l.length hm.c) (.int .i64 bm.k) (.int .i64 bm.n) (.string bm.s) (.slice bm.p bm.l.length bm.c) := heap_alloc_new _ _
  have gA : Gr w3 (w3.alloc (.cells #[.int .i64 hm.k, .int .i64 hm.n, .string hm.s, .slice hm.p hm.l.length hm.c, .int .i64 bm.k, .int .i64 bm.n, .string bm.s, .slice bm.p bm.l.length bm.c] 41)) := by go_grown
  generalize w3.alloc (.cells #[.int .i64 hm.k, .int .i64 hm.n, .string hm.s, .slice hm.p hm.l.length hm.c, .int .i64 bm.k, .int .i64 bm.n, .string bm.s, .slice bm.p bm.l.length bm.c] 41) = w4 at *
  have HC := Lib.hid hN
  have g4 := g3.trans gA
  have hC3 : w1.heap.size ≤ w3.heap.size := g3.size
  generalize w3.heap.size = C at *
  clear hN
  have Hhm4 := Lib.hid (Tm.In_below gA Hhm.out)
  have Hbm4 := Lib.hid (Tm.In_below gA Hbm.out)
  have gw4 := gN.trans g4
  have hBl : B < w1.heap.size := HNB.out.blk.lt
  have hM1l : M1 < w1.heap.size := HNB.out.m1.lt
  have hM2l : M2 < w1.heap.size := HNB.out.m2.lt
  have fh : Hid (hm.erase.formed = true) := by show _ = _; rw [Eh.out]; exact hpf.out
  have fb : Hid (bm.erase.formed = true) := by show _ = _; rw [Eb.out]; exact formed_atom (by decide)
  have HNB4 : Hid (NewBase w4 B M1 M2) := ⟨HNB.out.blk.gr g4, HNB.out.m1.gr g4, HNB.out.m2.gr g4, HNB.out.n1, HNB.out.n2, HNB.out.n3⟩
  have hpl : Hid (plainErr reserved hm.erase bm.erase = 0) := by show _ = _; rw [Eh.out, Eb.out]; exact plainErr_made res_neck hpf.out make_p same_refl
  clear HNB g2 g3 gA Hhm Hbm
  obtain ⟨c0, c1, c2, c3, c4, c5, c6, c7⟩ := HC.out.cells
  go_upto_region 4 with (first
    | (go_at_call 32; rewrite [← Hcv.out]; refine (add_calls B M1 M2 hm bm false _ (fun _ => False) HNB4.out Hhm4.out Hbm4.out (on_nil Hml.out) (on_nil Hbl.out) (fun x h => h.elim) hpl.out fh.out fb.out (tm_small fh.out).1 (tm_small fh.out).2).mono ?_; rintro e w5 ⟨rfl, hone, hkp⟩; have HO := Lib.hid hone; have gw5 : Gr w w5 := Below.trans gw4 (hkp.below (B := w.heap.size) (fun x hx => by omega) gw4.size); replace HC := Lib.hid (HC.out.kp hkp (by omega)); have Hhm5 := Lib.hid (in_after' (S := fun _ => False) Hhm4.out (on_nil Hml.out) (W := w5) fun x h => h.elim); clear hone hkp c0 c1 c2 c3 c4 c5 c6 c7)
    | fail)
  have HO2 : Hid (OneBase w5 B M1 M2 (atomTm ⟨#[112]⟩).s (atomTm ⟨#[112]⟩).l.length hm.erase bm.erase) := by
    have h := HO.out
    rw [Hms.out, Hml.out] at h
    exact h
  have hcal : Hid ((atomTm ⟨#[112]⟩).erase.callable = true) := by show _ = _; rw [hpe.out]; rfl
  have hpf2 : Hid ((atomTm ⟨#[112]⟩).erase.formed = true) := by show _ = _; rw [hpe.out]; exact hpf.out
  go_upto_region 5 with (first
    | (go_at_call 67; refine (atomR_calls _ _).mono ?_; rintro e w6 ⟨rfl, hb⟩; have gw6 := gw5.trans hb; have HO6 := Lib.hid (HO2.out.gr hb); replace HC := Lib.hid (HC.out.gr hb); have Hhm6 := Lib.hid (Tm.In_below hb Hhm5.out); clear hb)
    | (go_at_call 91; rewrite [← Hav.out]; refine (look_calls B M1 M2 (atomTm ⟨#[112]⟩) hm.erase bm.erase _ HO6.out (atomTm_in (by decide) _) hpf2.out hcal.out rfl fh.out fb.out (by decide)).mono ?_; rintro e w7 ⟨q, cq, rfl, hb⟩; have gw7 := gw6.trans hb; replace HC := Lib.hid (HC.out.gr hb); have Hhm7 := Lib.hid (Tm.In_below hb Hhm6.out); clear hb)
    | fail)
  obtain ⟨c0, c1, c2, c3, _⟩ := HC.out.cells
  have hsm : Hid (T.same hm.erase (atomTm ⟨#[112]⟩).erase = true) := by show _ = _; rw [Eh.out, hpe.out]; exact same_refl _
  refine wp_region_rely [fx (.int .i64 0), fx (.bool true), fx (.bool true), fx (.pointer (some ⟨C, 0, none⟩)), fx hm.val, fx (atomTm ⟨#[112]⟩).val, fx (.bool true), fx (.bool true), fx (.bool true), fx (.int .i64 1), fx (.bool true), fx (.bool true), fx (.bool true), fx (.int .i64 0), fx (.bool true), fx (.bool true), fx (.bool true), fx (.int .i64 0), fx (.bool true), fx (.bool true), fx (.bool true), fx (.slice q 1 cq), fx (.int .i64 1), fx (.bool true), fx (.bool true), fx (.bool true)]
    (by kernel_rfl) (by kernel_rfl) (by repeat (first | exact Stable.nil | refine Stable.fix ?_)) ?_ ?_
  · refine ⟨?_, ?_, ?_, ?_, ?_, ?a5, ?a6, ?_, ?_, ?_, ?_, ?_, ?_, ?_, ?_, ?_, ?_, ?_, ?_, ?_, ?_, ?_, ?_, ?_, ?_, ?_, trivial⟩
    all_goals
      intro a wr hg hold
      have h2 : a.tmps[2]?.getD undef = .pointer (some ⟨C, 0, none⟩) := hold 2 rfl
      have h3 : a.tmps[3]?.getD undef = .int .i64 0 := hold 3 rfl
      have h4 : a.tmps[4]?.getD undef = .int .i64 1 := hold 4 rfl
      have h5 : a.tmps[5]?.getD undef = .int .i64 0 := hold 5 rfl
      have h6 : a.tmps[6]?.getD undef = .slice q 1 cq := hold 6 rfl
      have h7 : a.tmps[7]?.getD undef = .int .i64 0 := hold 7 rfl
      clear hold
      have x0 := Gr.at hg c0
      have x1 := Gr.at hg c1
      have x2 := Gr.at hg c2
      have x3 := Gr.at hg c3
      clear c0 c1 c2 c3
      simp [predsImp, Region.binds, dstAt, fx, wantedE, Act.eval]
      intros
      first
        | (rw [if_pos (by simp [*])]
           intro K hK)
        | (rename_i K hK)
      go_simp
    case a5 =>
      refine (atomR_calls _ _).mono ?_
      rintro e w10 ⟨rfl, hg2⟩
      exact hK _ _ rfl hg2
    case a6 =>
      refine (same_calls (t := hm) (u := atomTm ⟨#[112]⟩) (Tm.In_below hg Hhm7.out) (atomTm_in (by decide) _)).mono ?_
      rw [hsm.out]
      rintro e w10 ⟨rfl, hg2⟩
      exact hK _ _ rfl hg2
    all_goals exact hK _ _ rfl (Gr.rfl' _)
  · intro wd hg
    rintro _ rfl _ rfl _ rfl _ rfl _ rfl _ rfl _ rfl _ rfl _ rfl _ rfl _ rfl _ rfl _ rfl _ rfl _ rfl _ rfl _ rfl _ rfl _ rfl _ rfl _ rfl _ rfl _ rfl _ rfl _ rfl _ rfl
    have gD := gw7.trans hg
    simp only [finAll, Act.put, List.setIfInBounds_toArray, List.set_cons_succ, List.set_cons_zero]
    go_wp2_with fail
    exact hR.out _ rfl _ gD
end Go.Proofs.Yteonakicoomjkaa

namespace Go.Proofs.Yteonakicoomjkaa
open Go.RowKit Go.Maps Go.Lib

def newSt : BSt := ⟨0, [], fun _ => none, fun _ => none⟩
theorem BaseG.new {S : Nat → Prop} {w : World} {B M1 M2 : Nat} (h : NewBase w B M1 M2) (hS : ∀ b, S b → ¬ Mut B M1 M2 (.slice none 0 0) b) : BaseG S w B M1 M2 (.slice none 0 0) newSt :=
  ⟨h.blk, World.ownsRow_nil _ _ _ _, ⟨_, h.m1, fun _ => rfl⟩, h.m2, (fun _ _ h => by cases h), (fun _ _ h => by cases h), (fun _ _ h => by cases h), (fun _ _ h => by cases h), by simp [newSt], h.n1, h.n2, h.n3, ⟨by simp [Value.ownBlock], by simp [Value.ownBlock], by simp [Value.ownBlock]⟩, hS⟩

/-- The blocks that neither base writes to. -/
def TwoS (w : World) (B M1 M2 : Nat) (va : Value) (U N1 N2 : Nat) (vu : Value) : Nat → Prop := fun x => x < w.heap.size ∧ ¬ Mut B M1 M2 va x ∧ ¬ Mut U N1 N2 vu x

structure Two (lo : Nat) (w : World) (B M1 M2 : Nat) (va : Value) (st : BSt) (U N1 N2 : Nat) (vu : Value) (su : BSt) : Prop where
  b : BaseG (TwoS w B M1 M2 va U N1 N2 vu) w B M1 M2 va st
  u : BaseG (TwoS w B M1 M2 va U N1 N2 vu) w U N1 N2 vu su
  dis : ∀ x, Mut B M1 M2 va x → ¬ Mut U N1 N2 vu x
  lob : ∀ x, Mut B M1 M2 va x → lo ≤ x
  lou : ∀ x, Mut U N1 N2 vu x → lo ≤ x

section
variable {lo : Nat} {w w' : World} {B M1 M2 : Nat} {va va' : Value} {st st' : BSt} {U N1 N2 : Nat} {vu : Value} {su : BSt}
theorem Two.symm (h : Two lo w B M1 M2 va st U N1 N2 vu su) : Two lo w U N1 N2 vu su B M1 M2 va st :=
  ⟨h.u.mono (fun _ hx _ => ⟨hx.1, hx.2.2, hx.2.1⟩) fun _ hx => hx.2.1, h.b.mono (fun _ hx _ => ⟨hx.1, hx.2.2, hx.2.1⟩) fun _ hx => hx.2.2, fun x h1 h2 => h.dis x h2 h1, h.lou, h.lob⟩
theorem Two.kp {C : Nat → Prop} (h : Two lo w B M1 M2 va st U N1 N2 vu su) (hk : Kp C w w') (hb : ∀ x, Mut B M1 M2 va x → ¬ C x) (hu : ∀ x, Mut U N1 N2 vu x → ¬ C x) (hS : ∀ x, TwoS w B M1 M2 va U N1 N2 vu x → ¬ C x) : Two lo w' B M1 M2 va st U N1 N2 vu su :=
  ⟨(h.b.kp hk hb hS).mono (fun _ hx _ => ⟨Nat.lt_of_lt_of_le hx.1 hk.size, hx.2⟩) fun _ hx => hx.2.1, (h.u.kp hk hu hS).mono (fun _ hx _ => ⟨Nat.lt_of_lt_of_le hx.1 hk.size, hx.2⟩) fun _ hx => hx.2.2, h.dis, h.lob, h.lou⟩
theorem Two.gr (h : Two lo w B M1 M2 va st U N1 N2 vu su) (hg : Gr w w') : Two lo w' B M1 M2 va st U N1 N2 vu su := h.kp (C := fun _ => False) (Kp.of_gr hg) (fun _ _ h => h) (fun _ _ h => h) fun _ _ h => h
theorem Two.step (h : Two lo w B M1 M2 va st U N1 N2 vu su) (hl : lo ≤ w.heap.size) (hB : BaseG (fun x => TwoS w B M1 M2 va U N1 N2 vu x ∨ (w.heap.size ≤ x ∧ va'.ownBlock ≠ some x)) w' B M1 M2 va' st') (hk : Kp (Mut B M1 M2 va) w w')
    (ho : va'.ownBlock = va.ownBlock ∨ ∃ g, va'.ownBlock = some g ∧ w.heap.size ≤ g) : Two lo w' B M1 M2 va' st' U N1 N2 vu su := by
  have hsz := hk.size
  have hlt := h.b.lt
  have hut := h.u.lt
  have hnew : ∀ x, x < w.heap.size → ¬ Mut B M1 M2 va x → ¬ Mut B M1 M2 va' x := fun x hx hn hm => hn (by
    rcases hm with hm | hm | hm | hm
    · exact .inl hm
    · exact .inr (.inl hm)
    · exact .inr (.inr (.inl hm))
    · rcases ho with e | ⟨g, e, hg⟩
      · exact .inr (.inr (.inr (by rw [← e]; exact hm)))
      · rw [e] at hm; cases hm; omega)
  refine ⟨hB.mono (fun x hx hlx => ?_) fun _ hx => hx.2.1, ?_, fun x hm hu => ?_, fun x hm => ?_, h.lou⟩
  · rcases hx with hx | ⟨hx, hx2⟩
    · exact ⟨hlx, hnew x hx.1 hx.2.1, hx.2.2⟩
    · refine ⟨hlx, fun hm => ?_, fun hm => ?_⟩
      · rcases hm with hm | hm | hm | hm
        · have := hlt x (.inl hm); omega
        · have := hlt x (.inr (.inl hm)); omega
        · have := hlt x (.inr (.inr (.inl hm))); omega
        · exact hx2 hm
      · have := hut x hm; omega
  · exact (h.u.kp hk (fun x hx hm => h.dis x hm hx) fun x hx => hx.2.1).mono (fun x hx hlx => ⟨hlx, hnew x hx.1 hx.2.1, hx.2.2⟩) fun _ hx => hx.2.2
  · have hxu := hut x hu
    rcases hm with hm | hm | hm | hm
    · exact h.dis x (.inl hm) hu
    · exact h.dis x (.inr (.inl hm)) hu
    · exact h.dis x (.inr (.inr (.inl hm))) hu
    · rcases ho with e | ⟨g, e, hg⟩
      · exact h.dis x (.inr (.inr (.inr (by rw [← e]; exact hm)))) hu
      · rw [e] at hm; cases hm; omega
  · rcases hm with hm | hm | hm | hm
    · exact h.lob x (.inl hm)
    · exact h.lob x (.inr (.inl hm))
    · exact h.lob x (.inr (.inr (.inl hm)))
    · rcases ho with e | ⟨g, e, hg⟩
      · exact h.lob x (.inr (.inr (.inr (by rw [← e]; exact hm))))
      · rw [e] at hm; cases hm; omega
theorem Two.hS (_ : Two lo w B M1 M2 va st U N1 N2 vu su) : ∀ x, TwoS w B M1 M2 va U N1 N2 vu x → x < w.heap.size := fun _ h => h.1
end

theorem make_cases (t : T) : (∃ h b, makeAns t = ((h, b), 0) ∧ h.formed = true ∧ b.formed = true ∧ plainErr reserved h b = 0) ∨ ∃ E, makeAns t = ((zeroT, zeroT), E) ∧ E ≠ 0 := by
  cases hf : t.formed with
  | false => exact .inr ⟨2, makeAns_bad hf, by decide⟩
  | true =>
    cases hm : T.make reserved t with
    | none => exact .inr ⟨7, makeAns_none hf hm, by decide⟩
    | some x =>
      obtain ⟨h, b⟩ := x
      have hff := make_formed hf hm
      exact .inl ⟨h, b, makeAns_some hf hm, hff.1, hff.2, plainErr_made res_neck hf hm same_refl⟩

theorem added_same {st st' su su' : BSt} {k : ByteArray × Int} {first : Bool} {h b : T} (h1 : Added st k first h b st') (h2 : Added su k first h b su') (hl : st.last = su.last) (hp : ∀ k, su.pr k = st.pr k) : st'.last = su'.last ∧ ∀ k, su'.pr k = st'.pr k := by
  refine ⟨by rw [h1.last, h2.last, hl], fun y => ?_⟩
  by_cases hy : y = k
  · subst hy; rw [h1.here, h2.here, hp, hl]
  · rw [h1.pr y hy, h2.pr y hy, hp]
end Go.Proofs.Yteonakicoomjkaa

namespace Go.Proofs.Yteonakicoomjkaa
open Go.RowKit Go.Maps Go.Lib

def viewCells (p : Option Addr) (n c : Nat) (G : Tm) : Array Value := #[.slice p n c, .int .i64 G.k, .int .i64 G.n, .string G.s, .slice G.p G.l.length G.c]

/-- What is left when the first that is let through is taken. -/
def restOf : Option (HdT × List HdT) → List HdT
  | none => []
  | some x => x.2
/-- The heads go with the goal. -/
def eOk (g : T) (E : List HdT) : Prop := ∀ e ∈ E, g.l = [] ∨ (0 < g.l.length ∧ 0 < e.h.l.length)
theorem restOf_sub (g : T) : ∀ E : List HdT, ∀ e ∈ restOf (nextT g E), e ∈ E
  | [], e, h => by rw [nextT] at h; exact h
  | x :: xs, e, h => by
    rw [nextT] at h
    split at h
    · exact List.mem_cons_of_mem _ h
    · exact List.mem_cons_of_mem _ (restOf_sub g xs e h)
theorem eOk.rest {g : T} {E : List HdT} (h : eOk g E) : eOk g (restOf (nextT g E)) := fun e he => h e (restOf_sub g E e he)
theorem restOf_len (g : T) : ∀ E : List HdT, (restOf (nextT g E)).length ≤ E.length ∧ (∀ x r, nextT g E = some (x, r) → r.length < E.length)
  | [] => ⟨Nat.le_refl _, fun x r h => by rw [nextT] at h; cases h⟩
  | y :: ys => by
    rw [nextT]
    by_cases hy : letsT g y.h = true
    · rw [if_pos hy]
      refine ⟨by simp [restOf], fun x r h => ?_⟩
      cases h
      simp
    · rw [if_neg hy]
      obtain ⟨h1, h2⟩ := restOf_len g ys
      exact ⟨by simp; omega, fun x r h => by have := h2 x r h; simp; omega⟩
theorem eOk.tm {G : Tm} {L : List Hd} (h : eOk G.erase (L.map Hd.er)) : ∀ x ∈ L, G.l = [] ∨ (0 < G.l.length ∧ 0 < x.h.l.length) := by
  intro x hx
  have h1 := h x.er (List.mem_map.2 ⟨x, hx, rfl⟩)
  have h2 : x.er.h.l.length = x.h.l.length := by rw [show x.er.h = x.h.erase from rfl, erase_l, Tm.eraseL_length]
  have h3 : G.erase.l.length = G.l.length := by rw [erase_l, Tm.eraseL_length]
  rcases h1 with h1 | ⟨h1, h4⟩
  · exact .inl (List.eq_nil_of_length_eq_zero (by rw [← h3, h1]; rfl))
  · exact .inr ⟨by omega, by omega⟩
theorem hds_eOk {G : Tm} {E : List HdT} (h : ∀ x ∈ E, (x.h.l.length : Int) = (G.l.length : Int)) : eOk G.erase E := by
  intro e he
  have h1 := h e he
  have h3 : G.erase.l.length = G.l.length := by rw [erase_l, Tm.eraseL_length]
  by_cases h0 : G.l.length = 0
  · exact .inl (List.eq_nil_of_length_eq_zero (by omega))
  · exact .inr ⟨by omega, by omega⟩

/-- A base and two views. -/
structure Ph (lo : Nat) (w : World) (B M1 M2 : Nat) (va : Value) (st : BSt) (V U : Nat) (Sv : Nat → Prop) (p : Option Addr) (c : Nat) (L : List Hd) (G : Tm) (p' : Option Addr) (c' : Nat) (L' : List Hd) (G' : Tm) : Prop where
  b : BaseG (fun x => x < w.heap.size ∧ ¬ Mut B M1 M2 va x ∧ x ≠ V ∧ x ≠ U) w B M1 M2 va st
  v : BlkT w V 150 (viewCells p L.length c G)
  u : BlkT w U 150 (viewCells p' L'.length c' G')
  lv : HSl Sv w p c L
  lu : HSl Sv w p' c' L'
  gv : G.In w ∧ G.On Sv
  gu : G'.In w ∧ G'.On Sv
  sv : ∀ x, Sv x → x < w.heap.size ∧ ¬ Mut B M1 M2 va x ∧ x ≠ V ∧ x ≠ U
  vu : V ≠ U
  vb : ¬ Mut B M1 M2 va V
  ub : ¬ Mut B M1 M2 va U
  lov : lo ≤ V
  lou : lo ≤ U
  lob : ∀ x, Mut B M1 M2 va x → lo ≤ x

section
variable {lo : Nat} {w w' : World} {B M1 M2 : Nat} {va va' : Value} {st st' : BSt} {V U : Nat} {Sv : Nat → Prop} {p p' : Option Addr} {c c' : Nat} {L L' : List Hd} {G G' : Tm}
theorem Ph.symm (h : Ph lo w B M1 M2 va st V U Sv p c L G p' c' L' G') : Ph lo w B M1 M2 va st U V Sv p' c' L' G' p c L G :=
  ⟨h.b.mono (fun _ hx _ => ⟨hx.1, hx.2.1, hx.2.2.2, hx.2.2.1⟩) fun _ hx => hx.2.1, h.u, h.v, h.lu, h.lv, h.gu, h.gv, fun x hx => ⟨(h.sv x hx).1, (h.sv x hx).2.1, (h.sv x hx).2.2.2, (h.sv x hx).2.2.1⟩, Ne.symm h.vu, h.ub, h.vb, h.lou, h.lov, h.lob⟩
theorem tm_kp {t : Tm} {C S : Nat → Prop} (hi : t.In w) (ho : t.On S) (hS : ∀ b, S b → ¬ C b) (hk : Kp C w w') : t.In w' := in_after' hi ho fun b hb hl _ => World.cell?_of_block (hk.block b hl (hS b hb))
theorem Ph.gr (h : Ph lo w B M1 M2 va st V U Sv p c L G p' c' L' G') (hg : Gr w w') : Ph lo w' B M1 M2 va st V U Sv p c L G p' c' L' G' :=
  ⟨(h.b.gr hg).mono (fun _ hx _ => ⟨Nat.lt_of_lt_of_le hx.1 hg.size, hx.2⟩) fun _ hx => hx.2.1, h.v.gr hg, h.u.gr hg, h.lv.gr hg, h.lu.gr hg, ⟨Tm.In_below hg h.gv.1, h.gv.2⟩, ⟨Tm.In_below hg h.gu.1, h.gu.2⟩, fun x hx => ⟨Nat.lt_of_lt_of_le (h.sv x hx).1 hg.size, (h.sv x hx).2⟩, h.vu, h.vb, h.ub, h.lov, h.lou, h.lob⟩
theorem Ph.step (h : Ph lo w B M1 M2 va st V U Sv p c L G p' c' L' G') (hl : lo ≤ w.heap.size) (hB : BaseG (fun x => (x < w.heap.size ∧ ¬ Mut B M1 M2 va x ∧ x ≠ V ∧ x ≠ U) ∨ (w.heap.size ≤ x ∧ va'.ownBlock ≠ some x)) w' B M1 M2 va' st') (hk : Kp (Mut B M1 M2 va) w w')
    (ho : va'.ownBlock = va.ownBlock ∨ ∃ g, va'.ownBlock = some g ∧ w.heap.size ≤ g) : Ph lo w' B M1 M2 va' st' V U Sv p c L G p' c' L' G' := by
  have hsz := hk.size
  have hlt := h.b.lt
  have hV := h.v.lt
  have hU := h.u.lt
  have hnew : ∀ x, x < w.heap.size → ¬ Mut B M1 M2 va x → ¬ Mut B M1 M2 va' x := fun x hx hn hm => hn (by
    rcases hm with hm | hm | hm | hm
    · exact .inl hm
    · exact .inr (.inl hm)
    · exact .inr (.inr (.inl hm))
    · rcases ho with e | ⟨g, e, hg⟩
      · exact .inr (.inr (.inr (by rw [← e]; exact hm)))
      · rw [e] at hm; cases hm; omega)
  have hSv : ∀ x, Sv x → ¬ Mut B M1 M2 va x := fun x hx => (h.sv x hx).2.1
  refine ⟨hB.mono (fun x hx hlx => ?_) fun _ hx => hx.2.1, h.v.kp hk h.vb, h.u.kp hk h.ub, h.lv.kp hk hSv, h.lu.kp hk hSv, ⟨tm_kp h.gv.1 h.gv.2 hSv hk, h.gv.2⟩, ⟨tm_kp h.gu.1 h.gu.2 hSv hk, h.gu.2⟩,
    fun x hx => ⟨Nat.lt_of_lt_of_le (h.sv x hx).1 hsz, hnew x (h.sv x hx).1 (h.sv x hx).2.1, (h.sv x hx).2.2⟩, h.vu, hnew V hV h.vb, hnew U hU h.ub, h.lov, h.lou, fun x hm => ?_⟩
  · rcases hx with hx | ⟨hx, hx2⟩
    · exact ⟨hlx, hnew x hx.1 hx.2.1, hx.2.2⟩
    · refine ⟨hlx, fun hm => ?_, by omega, by omega⟩
      rcases hm with hm | hm | hm | hm
      · have := hlt x (.inl hm); omega
      · have := hlt x (.inr (.inl hm)); omega
      · have := hlt x (.inr (.inr (.inl hm))); omega
      · exact hx2 hm
  · rcases hm with hm | hm | hm | hm
    · exact h.lob x (.inl hm)
    · exact h.lob x (.inr (.inl hm))
    · exact h.lob x (.inr (.inr (.inl hm)))
    · rcases ho with e | ⟨g, e, hg⟩
      · exact h.lob x (.inr (.inr (.inr (by rw [← e]; exact hm))))
      · rw [e] at hm; cases hm; omega
/-- One view tells its next. -/
theorem Ph.next (h : Ph lo w B M1 M2 va st V U Sv p c L G p' c' L' G') {r : Option (HdT × List HdT)} {e : Ending} (hr : RetNext Sv V G r w e w') : ∃ (p1 : Option Addr) (c1 : Nat) (L1 : List Hd), Ph lo w' B M1 M2 va st V U Sv p1 c1 L1 G p' c' L' G' ∧ L1.map Hd.er = restOf r ∧ Kp (fun x => x = V) w w' ∧
    match r with
    | none => e = .returned (.tuple #[.int .i64 0, clVal zeroTm zeroTm, .bool false])
    | some (x, _) => ∃ h b : Tm, e = .returned (.tuple #[.int .i64 x.i, clVal h b, .bool true]) ∧ h.In w' ∧ b.In w' ∧ h.erase = x.h ∧ b.erase = x.b ∧ h.On (w.heap.size ≤ ·) ∧ b.On (w.heap.size ≤ ·) := by
  obtain ⟨L1, p1, c1, hb, hl, hk, hres⟩ := hr
  have hsz := hk.size
  have hC : ∀ x, Sv x → ¬ x = V := fun x hx => (h.sv x hx).2.2.1
  refine ⟨p1, c1, L1, ⟨(h.b.kp hk (fun x hm e => h.vb (e ▸ hm)) fun x hx => hx.2.2.1).mono (fun x hx _ => ⟨Nat.lt_of_lt_of_le hx.1 hsz, hx.2⟩) fun _ hx => hx.2.1, hb, h.u.kp hk (Ne.symm h.vu), hl, h.lu.kp hk hC, ⟨tm_kp h.gv.1 h.gv.2 hC hk, h.gv.2⟩, ⟨tm_kp h.gu.1 h.gu.2 hC hk, h.gu.2⟩,
    fun x hx => ⟨Nat.lt_of_lt_of_le (h.sv x hx).1 hsz, (h.sv x hx).2⟩, h.vu, h.vb, h.ub, h.lov, h.lou, h.lob⟩, ?_, hk, ?_⟩
  · cases r with
    | none => rw [hres.1]; rfl
    | some x => exact hres.1
  · cases r with
    | none => exact hres.2
    | some x => exact hres.2
/-- What is told next, in one. -/
def rI : Option (HdT × List HdT) → Int
  | none => 0
  | some x => x.1.i
def rH : Option (HdT × List HdT) → T
  | none => zeroT
  | some x => x.1.h
def rB : Option (HdT × List HdT) → T
  | none => zeroT
  | some x => x.1.b
theorem Ph.next2 (h : Ph lo w B M1 M2 va st V U Sv p c L G p' c' L' G') {r : Option (HdT × List HdT)} {e : Ending} (hr : RetNext Sv V G r w e w') : ∃ (p1 : Option Addr) (c1 : Nat) (L1 : List Hd), Ph lo w' B M1 M2 va st V U Sv p1 c1 L1 G p' c' L' G' ∧ L1.map Hd.er = restOf r ∧ Kp (fun x => x = V) w w' ∧
    ∃ h b : Tm, e = .returned (.tuple #[.int .i64 (rI r), clVal h b, .bool r.isSome]) ∧ h.In w' ∧ b.In w' ∧ h.erase = rH r ∧ b.erase = rB r ∧ h.On (w.heap.size ≤ ·) ∧ b.On (w.heap.size ≤ ·) := by
  obtain ⟨p1, c1, L1, h1, h2, h3, h4⟩ := h.next hr
  refine ⟨p1, c1, L1, h1, h2, h3, ?_⟩
  cases r with
  | none => exact ⟨zeroTm, zeroTm, h4, zeroTm_in _, zeroTm_in _, zeroTm_erase, zeroTm_erase, zeroTm_onE, zeroTm_onE⟩
  | some x => obtain ⟨y, ys⟩ := x; exact h4

theorem remG_none {S : Nat → Prop} {id : Int} {e : Ending} (hw : st.wh id = none) (h : RetRemG S B M1 M2 va st id w e w') : e = .returned (.int .i64 8) ∧ Gr w w' := by
  unfold RetRemG at h
  rw [hw] at h
  exact h
theorem remG_some {S : Nat → Prop} {id : Int} {e : Ending} {k : ByteArray × Int} (hw : st.wh id = some k) (h : RetRemG S B M1 M2 va st id w e w') : ∃ (va' : Value) (st' : BSt), Removed st id k st' ∧ e = .returned (.int .i64 0) ∧ BaseG (fun x => S x ∨ (w.heap.size ≤ x ∧ va'.ownBlock ≠ some x)) w' B M1 M2 va' st' ∧ Kp (Mut B M1 M2 va) w w' ∧
    (va'.ownBlock = va.ownBlock ∨ ∃ g, va'.ownBlock = some g ∧ w.heap.size ≤ g) := by
  unfold RetRemG at h
  rw [hw] at h
  exact h

/-- Of two bases: the first, and a view of each. -/
theorem Ph.make {U' N1 N2 : Nat} {vu : Value} {su : BSt} {w5 w6 : World} (h : Two lo w B M1 M2 va st U' N1 N2 vu su) (hl : lo ≤ w.heap.size) (g5 : Gr w w5) (g6 : Gr w5 w6)
    (hV : BlkT w5 V 150 (viewCells p L.length c G)) (hL : HSl (TwoS w B M1 M2 va U' N1 N2 vu) w5 p c L) (hG : G.In w5) (oG : G.On (fun x => w.heap.size ≤ x ∧ x ≠ V)) (nV : w.heap.size ≤ V)
    (hU : BlkT w6 U 150 (viewCells p' L'.length c' G')) (hL' : HSl (TwoS w B M1 M2 va U' N1 N2 vu) w6 p' c' L') (hG' : G'.In w6) (oG' : G'.On (fun x => w5.heap.size ≤ x ∧ x ≠ U)) (nU : w5.heap.size ≤ U) :
    Ph lo w6 B M1 M2 va st V U (fun x => x < w6.heap.size ∧ ¬ Mut B M1 M2 va x ∧ x ≠ V ∧ x ≠ U) p c L G p' c' L' G' := by
  have hs5 := g5.size
  have hs6 := g6.size
  have hlt := h.b.lt
  have hVl := hV.lt
  have hUl := hU.lt
  have hnm : ∀ x, w.heap.size ≤ x → ¬ Mut B M1 M2 va x := fun x hx hm => by have := hlt x hm; omega
  have hS : ∀ x, TwoS w B M1 M2 va U' N1 N2 vu x → x < w6.heap.size ∧ ¬ Mut B M1 M2 va x ∧ x ≠ V ∧ x ≠ U := fun x hx => ⟨by have := hx.1; omega, hx.2.1, by have := hx.1; omega, by have := hx.1; omega⟩
  exact ⟨(h.b.gr (g5.trans g6)).mono (fun x hx _ => hS x hx) fun _ hx => hx.2.1, hV.gr g6, hU, (hL.gr g6).mono fun x hx _ => hS x hx, hL'.mono fun x hx _ => hS x hx,
    ⟨Tm.In_below g6 hG, (Tm.On.and oG hG.on).mono fun x hx => ⟨by have := hx.2; omega, hnm x hx.1.1, hx.1.2, by have := hx.2; omega⟩⟩,
    ⟨hG', (Tm.On.and oG' hG'.on).mono fun x hx => ⟨hx.2, hnm x (by have := hx.1.1; omega), by have := hx.1.1; omega, hx.1.2⟩⟩,
    fun _ hx => hx, by omega, hnm V nV, hnm U (by omega), by omega, by omega, h.lob⟩
end
end Go.Proofs.Yteonakicoomjkaa
