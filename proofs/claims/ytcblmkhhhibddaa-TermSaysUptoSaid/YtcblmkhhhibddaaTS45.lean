/-
  hornref.shapes: what it answers.
  The rely rule for a region with guards, some of whose operations turn more than new memory: R is what any operation keeps; J what is known by which operations are over.
-/
import Derived.Test.YtcblmkhhhibddaaTS44
import Derived.Test.YtcblmkhhhibddaaTS17
namespace Go.Proofs.Ytcblmkhhhibddaa
open Go.RowKit Go.Maps Go.Lib

set_option maxHeartbeats 8000000 in
set_option maxRecDepth 100000 in
theorem shapes_other (ak an : Int) (sa : ByteArray) (pa : Option Addr) (ca : Nat) (la : List Tm) (h1 : ak ≠ 1) (ih : ∀ x ∈ la, shpOf x) : shpOf (Tm.mk ak an sa pa ca la) := by
  intro S P l b w ia ib oa ob st sz
  obtain ⟨bk, bn, sb, pb, cb, lb⟩ := b
  have Ia := Lib.hid ia
  have Ib := Lib.hid ib
  have Oa := Lib.hid oa
  have Ob := Lib.hid ob
  have St := Lib.hid st
  have Hih := Lib.hid ih
  have hPl := st.lt
  have Hlow := Lib.hid st.low
  have hsz : l.length + T.szL (Tm.eraseL la) ≤ 1048576 := by rw [Tm.erase, T.sz] at sz; omega
  have Hsz := Lib.hid hsz
  have hno : Hid (¬ (ak = bk ∧ sa.toList = sb.toList ∧ la.length = lb.length) → Tm.shp (Tm.mk ak an sa pa ca la) (Tm.mk bk bn sb pb cb lb) l = (false, l)) := fun h => shp_no (a := (Tm.mk ak an sa pa ca la)) (b := (Tm.mk bk bn sb pb cb lb)) h1 h l
  have hyes : Hid (ak = bk ∧ sa.toList = sb.toList ∧ la.length = lb.length → Tm.shp (Tm.mk ak an sa pa ca la) (Tm.mk bk bn sb pb cb lb) l = Tm.shpL la lb l) := fun h => shp_other (a := (Tm.mk ak an sa pa ca la)) (b := (Tm.mk bk bn sb pb cb lb)) h1 h l
  have hQ0 : Hid (∀ d L w', Tm.shp (Tm.mk ak an sa pa ca la) (Tm.mk bk bn sb pb cb lb) l = (d, L) → SSt S P L w' → Kp (· = P) w w' → RetShp S P (Tm.shp (Tm.mk ak an sa pa ca la) (Tm.mk bk bn sb pb cb lb) l) w (.returned (.bool d)) w') := fun d L w' h2 h3 h4 => ⟨by rw [h2], by rw [h2]; exact h3, h4⟩
  generalize RetShp S P (Tm.shp (Tm.mk ak an sa pa ca la) (Tm.mk bk bn sb pb cb lb) l) w = Q at hQ0 ⊢
  generalize Tm.shp (Tm.mk ak an sa pa ca la) (Tm.mk bk bn sb pb cb lb) l = R at hQ0 hno hyes
  have HQ := hQ0
  have h1' : (ak == 1) = false := by simp [h1]
  rw [show (Tm.mk ak an sa pa ca la).val = .agg #[.int .i64 ak, .int .i64 an, .string sa, .slice pa la.length ca] from rfl, show (Tm.mk bk bn sb pb cb lb).val = .agg #[.int .i64 bk, .int .i64 bn, .string sb, .slice pb lb.length cb] from rfl]
  clear ia ib oa ob st sz hsz hQ0 h1 ih
  go_enter Try.func159, Try.ntmps159
  try simp only [List.append_eq, List.cons_append, List.nil_append]
  go_upto_region 1 with fail
  obtain ⟨h3, h4, gA⟩ := two_blocks w (.int .i64 ak) (.int .i64 an) (.string sa) (.slice pa la.length ca) (.int .i64 bk) (.int .i64 bn) (.string sb) (.slice pb lb.length cb)
  have SA : Hid (((w.alloc (.cells #[.int .i64 ak, .int .i64 an, .string sa, .slice pa la.length ca] 25)).alloc (.cells #[.int .i64 bk, .int .i64 bn, .string sb, .slice pb lb.length cb] 25)).heap.size = w.heap.size + 2) := by show _ = _; simp
  generalize ((w.alloc (.cells #[.int .i64 ak, .int .i64 an, .string sa, .slice pa la.length ca] 25)).alloc (.cells #[.int .i64 bk, .int .i64 bn, .string sb, .slice pb lb.length cb] 25)) = wA at *
  obtain ⟨⟨x0, x1, x2, x3⟩, _, _⟩ := h3.out.parts
  obtain ⟨⟨y0, y1, y2, y3⟩, _, _⟩ := h4.out.parts
  have Hfalse : Hid (R = (false, l) → Q (.returned (.bool false)) wA) := fun h => HQ.out false l wA h (St.out.gr gA) (Kp.of_gr gA)
  by_cases e1 : ak = bk
  case neg =>
    have Hb := Lib.hid (Hfalse.out (hno.out fun h => e1 h.1))
    have q1' : (ak != bk) = true := by simp [e1]
    have q1'' : (ak == bk) = false := by simp [e1]
    clear e1
    go_wp2_with fail
    exact Hb.out
  by_cases e2 : sa.toList = sb.toList
  case neg =>
    have Hb := Lib.hid (Hfalse.out (hno.out fun h => e2 h.2.1))
    have q1' : (ak != bk) = false := by simp [e1]
    have q1'' : (ak == bk) = true := by simp [e1]
    have q2' : (sa.toList != sb.toList) = true := by simp [e2]
    have q2'' : (sa.toList == sb.toList) = false := by simp [e2]
    clear e1 e2
    go_wp2_with fail
    exact Hb.out
  by_cases e3 : la.length = lb.length
  case neg =>
    have Hb := Lib.hid (Hfalse.out (hno.out fun h => e3 h.2.2))
    have q1' : (ak != bk) = false := by simp [e1]
    have q1'' : (ak == bk) = true := by simp [e1]
    have q2' : (sa.toList != sb.toList) = false := by simp [e2]
    have q2'' : (sa.toList == sb.toList) = true := by simp [e2]
    have q3' : ((la.length : Int) != lb.length) = true := by simp; omega
    have q3'' : ((la.length : Int) == lb.length) = false := by simp; omega
    clear e1 e2 e3
    go_wp2_with fail
    exact Hb.out
  have HR := Lib.hid (hyes.out ⟨e1, e2, e3⟩)
  have q1' : (ak != bk) = false := by simp [e1]
  have q1'' : (ak == bk) = true := by simp [e1]
  have q2' : (sa.toList != sb.toList) = false := by simp [e2]
  have q2'' : (sa.toList == sb.toList) = true := by simp [e2]
  have q3' : ((la.length : Int) != lb.length) = false := by simp [e3]
  have q3'' : ((la.length : Int) == lb.length) = true := by simp [e3]
  have E3 := Lib.hid e3
  clear e1 e2 e3 hyes hno Hfalse
  have m3 : ¬ (w.heap.size = P) := by omega
  have m4 : ¬ (w.heap.size + 1 = P) := by omega
  go_wp2_with fail
  go_loopg [9] la.length (fun m i wr => ∃ (k : Nat) (li : List Bd), k ≤ la.length ∧ m = la.length - k ∧ i = .int .i64 k ∧ Hid (SSt S P li wr) ∧ Hid (R = Tm.shpL (la.drop k) (lb.drop k) li) ∧ Hid (li.length + T.szL (Tm.eraseL (la.drop k)) ≤ 1048576) ∧ Kp (· = P) wA wr)
  case atStart => exact ⟨0, l, Nat.zero_le _, rfl, rfl, St.out.gr gA, HR.out, Hsz.out, Kp.refl _ _⟩
  case round =>
    obtain ⟨k, li, hk, rfl, rfl, hs, hr, hz, kr⟩ := hrel
    have kw : Kp (· = P) w wr := (Kp.of_gr gA).trans kr
    replace x0 := Kp.cell kr x0 m3
    replace x1 := Kp.cell kr x1 m3
    replace x2 := Kp.cell kr x2 m3
    replace x3 := Kp.cell kr x3 m3
    replace y0 := Kp.cell kr y0 m4
    replace y1 := Kp.cell kr y1 m4
    replace y2 := Kp.cell kr y2 m4
    replace y3 := Kp.cell kr y3 m4
    by_cases hlt : k < la.length
    · have hlt' : k < lb.length := by have := E3.out; omega
      have hip := Ia.out
      have hit := Ib.out
      have hop := Oa.out
      have hot := Ob.out
      rw [Tm.In] at hip hit
      rw [Tm.On] at hop hot
      obtain ⟨b, o, rfl, hSb⟩ : ∃ b o, pa = some ⟨b, o, none⟩ ∧ S b := by
        rcases hop.1 with h | h
        · rw [h] at hlt; simp at hlt
        · exact h
      obtain ⟨b', o', rfl, hSb'⟩ : ∃ b o, pb = some ⟨b, o, none⟩ ∧ S b := by
        rcases hot.1 with h | h
        · rw [h] at hlt'; simp at hlt'
        · exact h
      have hlc := hip.2.2.2.1
      obtain ⟨hlc2, hlc3⟩ := hip.2.2.2.2.1
      have hlc' := hit.2.2.2.1
      obtain ⟨hlc2', hlc3'⟩ := hit.2.2.2.2.1
      have hr1 : Tm.row w b o la := by
        rcases hip.2.2.2.2.2.1 with h | ⟨b0, o0, he, h⟩
        · rw [h] at hlt; simp at hlt
        · cases he; exact h
      have hr2 : Tm.row w b' o' lb := by
        rcases hit.2.2.2.2.2.1 with h | ⟨b0, o0, he, h⟩
        · rw [h] at hlt'; simp at hlt'
        · cases he; exact h
      have n1 : ¬ (b = P) := by have := Hlow.out b hSb; omega
      have n2 : ¬ (b' = P) := by have := Hlow.out b' hSb'; omega
      have hSP : ∀ c, S c → ¬ (c = P) := fun c hc => by have := Hlow.out c hc; omega
      obtain ⟨c0, c1, c2, c3⟩ := hr1 k _ (List.getElem?_eq_getElem hlt)
      obtain ⟨d0, d1, d2, d3⟩ := hr2 k _ (List.getElem?_eq_getElem hlt')
      replace c0 := kw.cell c0 n1
      replace c1 := kw.cell c1 n1
      replace c2 := kw.cell c2 n1
      replace c3 := kw.cell c3 n1
      replace d0 := kw.cell d0 n2
      replace d1 := kw.cell d1 n2
      replace d2 := kw.cell d2 n2
      replace d3 := kw.cell d3 n2
      have hmem := List.getElem_mem hlt
      have hmem' := List.getElem_mem hlt'
      have Hih2 := Lib.hid (Hih.out _ hmem)
      have Oxa := Lib.hid (Tm.OnL_mem hop.2 _ hmem)
      have Oxb := Lib.hid (Tm.OnL_mem hot.2 _ hmem')
      have Ixa := Lib.hid (kp_in (Tm.InL_mem hip.2.2.2.2.2.2 _ hmem) Oxa.out hSP kw)
      have Ixb := Lib.hid (kp_in (Tm.InL_mem hit.2.2.2.2.2.2 _ hmem') Oxb.out hSP kw)
      have hstep := szL_step la k hlt
      have hrs := hr.out.trans (shpL_step hlt hlt' li)
      have hlen := shp_len la[k] lb[k] li
      have Hfew : Hid (li.length + T.sz la[k].erase ≤ 1048576) := by have := hz.out; show _ ≤ _; omega
      have Hz2 : Hid ((Tm.shp la[k] lb[k] li).2.length + T.szL (Tm.eraseL (la.drop (k + 1))) ≤ 1048576) := by have := hz.out; show _ ≤ _; omega
      have Hcall := Lib.hid (fun (ww : World) (g : Gr wr ww) => Hih2.out S P li lb[k] ww (Tm.In_below g Ixa.out) (Tm.In_below g Ixb.out) Oxa.out Oxb.out (hs.out.gr g) Hfew.out)
      generalize Tm.shp la[k] lb[k] li = r at *
      obtain ⟨d, L⟩ := r
      have Hrs := Lib.hid hrs
      clear hip hit hop hot hr1 hr2 kw hmem hmem' hstep hrs hlen hr hz Hih2 hSP
      generalize la[k] = x at *
      generalize lb[k] = y at *
      have Hcal2 := Lib.hid (fun (ww : World) (g : Gr wr ww) => show Calls Try.prog 159 #[.agg #[.int .i64 x.k, .int .i64 x.n, .string x.s, .slice x.p x.l.length x.c], .agg #[.int .i64 y.k, .int .i64 y.n, .string y.s, .slice y.p y.l.length y.c], .pointer (some ⟨P, 0, none⟩)] ww (RetShp S P (d, L) ww) from Hcall.out ww g)
      clear Hcall
      have hE : (lb.length : Nat) = la.length := E3.out.symm
      rw [hE] at y3
      clear hE
      have hlt2 : k < la.length := hlt
      go_upto_region 11 with fail
      refine wp_region_relyA 13 [fx (.pointer (some ⟨w.heap.size, 3, none⟩)), fx (.slice (some ⟨b, o, none⟩) la.length ca), fx (.int .i64 k), fx (.pointer (some ⟨b, o + k * 4, none⟩)), fx (.agg #[.int .i64 x.k, .int .i64 x.n, .string x.s, .slice x.p x.l.length x.c]), fx (.pointer (some ⟨w.heap.size + 1, 3, none⟩)), fx (.slice (some ⟨b', o', none⟩) la.length cb), fx (.int .i64 k), fx (.pointer (some ⟨b', o' + k * 4, none⟩)), fx (.agg #[.int .i64 y.k, .int .i64 y.n, .string y.s, .slice y.p y.l.length y.c]), fx (.pointer (some ⟨P, 0, none⟩)), fx (.bool d), fx (.bool (!d))]
        (Kp (· = P)) (CallJ wr 74 11 13 72 0 (shpX S P (d, L))) (by kernel_rfl) (by kernel_rfl) (by decide) (by kernel_rfl) (fun _ _ h => Kp.of_gr h) (fun _ _ _ h k => Kp.trans h k) (fun w hw => CallJ.start _ hw rfl) (by repeat (first | exact StableR.nil | refine StableR.fix ?_)) ?_ ?_
      · refine ⟨stepA_plain (fun _ _ h => Kp.of_gr h) (fun listed a w w' v h hg => CallJ.other shpX_gr rfl listed a w w' v h hg) ?_, stepA_plain (fun _ _ h => Kp.of_gr h) (fun listed a w w' v h hg => CallJ.other shpX_gr rfl listed a w w' v h hg) ?_, stepA_plain (fun _ _ h => Kp.of_gr h) (fun listed a w w' v h hg => CallJ.other shpX_gr rfl listed a w w' v h hg) ?_, stepA_plain (fun _ _ h => Kp.of_gr h) (fun listed a w w' v h hg => CallJ.other shpX_gr rfl listed a w w' v h hg) ?_, stepA_plain (fun _ _ h => Kp.of_gr h) (fun listed a w w' v h hg => CallJ.other shpX_gr rfl listed a w w' v h hg) ?_, stepA_plain (fun _ _ h => Kp.of_gr h) (fun listed a w w' v h hg => CallJ.other shpX_gr rfl listed a w w' v h hg) ?_, stepA_plain (fun _ _ h => Kp.of_gr h) (fun listed a w w' v h hg => CallJ.other shpX_gr rfl listed a w w' v h hg) ?_, stepA_plain (fun _ _ h => Kp.of_gr h) (fun listed a w w' v h hg => CallJ.other shpX_gr rfl listed a w w' v h hg) ?_, stepA_plain (fun _ _ h => Kp.of_gr h) (fun listed a w w' v h hg => CallJ.other shpX_gr rfl listed a w w' v h hg) ?_, stepA_plain (fun _ _ h => Kp.of_gr h) (fun listed a w w' v h hg => CallJ.other shpX_gr rfl listed a w w' v h hg) ?_, stepA_plain (fun _ _ h => Kp.of_gr h) (fun listed a w w' v h hg => CallJ.other shpX_gr rfl listed a w w' v h hg) ?_, ?a11, stepA_plain (fun _ _ h => Kp.of_gr h) (fun listed a w w' v h hg => CallJ.other shpX_gr rfl listed a w w' v h hg) ?_, trivial⟩
        case a11 =>
          intro listed fr ww hj2 hl hpre hg hdef hold
          have h2 : fr.tmps[2]?.getD undef = .pointer (some ⟨P, 0, none⟩) := hold 2 rfl
          have h3 : fr.tmps[3]?.getD undef = .pointer (some ⟨w.heap.size, 0, none⟩) := hold 3 rfl
          have h4 : fr.tmps[4]?.getD undef = .pointer (some ⟨w.heap.size + 1, 0, none⟩) := hold 4 rfl
          have h9 : fr.tmps[9]?.getD undef = .int .i64 k := hold 9 rfl
          have zc0 := Kp.cell hg c0 n1
          have zc1 := Kp.cell hg c1 n1
          have zc2 := Kp.cell hg c2 n1
          have zc3 := Kp.cell hg c3 n1
          have zd0 := Kp.cell hg d0 n2
          have zd1 := Kp.cell hg d1 n2
          have zd2 := Kp.cell hg d2 n2
          have zd3 := Kp.cell hg d3 n2
          have zx3 := Kp.cell hg x3 m3
          have zy3 := Kp.cell hg y3 m4
          have Hg := Lib.hid hg
          clear hold x0 x1 x2 x3 y0 y1 y2 y3 c0 c1 c2 c3 d0 d1 d2 d3
          clear hdef
          have gz : Gr wr ww := (hj2.no (getD_tf hl)).1
          simp [predsImp, Region.binds, dstAt, fx]
          intros
          rename_i K hK
          go_simp
          refine (Hcal2.out ww gz).mono ?_
          rintro e w9 ⟨rfl, st2, kp2⟩
          exact hK _ _ rfl kp2 (CallJ.call hj2 hl (by decide) (by decide) kp2.size ⟨rfl, st2⟩)
        all_goals
          intro fr ww hg hold
          have h2 : fr.tmps[2]?.getD undef = .pointer (some ⟨P, 0, none⟩) := hold 2 rfl
          have h3 : fr.tmps[3]?.getD undef = .pointer (some ⟨w.heap.size, 0, none⟩) := hold 3 rfl
          have h4 : fr.tmps[4]?.getD undef = .pointer (some ⟨w.heap.size + 1, 0, none⟩) := hold 4 rfl
          have h9 : fr.tmps[9]?.getD undef = .int .i64 k := hold 9 rfl
          have zc0 := Kp.cell hg c0 n1
          have zc1 := Kp.cell hg c1 n1
          have zc2 := Kp.cell hg c2 n1
          have zc3 := Kp.cell hg c3 n1
          have zd0 := Kp.cell hg d0 n2
          have zd1 := Kp.cell hg d1 n2
          have zd2 := Kp.cell hg d2 n2
          have zd3 := Kp.cell hg d3 n2
          have zx3 := Kp.cell hg x3 m3
          have zy3 := Kp.cell hg y3 m4
          have Hg := Lib.hid hg
          clear hold x0 x1 x2 x3 y0 y1 y2 y3 c0 c1 c2 c3 d0 d1 d2 d3
          simp [predsImp, Region.binds, dstAt, fx]
          intros
          rename_i K hK
          go_simp
        all_goals exact hK _ _ rfl (Gr.rfl' _)
      · intro w9 hg
        rintro _ rfl _ rfl _ rfl _ rfl _ rfl _ rfl _ rfl _ rfl _ rfl _ rfl _ rfl _ rfl _ rfl hcj
        simp only [Act.put, List.setIfInBounds_toArray, List.set_cons_succ, List.set_cons_zero, List.drop_succ_cons, List.drop_zero] at hcj ⊢
        obtain ⟨-, st2⟩ := hcj.yes (by simp)
        have k9 : Kp (· = P) wA w9 := kr.trans hg
        have kw9 : Kp (· = P) w w9 := (Kp.of_gr gA).trans k9
        replace x0 := Kp.cell hg x0 m3
        replace x1 := Kp.cell hg x1 m3
        replace x2 := Kp.cell hg x2 m3
        replace x3 := Kp.cell hg x3 m3
        replace y0 := Kp.cell hg y0 m4
        replace y1 := Kp.cell hg y1 m4
        replace y2 := Kp.cell hg y2 m4
        replace y3 := Kp.cell hg y3 m4
        have St2 := Lib.hid st2
        clear hcj hg c0 c1 c2 c3 d0 d1 d2 d3 st2
        cases d with
        | true =>
          have Hr2 : Hid (R = Tm.shpL (la.drop (k + 1)) (lb.drop (k + 1)) L) := Hrs.out.trans (if_pos rfl)
          go_wp2_with fail
          go_roundg (la.length - (k + 1))
          case measure => omega
          case rel => exact ⟨k + 1, L, by omega, rfl, by go_num, St2, Hr2, Hz2, k9⟩
        | false =>
          have Hb := Lib.hid (HQ.out false L w9 (Hrs.out.trans (if_neg (by simp))) St2.out kw9)
          go_wp2_with fail
          exact Hb.out
    · obtain rfl : k = la.length := by omega
      have Hb := Lib.hid (HQ.out true li wr (hr.out.trans (by rw [List.drop_length, Tm.shpL])) hs.out kw)
      go_wp2_with fail
      exact Hb.out

theorem shapes_any (N : Nat) : ∀ a : Tm, SizeOf.sizeOf a ≤ N → shpOf a := by
  induction N with
  | zero => intro a h; cases a; simp at h
  | succ N ih =>
    intro a hN
    by_cases h1 : a.k = 1
    · exact shapes_var a h1
    · obtain ⟨ak, an, sa, pa, ca, la⟩ := a
      exact shapes_other ak an sa pa ca la h1 fun x hx => ih x (by have := Tm.sizeOf_mem hx ak an sa pa ca; omega)
theorem shapes_calls (a : Tm) : shpOf a := shapes_any _ a (Nat.le_refl _)
end Go.Proofs.Ytcblmkhhhibddaa

namespace Go.Proofs.Ytcblmkhhhibddaa
open Go.RowKit

def StepK (R : World → World → Prop) (J : Array Bool → World → Prop) (P : Program) (ops : List Oper) (Vs : List VP) (a₀ : Act) (w₀ : World) (Q : Exit → Act → World → Prop) (i : Nat) (o : Oper) (V : VP) : Prop :=
  ∀ listed a w, J listed w → listed.getD i true = false → (∀ e ∈ o.after, Region.binds .any e = true → listed.getD e.on false = true) → R w₀ w → a.defers = a₀.defers → (∀ t, (dsts ops).contains t = false → a.tmps[t]?.getD undef = a₀.tmps[t]?.getD undef) →
    predsImp ops Vs a w (match o.guard with
      | none => (∀ K : Act → World → Prop, (∀ v w', V v w' → R w w' → J (listed.setIfInBounds i true) w' → K (a.put o.dst v) w') → o.wp P a w K Q)
      | some _ => if wantedE ops o a then (∀ K : Act → World → Prop, (∀ v w', V v w' → R w w' → J (listed.setIfInBounds i true) w' → K (a.put o.dst v) w') → o.wp P a w K Q) else V undef w ∧ J (listed.setIfInBounds i true) w) o.after.toList

def stepsK (R : World → World → Prop) (J : Array Bool → World → Prop) (P : Program) (ops : List Oper) (Vs : List VP) (a₀ : Act) (w₀ : World) (Q : Exit → Act → World → Prop) : List Oper → List VP → Nat → Prop
  | [], _, _ => True
  | o :: os, V :: Vs', i => StepK R J P ops Vs a₀ w₀ Q i o V ∧ stepsK R J P ops Vs a₀ w₀ Q os Vs' (i + 1)
  | _ :: _, [], _ => False

section
variable {P : Program} {ops : List Oper} {Vs : List VP} {a₀ : Act} {w₀ : World} {Q : Exit → Act → World → Prop} {R : World → World → Prop} {J : Array Bool → World → Prop}

theorem stepsK_at : ∀ {os : List Oper} {Vs' : List VP} {k i : Nat} {o : Oper}, stepsK R J P ops Vs a₀ w₀ Q os Vs' k → os[i]? = some o → StepK R J P ops Vs a₀ w₀ Q (k + i) o (Vs'.getD i (fun _ _ => True))
  | [], _, _, i, o, _, hi => by simp at hi
  | o' :: os, [], _, _, _, h, _ => h.elim
  | o' :: os, V :: Vs', k, 0, o, h, hi => by
    simp only [List.getElem?_cons_zero, Option.some.injEq] at hi
    subst hi
    exact h.1
  | o' :: os, V :: Vs', k, i + 1, o, h, hi => by
    simp only [List.getElem?_cons_succ] at hi
    have := stepsK_at h.2 hi
    rw [show k + 1 + i = k + (i + 1) by omega] at this
    simpa using this

theorem predsImp_imp {a : Act} {w : World} {G G' : Prop} (hG : G → G') : ∀ es : List Edge, predsImp ops Vs a w G es → predsImp ops Vs a w G' es
  | [] => hG
  | e :: es => fun h => by
    simp only [predsImp] at h ⊢
    split at h
    · rename_i hb
      rw [if_pos hb]
      cases hd : dstAt ops e.on with
      | none => simp only [hd] at h ⊢; exact predsImp_imp hG es h
      | some d => simp only [hd] at h ⊢; exact fun v h3 h4 => predsImp_imp hG es (h v h3 h4)
    · rename_i hb
      rw [if_neg hb]
      exact predsImp_imp hG es h

/-- An operation that turns nothing but new memory, and of which J does not speak. -/
theorem stepK_plain {i : Nat} {o : Oper} {V : VP} (hG : ∀ w w', Gr w w' → R w w') (hJ : ∀ listed w w', J listed w → Gr w w' → J (listed.setIfInBounds i true) w')
    (h : ∀ a w, R w₀ w → (∀ t, (dsts ops).contains t = false → a.tmps[t]?.getD undef = a₀.tmps[t]?.getD undef) →
      predsImp ops Vs a w (match o.guard with | none => (∀ K : Act → World → Prop, (∀ v w', V v w' → Gr w w' → K (a.put o.dst v) w') → o.wp P a w K Q) | some _ => if wantedE ops o a then (∀ K : Act → World → Prop, (∀ v w', V v w' → Gr w w' → K (a.put o.dst v) w') → o.wp P a w K Q) else V undef w) o.after.toList) :
    StepK R J P ops Vs a₀ w₀ Q i o V := by
  intro listed a w hj _ _ hr _ hf
  refine predsImp_imp ?_ _ (h a w hr hf)
  cases o.guard with
  | none => exact fun h2 K hK => h2 K fun v w' hv hg => hK v w' hv (hG _ _ hg) (hJ _ _ _ hj hg)
  | some g =>
    simp only
    split
    · exact fun h2 K hK => h2 K fun v w' hv hg => hK v w' hv (hG _ _ hg) (hJ _ _ _ hj hg)
    · exact fun h2 => ⟨h2, hJ _ _ _ hj (Gr.rfl' _)⟩

theorem wpAny_midK (hB : relyB ops a₀.tmps.size = true) (hR0 : ∀ w, R w w) (hRt : ∀ a b c, R a b → R b c → R a c) (hst : StableR R Vs) (hsteps : stepsK R J P ops Vs a₀ w₀ Q ops Vs 0)
    (hfin : ∀ listed a w, MidJ R J ops Vs a₀ w₀ listed a w → (∀ i, i < ops.length → listed.getD i false = true) → Q .normal a w) :
    ∀ (fuel : Nat) (listed : Array Bool) (a : Act) (w : World), listed.count false ≤ fuel → MidJ R J ops Vs a₀ w₀ listed a w → wpAny P .any ops.toArray Q fuel listed a w := by
  intro fuel
  induction fuel with
  | zero =>
    intro listed a w hc hm
    have hr : Region.ready .any ops.toArray listed = [] := by
      rw [List.eq_nil_iff_forall_not_mem]
      intro i hi
      obtain ⟨h0, _⟩ := mem_ready.1 hi
      have := count_set h0
      omega
    exact ⟨hr, hfin _ _ _ hm (all_listed hB hm.sz hr)⟩
  | succ fuel ih =>
    intro listed a w hc hm
    refine ⟨fun hr => hfin _ _ _ hm (all_listed hB hm.sz hr), fun i hi => ?_⟩
    obtain ⟨h0, o, ho, hall⟩ := mem_ready.1 hi
    have ho' : ops[i]? = some o := by simpa using ho
    have hstep := stepsK_at hsteps ho' listed a w hm.st (by rw [Nat.zero_add]; exact h0) (fun e he hb => hall e (by simpa using he) hb) hm.grown hm.defers (fun t ht => by
      have h1 := hm.old t (fun j oj hj hd => by
        have := mem_dsts hj hd
        rw [List.contains_eq_mem, decide_eq_false_iff_not] at ht
        exact absurd this ht)
      simp only [h1])
    rw [Nat.zero_add] at hstep
    have hres := predsImp_elim (fun e he hb d hd => by
      unfold dstAt at hd
      cases hoe : ops[e.on]? with
      | none => simp [hoe] at hd
      | some oe =>
        simp only [hoe, Option.bind_some] at hd
        have := hm.val e.on oe d hoe hd (hall e (by simpa using he) hb)
        rwa [Array.getD_eq_getD_getElem?] at this) hstep
    have hc' := count_set h0
    have hres : if wantedE ops o a then (∀ K : Act → World → Prop, (∀ v w', (Vs.getD i (fun _ _ => True)) v w' → R w w' → J (listed.setIfInBounds i true) w' → K (a.put o.dst v) w') → o.wp P a w K Q) else (Vs.getD i (fun _ _ => True)) undef w ∧ J (listed.setIfInBounds i true) w := by
      cases hgd : o.guard with
      | none =>
        have : wantedE ops o a = true := by simp [wantedE, hgd]
        rw [if_pos this]
        simpa only [hgd] using hres
      | some gw => simpa only [hgd] using hres
    unfold wpOp
    simp only [ho]
    rw [wantedE_eq]
    by_cases hw : wantedE ops o a = true
    · rw [if_pos hw]
      rw [if_pos hw] at hres
      refine .inl (hres _ fun v w' hv hg hj => ?_)
      exact ih _ _ _ (by omega) (mid_stepJ hB hRt hst hm ho' rfl hv hg hj)
    · rw [if_neg hw]
      rw [if_neg hw] at hres
      exact ih _ _ _ (by omega) (mid_stepJ hB hRt hst hm ho' rfl hres.1 (hR0 _) hres.2)

/-- THE RULE. -/
theorem wp_region_relyK {id : Nat} (Vs : List VP) (R : World → World → Prop) (J : Array Bool → World → Prop) (hm : P.follows .mixedOrders = true) (hB : relyB ops a₀.tmps.size = true)
    (hG : ∀ w w', Gr w w' → R w w') (hRt : ∀ a b c, R a b → R b c → R a c) (hJ0 : ∀ w, Gr w₀ w → J (Array.replicate ops.length false) w) (hst : StableR R Vs)
    (hsteps : stepsK R J P ops Vs a₀ w₀ Q ops Vs 0) (hfin : ∀ w, R w₀ w → J (Array.replicate ops.length true) w → finAll (Q .normal) w ops Vs a₀) : (Code.region id ops.toArray true).wp P Q a₀ w₀ := by
  refine wp_region_any hm ?_
  have := wpAny_midK (Q := Q) hB (fun w => hG _ _ (Gr.rfl' w)) hRt hst hsteps (fun listed a w hmid hall => mid_finJ hB hmid hall (hfin w hmid.grown (by
    have e : listed = Array.replicate ops.length true := by
      apply Array.ext
      · rw [Array.size_replicate]; exact hmid.sz
      · intro i h1 h2
        have h3 := hall i (by rw [Array.size_replicate] at h2; exact h2)
        rw [Array.getElem_replicate]
        simpa [h1] using h3
    rw [← e]
    exact hmid.st))) ops.length (Array.replicate ops.length false) a₀ { w₀ with drawn := w₀.drawn + 1 } (by simp) (mid_startJ (fun w h => hG _ _ h) hJ0 _ _)
  simpa using this
end
end Go.Proofs.Ytcblmkhhhibddaa
