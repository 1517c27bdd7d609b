/-
  hornref.unlike: all pairs of parts for which General has a variable.
-/
import Derived.Test.YtcblmkhhhibddaaTS36
import Derived.Test.YtcblmkhhhibddaaTS38
import Derived.Test.YtcblmkhhhibddaaTS17
import Derived.Test.YtcblmkhhhibddaaTS26
namespace Go.Proofs.Ytcblmkhhhibddaa
open Go.RowKit Go.Maps Go.Lib

mutual
def Tm.unlike : Tm → Tm → List Pr
  | .mk k n s p c l, b => if T.alike (Tm.mk k n s p c l).erase b.erase = true then Tm.unlikeL l b.l
    else if k ≠ 1 ∧ T.same (Tm.mk k n s p c l).erase b.erase = true then [] else [⟨.mk k n s p c l, b⟩]
def Tm.unlikeL : List Tm → List Tm → List Pr
  | x :: xs, y :: ys => Tm.unlike x y ++ Tm.unlikeL xs ys
  | _, _ => []
end
theorem unlike_alike {a b : Tm} (h : T.alike a.erase b.erase = true) : Tm.unlike a b = Tm.unlikeL a.l b.l := by
  obtain ⟨k, n, s, p, c, l⟩ := a
  rw [Tm.unlike, if_pos h]
  rfl
theorem unlike_same {a b : Tm} (h : ¬ T.alike a.erase b.erase = true) (h' : a.k ≠ 1 ∧ T.same a.erase b.erase = true) : Tm.unlike a b = [] := by
  obtain ⟨k, n, s, p, c, l⟩ := a
  rw [Tm.unlike, if_neg h]
  exact if_pos h'
theorem unlike_pair {a b : Tm} (h : ¬ T.alike a.erase b.erase = true) (h' : ¬ (a.k ≠ 1 ∧ T.same a.erase b.erase = true)) : Tm.unlike a b = [⟨a, b⟩] := by
  obtain ⟨k, n, s, p, c, l⟩ := a
  rw [Tm.unlike, if_neg h]
  exact if_neg h'
theorem unlikeL_nil (m : List Tm) : Tm.unlikeL [] m = [] := by
  rw [Tm.unlikeL]
  intro _ _ _ _ h; cases h
mutual
theorem unlike_len : ∀ a b : Tm, (Tm.unlike a b).length ≤ T.sz a.erase
  | .mk k n s p c l, b => by
    rw [Tm.unlike, Tm.erase, T.sz]
    split
    · have := unlikeL_len l b.l; omega
    · split
      · simp
      · simp
theorem unlikeL_len : ∀ l m : List Tm, (Tm.unlikeL l m).length ≤ T.szL (Tm.eraseL l)
  | [], m => by rw [Tm.unlikeL]; · simp
                · intro _ _ _ _ h; cases h
  | x :: xs, [] => by rw [Tm.unlikeL]; · simp
                      · intro _ _ _ _ _ h; cases h
  | x :: xs, y :: ys => by
    have h1 := unlike_len x y
    have h2 := unlikeL_len xs ys
    rw [Tm.unlikeL, Tm.eraseL, T.szL, List.length_append]
    omega
end
mutual
theorem unlike_in {w : World} : ∀ a b : Tm, a.In w → b.In w → ∀ y ∈ Tm.unlike a b, y.a.In w ∧ y.b.In w
  | .mk k n s p c l, b, ha, hb, y, hy => by
    rw [Tm.unlike] at hy
    split at hy
    · rw [Tm.In] at ha
      obtain ⟨k', n', s', p', c', l'⟩ := b
      rw [Tm.In] at hb
      exact unlikeL_in l l' ha.2.2.2.2.2.2 hb.2.2.2.2.2.2 y hy
    · split at hy
      · cases hy
      · rw [List.mem_singleton] at hy
        rw [hy]
        exact ⟨ha, hb⟩
theorem unlikeL_in {w : World} : ∀ l m : List Tm, Tm.InL w l → Tm.InL w m → ∀ y ∈ Tm.unlikeL l m, y.a.In w ∧ y.b.In w
  | [], m, _, _, y, hy => by
    rw [Tm.unlikeL] at hy
    · cases hy
    · intro _ _ _ _ h; cases h
  | x :: xs, [], _, _, y, hy => by
    rw [Tm.unlikeL] at hy
    · cases hy
    · intro _ _ _ _ _ h; cases h
  | x :: xs, z :: zs, h, h', y, hy => by
    rw [Tm.unlikeL] at hy
    rw [Tm.InL] at h h'
    rcases List.mem_append.1 hy with hy | hy
    · exact unlike_in x z h.1 h'.1 y hy
    · exact unlikeL_in xs zs h.2 h'.2 y hy
end
theorem unlikeL_snoc : ∀ (l m : List Tm) (x y : Tm), l.length = m.length → Tm.unlikeL (l ++ [x]) (m ++ [y]) = Tm.unlikeL l m ++ Tm.unlike x y
  | [], [], x, y, _ => by
    rw [List.nil_append, List.nil_append, Tm.unlikeL, Tm.unlikeL, List.append_nil]
    · rw [List.nil_append]
    · intro _ _ _ _ h; cases h
  | [], _ :: _, _, _, h => by cases h
  | _ :: _, [], _, _, h => by cases h
  | a :: l, b :: m, x, y, h => by
    rw [List.cons_append, List.cons_append, Tm.unlikeL, Tm.unlikeL, unlikeL_snoc l m x y (Nat.succ.inj h), List.append_assoc]
theorem unlikeL_step (l m : List Tm) (k : Nat) (h : k < l.length) (h' : k < m.length) : Tm.unlikeL (l.take (k + 1)) (m.take (k + 1)) = Tm.unlikeL (l.take k) (m.take k) ++ Tm.unlike l[k] m[k] := by
  rw [List.take_add_one, List.take_add_one, List.getElem?_eq_getElem h, List.getElem?_eq_getElem h']
  exact unlikeL_snoc _ _ _ _ (by rw [List.length_take, List.length_take]; omega)
/-- A slice of such pairs is handed back. -/
def RetPrs (L : List Pr) (w : World) (e : Ending) (w' : World) : Prop := ∃ p c, e = .returned (.slice p L.length c) ∧ (Prs.mk p c L).In w' ∧ Gr w w'
def prsV (L : List Pr) : VP := fun v w => ∃ p c, v = .slice p L.length c ∧ (Prs.mk p c L).In w
theorem prsV_stable {L : List Pr} : ∀ v w w', prsV L v w → Gr w w' → prsV L v w' := fun _ _ _ ⟨p, c, h1, h2⟩ hg => ⟨p, c, h1, h2.mono hg⟩
theorem one_pr {w : World} {B : Nat} {a b : Tm} (h : BlkT w B 33 #[.int .i64 a.k, .int .i64 a.n, .string a.s, .slice a.p a.l.length a.c, .int .i64 b.k, .int .i64 b.n, .string b.s, .slice b.p b.l.length b.c]) (ia : a.In w) (ib : b.In w) : (Prs.mk (some ⟨B, 0, none⟩) 1 [⟨a, b⟩]).In w := by
  refine ⟨Nat.le_refl _, ⟨by simp, by simp⟩, .inr ⟨B, 0, rfl, fun i x hx => ?_⟩, fun y hy => ?_⟩
  · match i, hx with
    | 0, hx =>
      cases hx
      exact ⟨⟨h.cell 0 rfl, h.cell 1 rfl, h.cell 2 rfl, h.cell 3 rfl⟩, h.cell 4 rfl, h.cell 5 rfl, h.cell 6 rfl, h.cell 7 rfl⟩
  · rw [List.mem_singleton] at hy
    rw [hy]; exact ⟨ia, ib⟩
def unlikeOf (a : Tm) : Prop := ∀ (b : Tm) (w : World), a.In w → b.In w → T.sz a.erase ≤ 1048576 → Calls Try.prog 156 #[a.val, b.val] w (RetPrs (Tm.unlike a b) w)

set_option maxHeartbeats 4000000 in
set_option maxRecDepth 100000 in
theorem unlike_step (a : Tm) (ih : ∀ x ∈ a.l, unlikeOf x) : unlikeOf a := by
  intro b w ia ib sa
  have Ia := Lib.hid ia
  have Ib := Lib.hid ib
  have Hih := Lib.hid ih
  have hsz : T.szL (Tm.eraseL a.l) ≤ 1048576 := by
    obtain ⟨k, n, s, p, c, l⟩ := a
    rw [Tm.erase, T.sz] at sa
    exact (by omega : T.szL (Tm.eraseL l) ≤ 1048576)
  have Hsz := Lib.hid hsz
  have Hsame := Lib.hid (fun (w' : World) (g : Gr w w') => show Calls Try.prog 26 #[.agg #[.int .i64 a.k, .int .i64 a.n, .string a.s, .slice a.p a.l.length a.c], .agg #[.int .i64 b.k, .int .i64 b.n, .string b.s, .slice b.p b.l.length b.c]] w' _ from same_calls (t := a) (u := b) (Tm.In_below g ia) (Tm.In_below g ib))
  have hR : Hid (∀ (p : Option Addr) (c n : Nat) w', n = (Tm.unlike a b).length → (Prs.mk p c (Tm.unlike a b)).In w' → Gr w w' → RetPrs (Tm.unlike a b) w (.returned (.slice p n c)) w') := fun p c n w' h1 h2 h3 => ⟨p, c, by rw [h1], h2, h3⟩
  generalize RetPrs (Tm.unlike a b) w = Q at hR ⊢
  have hcase : (a.k = 4 ∧ b.k = 4 ∧ a.s.toList = b.s.toList ∧ a.l.length = b.l.length) ∨ ¬ (a.k = 4 ∧ b.k = 4 ∧ a.s.toList = b.s.toList ∧ a.l.length = b.l.length) := Classical.em _
  have halk : T.alike a.erase b.erase = true ↔ (a.k = 4 ∧ b.k = 4 ∧ a.s.toList = b.s.toList ∧ a.l.length = b.l.length) := by
    obtain ⟨e1, e2, e3, e4⟩ := erase_parts a
    obtain ⟨f1, f2, f3, f4⟩ := erase_parts b
    rw [T.alike, e1, f1, e3, f3, e4, f4]
    simp
  have Halk := Lib.hid halk
  clear ia ib ih sa hsz halk
  rw [show a.val = .agg #[.int .i64 a.k, .int .i64 a.n, .string a.s, .slice a.p a.l.length a.c] from rfl, show b.val = .agg #[.int .i64 b.k, .int .i64 b.n, .string b.s, .slice b.p b.l.length b.c] from rfl]
  go_enter Try.func156, Try.ntmps156
  try simp only [List.append_eq, List.cons_append, List.nil_append]
  go_upto_region 1 with fail
  obtain ⟨h3, h4, gA⟩ := two_blocks w (.int .i64 a.k) (.int .i64 a.n) (.string a.s) (.slice a.p a.l.length a.c) (.int .i64 b.k) (.int .i64 b.n) (.string b.s) (.slice b.p b.l.length b.c)
  have sA : ((w.alloc (.cells #[.int .i64 a.k, .int .i64 a.n, .string a.s, .slice a.p a.l.length a.c] 25)).alloc (.cells #[.int .i64 b.k, .int .i64 b.n, .string b.s, .slice b.p b.l.length b.c] 25)).heap.size = w.heap.size + 2 := by simp
  generalize ((w.alloc (.cells #[.int .i64 a.k, .int .i64 a.n, .string a.s, .slice a.p a.l.length a.c] 25)).alloc (.cells #[.int .i64 b.k, .int .i64 b.n, .string b.s, .slice b.p b.l.length b.c] 25)) = wA at *
  have SA := Lib.hid sA
  clear sA
  obtain ⟨⟨x0, x1, x2, x3⟩, _, _⟩ := h3.out.parts
  obtain ⟨⟨y0, y1, y2, y3⟩, _, _⟩ := h4.out.parts
  rcases hcase with hc | hc
  · have hg1 : (a.k == 4) = true := by simp [hc.1]
    have hg2 : (b.k == 4) = true := by simp [hc.2.1]
    have hg3 : (a.s.toList == b.s.toList) = true := by simp [hc.2.2.1]
    have hg4 : ((a.l.length : Int) == b.l.length) = true := by simp [hc.2.2.2]
    have E4 : Hid (b.l.length = a.l.length) := hc.2.2.2.symm
    have Hun := Lib.hid (unlike_alike (Halk.out.2 hc))
    clear hc
    obtain ⟨ak, an, as', pa, ca, la⟩ := a
    obtain ⟨bk, bn, bs', pb, cb, lb⟩ := b
    simp only [Tm.k, Tm.n, Tm.s, Tm.p, Tm.c, Tm.l] at *
    have hla := Ia.out.sl.1
    have hlb := Ia.out.sl.2.1
    rw [Hun.out] at hR
    clear Hun Hsame Halk
    go_wp2_with fail
    clear x0 x1 x2 x3 y0 y1 y2 y3 hg1 hg2 hg3 hg4
    go_loopg [5, 6] la.length (fun m v0 i wr => ∃ (k : Nat) (v : Value), v = v0 ∧ k ≤ la.length ∧ m = la.length - k ∧ i = .int .i64 k ∧ Hid (BuiltPrs wr wA.heap.size v (Tm.unlikeL (la.take k) (lb.take k))) ∧ Gr wA wr)
    case atStart => exact ⟨0, _, rfl, Nat.zero_le _, rfl, rfl, (by rw [List.take_zero, unlikeL_nil]; exact World.ownsRow_nil _ _ _ 8), Gr.rfl' _⟩
    case round =>
      obtain ⟨k, v, rfl, hk, rfl, rfl, hrow, gr⟩ := hrel
      have gwr : Gr w wr := gA.trans gr
      obtain ⟨⟨x0, x1, x2, x3⟩, _, _⟩ := (h3.out.gr gr).parts
      obtain ⟨⟨y0, y1, y2, y3⟩, _, _⟩ := (h4.out.gr gr).parts
      by_cases hlt : k < la.length
      · have hlt' : k < lb.length := by have := E4.out; omega
        obtain ⟨b1, o1, rfl⟩ := Ia.out.sl.ptr (by omega)
        obtain ⟨b2, o2, rfl⟩ := Ib.out.sl.ptr (by omega)
        obtain ⟨⟨c0, c1, c2, c3⟩, hxa, _⟩ := (Ia.out.sl.mono gwr).elem k hlt
        obtain ⟨⟨d0, d1, d2, d3⟩, hxb, _⟩ := (Ib.out.sl.mono gwr).elem k hlt'
        have hszx : T.sz la[k].erase ≤ 1048576 := by have := sz_mem2 (List.getElem_mem hlt); have := Hsz.out; omega
        have Hc := Lib.hid (fun (w' : World) (g : Gr wr w') => Hih.out _ (List.getElem_mem hlt) lb[k] w' (Tm.In_below g hxa) (Tm.In_below g hxb) hszx)
        have Hst := Lib.hid (unlikeL_step la lb k hlt hlt')
        have hL1 : (Tm.unlikeL (la.take k) (lb.take k)).length ≤ 1048576 := by
          have h1 := unlikeL_len (la.take k) (lb.take k)
          have h2 := szL_takeM la k
          have := Hsz.out
          omega
        have hL2 : (Tm.unlike la[k] lb[k]).length ≤ 1048576 := Nat.le_trans (unlike_len _ _) hszx
        clear hxa hxb hszx
        rw [E4.out] at y3
        generalize la[k] = x at *
        generalize lb[k] = y at *
        rw [show x.val = .agg #[.int .i64 x.k, .int .i64 x.n, .string x.s, .slice x.p x.l.length x.c] from rfl, show y.val = .agg #[.int .i64 y.k, .int .i64 y.n, .string y.s, .slice y.p y.l.length y.c] from rfl] at Hc
        go_upto_region 6 with fail
        refine wp_region_rely_tail 12 [fx v, fx (.pointer (some ⟨w.heap.size, 3, none⟩)), fx (.slice (some ⟨b1, o1, none⟩) la.length ca), fx (.int .i64 k), fx (.pointer (some ⟨b1, o1 + k * 4, none⟩)), fx (.agg #[.int .i64 x.k, .int .i64 x.n, .string x.s, .slice x.p x.l.length x.c]), fx (.pointer (some ⟨w.heap.size + 1, 3, none⟩)), fx (.slice (some ⟨b2, o2, none⟩) la.length cb), fx (.int .i64 k), fx (.pointer (some ⟨b2, o2 + k * 4, none⟩)), fx (.agg #[.int .i64 y.k, .int .i64 y.n, .string y.s, .slice y.p y.l.length y.c]), prsV (Tm.unlike x y)]
          (by kernel_rfl) (by kernel_rfl) (by decide) (by repeat (first | exact Stable.nil | refine Stable.fix ?_ | refine Stable.cons prsV_stable ?_)) ?_ ?_
        · refine ⟨?_, ?_, ?_, ?_, ?_, ?_, ?_, ?_, ?_, ?_, ?_, ?a11, trivial⟩
          case a11 =>
            intro fr wz hg hold
            have h2' : fr.tmps[2]?.getD undef = .pointer (some ⟨w.heap.size, 0, none⟩) := hold 2 rfl
            have h3' : fr.tmps[3]?.getD undef = .pointer (some ⟨w.heap.size + 1, 0, none⟩) := hold 3 rfl
            have h5' : fr.tmps[5]?.getD undef = v := hold 5 rfl
            have h6' : fr.tmps[6]?.getD undef = .int .i64 k := hold 6 rfl
            have zc0 := Gr.at hg c0
            have zc1 := Gr.at hg c1
            have zc2 := Gr.at hg c2
            have zc3 := Gr.at hg c3
            have zd0 := Gr.at hg d0
            have zd1 := Gr.at hg d1
            have zd2 := Gr.at hg d2
            have zd3 := Gr.at hg d3
            have zx3 := Gr.at hg x3
            have zy3 := Gr.at hg y3
            have Hg := Lib.hid hg
            clear hold c0 c1 c2 c3 d0 d1 d2 d3 x3 y3
            have Hcc := Lib.hid (Hc.out wz Hg.out)
            simp [predsImp, Region.binds, dstAt, fx]
            intros
            rename_i K hK
            go_simp
            refine Hcc.out.mono ?_
            rintro e w9 ⟨p9, c9, rfl, i9, g9⟩
            exact hK _ _ ⟨p9, c9, rfl, i9⟩ g9
          all_goals
            intro fr wz hg hold
            have h2' : fr.tmps[2]?.getD undef = .pointer (some ⟨w.heap.size, 0, none⟩) := hold 2 rfl
            have h3' : fr.tmps[3]?.getD undef = .pointer (some ⟨w.heap.size + 1, 0, none⟩) := hold 3 rfl
            have h5' : fr.tmps[5]?.getD undef = v := hold 5 rfl
            have h6' : fr.tmps[6]?.getD undef = .int .i64 k := hold 6 rfl
            have zc0 := Gr.at hg c0
            have zc1 := Gr.at hg c1
            have zc2 := Gr.at hg c2
            have zc3 := Gr.at hg c3
            have zd0 := Gr.at hg d0
            have zd1 := Gr.at hg d1
            have zd2 := Gr.at hg d2
            have zd3 := Gr.at hg d3
            have zx3 := Gr.at hg x3
            have zy3 := Gr.at hg y3
            have Hg := Lib.hid hg
            clear hold c0 c1 c2 c3 d0 d1 d2 d3 x3 y3
            simp [predsImp, Region.binds, dstAt, fx]
            intros
            first
              | (rw [if_pos (by simp [*])]
                 intro K hK)
              | (rename_i K hK)
            go_simp
          all_goals exact hK _ _ rfl (Gr.rfl' _)
        · intro w9 hg
          rintro v rfl _ rfl _ rfl _ rfl _ rfl _ rfl _ rfl _ rfl _ rfl _ rfl _ rfl _ ⟨p9, c9, rfl, hprs⟩
          simp only [finAll, Act.put, List.setIfInBounds_toArray, List.set_cons_succ, List.set_cons_zero, List.drop_succ_cons, List.drop_zero, List.take_zero]
          clear x0 x1 x2 x3 y0 y1 y2 y3 c0 c1 c2 c3 d0 d1 d2 d3
          have gA9 : Gr wA w9 := gr.trans hg
          obtain ⟨v', w', hr, r1, r2, r3⟩ := append_prs w9 wA.heap.size v _ p9 c9 (Tm.unlike x y) hprs (hrow.out.gr hg) gA9.size (by omega)
          have Hr := Lib.hid hr
          have Hr1 := Lib.hid r1
          have gw' : Gr wA w' := Below.trans gA9 (grownBy_below r2 gA9.size fun b hb => hrow.out.ge hb)
          clear hr r1 r2 r3 hprs
          refine wpList_append_run w9 rfl _ _ _ _ rfl _ _ (by rfl) (by rfl) _ _ Hr.out ?_
          go_wp2_with fail
          go_roundg (la.length - (k + 1))
          case measure => omega
          case rel => exact ⟨k + 1, v', rfl, by omega, rfl, by go_num, by rw [Hst.out]; exact Hr1.out, gw'⟩
      · obtain rfl : k = la.length := by omega
        have hro := hrow.out
        rw [List.take_length, List.take_of_length_le (by rw [E4.out]; exact Nat.le_refl _)] at hro
        obtain ⟨p9, c9, rfl, hprs⟩ := hro.prs (by have h1 := unlikeL_len la lb; have := Hsz.out; omega) (unlikeL_in la lb (by have h := Tm.In_below gwr Ia.out; rw [Tm.In] at h; exact h.2.2.2.2.2.2) (by have h := Tm.In_below gwr Ib.out; rw [Tm.In] at h; exact h.2.2.2.2.2.2))
        have Hb := Lib.hid (hR.out p9 c9 _ wr rfl hprs gwr)
        clear hro hprs hrow x0 x1 x2
        go_wp2_with fail
        exact Hb.out
  · have Hna := Lib.hid (fun h => hc (Halk.out.1 h) : ¬ T.alike a.erase b.erase = true)
    clear Hih Halk
    have Hc := Lib.hid hc
    clear hc
    go_cut [30] from 7 to 30 (fun v wx => v = .bool false ∧ wA = wx)
    case first =>
      by_cases g1 : a.k = 4
      · have g1' : (a.k == 4) = true := by simp [g1]
        by_cases g2 : b.k = 4
        · have g2' : (b.k == 4) = true := by simp [g2]
          by_cases g3 : a.s.toList = b.s.toList
          · have g3' : (a.s.toList == b.s.toList) = true := by simp [g3]
            have g4' : ((a.l.length : Int) == b.l.length) = false := by
              have := Hc.out
              simp only [g1, g2, g3, true_and] at this
              simp
              omega
            clear g1 g2 g3
            go_wp2_with fail
            go_meet
            exact ⟨rfl, rfl⟩
          · have g3' : (a.s.toList == b.s.toList) = false := by simp [g3]
            clear g1 g2 g3
            go_wp2_with fail
            go_meet
            exact ⟨rfl, rfl⟩
        · have g2' : (b.k == 4) = false := by simp [g2]
          clear g1 g2
          go_wp2_with fail
          go_meet
          exact ⟨rfl, rfl⟩
      · have g1' : (a.k == 4) = false := by simp [g1]
        clear g1
        go_wp2_with fail
        go_meet
        exact ⟨rfl, rfl⟩
    obtain ⟨rfl, rfl⟩ := hcut
    go_upto_region 8 with fail
    by_cases g1 : a.k = 1
    · have g1' : (a.k != 1) = false := by simp [g1]
      have Hun := Lib.hid (unlike_pair Hna.out (fun h => h.1 g1))
      clear g1
      have Hb := Lib.hid (fun (w' : World) (g : wA.alloc (.cells #[.int .i64 a.k, .int .i64 a.n, .string a.s, .slice a.p a.l.length a.c, .int .i64 b.k, .int .i64 b.n, .string b.s, .slice b.p b.l.length b.c] 33) = w') => hR.out (some ⟨wA.heap.size, 0, none⟩) 1 1 w' (by rw [Hun.out]; rfl) (by
        have hbk := BlkT.new wA 33 #[.int .i64 a.k, .int .i64 a.n, .string a.s, .slice a.p a.l.length a.c, .int .i64 b.k, .int .i64 b.n, .string b.s, .slice b.p b.l.length b.c]
        rw [g] at hbk
        have hgw : Gr w w' := gA.trans (by rw [← g]; go_grown)
        rw [Hun.out]
        exact one_pr hbk (Tm.In_below hgw Ia.out) (Tm.In_below hgw Ib.out)) (gA.trans (by rw [← g]; go_grown)))
      go_wp2_with fail
      exact Hb.out _ rfl
    · have g1' : (a.k != 1) = true := by simp [g1]
      have Hs2 := Lib.hid (Hsame.out wA gA)
      cases hsm : T.same a.erase b.erase with
      | true =>
        have Hun := Lib.hid (unlike_same Hna.out ⟨g1, hsm⟩)
        rw [hsm] at Hs2
        clear g1 hsm Hsame
        go_wp2_with fail
        refine Hs2.out.mono ?_
        rintro e w5 ⟨rfl, g5⟩
        replace g5 : Gr wA w5 := g5
        have Hb := Lib.hid (hR.out none 0 0 w5 (by rw [Hun.out]; rfl) (by rw [Hun.out]; exact ⟨Nat.le_refl _, ⟨by simp, by simp⟩, .inl rfl, (fun y hy => nomatch hy)⟩) (gA.trans g5))
        clear x0 x1 x2 x3 y0 y1 y2 y3
        go_wp2_with fail
        exact Hb.out
      | false =>
        have Hun := Lib.hid (unlike_pair Hna.out (fun h => by rw [h.2] at hsm; cases hsm))
        rw [hsm] at Hs2
        clear g1 hsm Hsame
        go_wp2_with fail
        refine Hs2.out.mono ?_
        rintro e w5 ⟨rfl, g5⟩
        replace g5 : Gr wA w5 := g5
        replace x0 := Gr.at g5 x0
        replace x1 := Gr.at g5 x1
        replace x2 := Gr.at g5 x2
        replace x3 := Gr.at g5 x3
        replace y0 := Gr.at g5 y0
        replace y1 := Gr.at g5 y1
        replace y2 := Gr.at g5 y2
        replace y3 := Gr.at g5 y3
        have Hb := Lib.hid (fun (w' : World) (g : w5.alloc (.cells #[.int .i64 a.k, .int .i64 a.n, .string a.s, .slice a.p a.l.length a.c, .int .i64 b.k, .int .i64 b.n, .string b.s, .slice b.p b.l.length b.c] 33) = w') => hR.out (some ⟨w5.heap.size, 0, none⟩) 1 1 w' (by rw [Hun.out]; rfl) (by
          have hbk := BlkT.new w5 33 #[.int .i64 a.k, .int .i64 a.n, .string a.s, .slice a.p a.l.length a.c, .int .i64 b.k, .int .i64 b.n, .string b.s, .slice b.p b.l.length b.c]
          rw [g] at hbk
          have hgw : Gr w w' := (gA.trans g5).trans (by rw [← g]; go_grown)
          rw [Hun.out]
          exact one_pr hbk (Tm.In_below hgw Ia.out) (Tm.In_below hgw Ib.out)) ((gA.trans g5).trans (by rw [← g]; go_grown)))
        go_wp2_with fail
        exact Hb.out _ rfl
theorem unlike_any (N : Nat) : ∀ a : Tm, SizeOf.sizeOf a ≤ N → unlikeOf a := by
  induction N with
  | zero => intro a h; cases a; simp at h
  | succ N ih =>
    intro a hN
    refine unlike_step a fun x hx => ih x ?_
    obtain ⟨k, n, s, p, c, l⟩ := a
    have := Tm.sizeOf_mem (show x ∈ l from hx) k n s p c
    omega
theorem unlike_calls {a b : Tm} {w : World} (ia : a.In w) (ib : b.In w) (sa : T.sz a.erase ≤ 1048576) : Calls Try.prog 156 #[a.val, b.val] w (RetPrs (Tm.unlike a b) w) := unlike_any _ a (Nat.le_refl _) b w ia ib sa
end Go.Proofs.Ytcblmkhhhibddaa
