/-
  term.Variables: the variables of terms in their order.
  hornref.Has, hornref.vars, hornref.Vars
-/
import Derived.Test.YtcblmkhhhibddaaTS11
import Derived.Test.YtcblmkhhhibddaaTS09
namespace Go.Proofs.Ytcblmkhhhibddaa
open Go.RowKit Go.Shelf Go.Maps

attribute [local go_sem] Oper.semAt_some

theorem zero_int' (w : World) : (zeroValue 3).run Try.prog w = .ok (.int .i64 0) w := by kernel_rfl

set_option maxHeartbeats 4000000 in
set_option maxRecDepth 100000 in
theorem variables_calls (p : Option Addr) (c : Nat) (l : List Tm) (w : World) (h : Tm.Sl w p c l) (hf : ∀ x ∈ l, x.erase.fmd = true) :
    Calls Try.prog 110 #[.slice p l.length c] w fun e w' => ∃ v, e = .returned v ∧ IntsOwn w' w.heap.size v (T.varsL (Tm.eraseL l) []) ∧ Gr w w' := by
  have hlc : l.length ≤ c := h.1
  have hl64 : l.length * 56 ≤ 140737488351232 := h.2.1.1
  have hc64 : c ≤ 9223372036854775807 := h.2.1.2
  have HIn := Lib.hid h.2.2.2
  have HSl := Lib.hid h
  have HF := Lib.hid hf
  clear h hf
  obtain ⟨i0, hi, hz0, hz1, hz2⟩ := info_parts infoI64
  have Hi := Lib.hid hi
  clear hi
  have hmm := @run_makeMap Try.prog
  refine (callsIn_wide (n := 9)).1 ?_
  refine callsIn_of_wp_marks Try.func110 rfl trivial ?_ rfl
  simp only [Try.ntmps110, List.size_toArray, List.length_cons, List.length_nil, Nat.reduceAdd, Nat.reduceSub, Array.replicate_succ, Array.replicate_zero, List.push_toArray, List.append_toArray, List.nil_append, List.cons_append]
  gi_wp2
  have hst0 : VSt w.heap.size (w.heap.size + 1 + 1) (w.heap.size + 1) w.heap.size [] (((w.alloc (.map #[] 0)).alloc (.cells #[.map (some w.heap.size)] 192)).alloc (.cells #[.slice none 0 0] 42)) := by
    have e1 := heap_alloc_new ((w.alloc (.map #[] 0)).alloc (.cells #[.map (some w.heap.size)] 192)) (.cells #[.slice none 0 0] 42)
    have e2 := heap_alloc_new (w.alloc (.map #[] 0)) (.cells #[.map (some w.heap.size)] 192)
    simp only [World.size_alloc] at e1 e2
    have e3 := (Below.heap_alloc ((w.alloc (.map #[] 0)).alloc (.cells #[.map (some w.heap.size)] 192)) (.cells #[.slice none 0 0] 42) (w.heap.size + 1) (by simp)).trans e2
    refine ⟨_, e1, IntsOwn.nil _ _, e3, ?_⟩
    exact ((GMap.made 2 kNum w).ext (g := seenF []) (fun x => by simp [seenF])).gr (by go_grown)
  have g0 : Gr w (((w.alloc (.map #[] 0)).alloc (.cells #[.map (some w.heap.size)] 192)).alloc (.cells #[.slice none 0 0] 42)) := by go_grown
  generalize (((w.alloc (.map #[] 0)).alloc (.cells #[.map (some w.heap.size)] 192)).alloc (.cells #[.slice none 0 0] 42)) = wA at *
  clear hmm
  refine wpIn_loop (fun a W => ∃ (k : Nat) (u6 u12 u13 u14 u15 u16 u36 : Value) (Ds : List Nat), k ≤ l.length ∧
      a = { tmps := #[.slice p l.length c, undef, .slice none 0 0, .pointer (some ⟨w.heap.size + 1, 0, none⟩), .pointer (some ⟨w.heap.size + 1 + 1, 0, none⟩), undef, u6, undef, .map (some w.heap.size), .slice p l.length c, .int .i64 l.length, .int .i64 k, u12, u13, u14, u15, u16, undef, undef, undef, undef, undef, undef, undef, undef, undef, undef, undef, undef, undef, undef, undef, undef, undef, undef, undef, u36, undef], defers := marked Ds } ∧
      Marks w.heap.size W.heap.size W Ds ∧ VSt w.heap.size (w.heap.size + 1 + 1) (w.heap.size + 1) w.heap.size (T.varsL (Tm.eraseL (l.take k)) []) W ∧ Gr w W)
    (fun a _ => l.length - (intOf (a.tmps.getD 11 undef)).toNat) ?_ ?_
  · exact ⟨0, _, _, _, _, _, _, _, [], Nat.zero_le _, rfl, ⟨List.nodup_nil, fun D hD => by cases hD⟩, by rw [List.take_zero, Tm.eraseL, T.varsL]; exact hst0, g0⟩
  rintro _ W ⟨k, u6, u12, u13, u14, u15, u16, u36, Ds, hk, rfl, hmk, hst, gr⟩
  by_cases hlt : k < l.length
  · obtain ⟨b, o, rfl⟩ := HSl.out.ptr (by omega)
    obtain ⟨⟨c0, c1, c2, c3⟩, _, _⟩ := (HSl.out.mono gr).elem k hlt
    have hmem : l[k] ∈ l := List.getElem_mem hlt
    have Hx := Lib.hid (Tm.InL_mem HIn.out _ hmem)
    have Hfx := Lib.hid (HF.out _ hmem)
    have Hv1 := Lib.hid (varsL_step l k hlt [])
    clear hmem
    generalize l[k] = x at *
    gi_wp2_with (refine ⟨trivial, ?_⟩; gi_at_call 151; refine (callsIn_wide.2 (parts_calls _ _ _ _ _ _ _)).mono ?_; rintro e w' ⟨rfl, rfl⟩)
    have gB : Gr W ((W.alloc (.cells #[.int .i64 x.k, .int .i64 x.n, .string x.s, .slice x.p x.l.length x.c] 25)).alloc (.cells #[.int .i64 x.k, .int .i64 x.n, .string x.s, .slice x.p x.l.length x.c] 25)) := by go_grown
    have hBt := Blk4.new (W.alloc (.cells #[.int .i64 x.k, .int .i64 x.n, .string x.s, .slice x.p x.l.length x.c] 25)) (.int .i64 x.k) (.int .i64 x.n) (.string x.s) (.slice x.p x.l.length x.c)
    have hsz : ((W.alloc (.cells #[.int .i64 x.k, .int .i64 x.n, .string x.s, .slice x.p x.l.length x.c] 25)).alloc (.cells #[.int .i64 x.k, .int .i64 x.n, .string x.s, .slice x.p x.l.length x.c] 25)).heap.size = W.heap.size + 2 := by simp
    simp only [World.size_alloc] at hBt
    generalize (W.alloc (.cells #[.int .i64 x.k, .int .i64 x.n, .string x.s, .slice x.p x.l.length x.c] 25)).alloc (.cells #[.int .i64 x.k, .int .i64 x.n, .string x.s, .slice x.p x.l.length x.c] 25) = W2 at *
    have hst2 := hst.gr gB
    have g2 : Gr w W2 := gr.trans gB
    have hon : x.On (· < w.heap.size) := Hx.out.on
    have hx2 := Tm.In_below g2 Hx.out
    obtain ⟨xs, hxs⟩ := Tm.pre_ok Hx.out Hfx.out
    have hmk2 : Marks w.heap.size W2.heap.size W2 Ds := ⟨hmk.1, fun D hD => by obtain ⟨m1, m2, m3⟩ := hmk.2 D hD; exact ⟨m1, by omega, (gB.block D m2).trans m3⟩⟩
    have hVok : VarsOkB (T.varsL (Tm.eraseL (l.take k)) []) := VarsOkB.varsL _ VarsOkB.nil (fmdL_erase fun y hy => HF.out y (List.mem_of_mem_take hy))
    have HV0 := Lib.hid hVok
    have hMl := hst2.lts
    clear hVok hst hmk c0 c1 c2 c3 hsz
    have Hsee := Lib.hid (see_vars x (T.varsL (Tm.eraseL (l.take k)) []) xs Hfx.out hxs)
    generalize T.varsL (Tm.eraseL (l.take k)) [] = V0 at *
    have hgs := g2.size
    refine wpIn_rangeFunc_ownH rfl (by decide) (gf := 194) (lb := #[.pointer (some ⟨W.heap.size + 1, 0, none⟩)]) rfl trivial (enters_of Try.func194 (by kernel_rfl) rfl)
      (parts_stops 8 (w.heap.size + 1 + 1) w.heap.size (W.heap.size + 1) x xs W2 hx2 hon g2.size (by omega) hst2.fit hxs hBt) Kv.trans (fun A l o o' _ ho hc _ => Kv.putObj o' ho hc) (Below.refl _ _) (fun _ => rfl)
      (fun pre W' => (VSt w.heap.size (w.heap.size + 1 + 1) (w.heap.size + 1) w.heap.size (seeAll V0 pre) W' ∧ Below w.heap.size w W') ∧ Marks w.heap.size W2.heap.size W' Ds)
      (fun _ _ _ => False)
      (OwnFrom.and (OwnFrom.and (own_vst _ _ _ _ _ _ (by omega)) (ownFrom_below (Nat.le_refl _) (by omega))) (own_marks _ _ _))
      (fun _ _ _ _ _ hs _ _ => hs)
      ⟨⟨hst2, g2⟩, hmk2⟩
      (fun y a' W' => ∃ Bx, w.heap.size + 1 + 1 < Bx ∧ Blk4 W' Bx (.int .i64 y.1.k) (.int .i64 y.1.n) (.string y.1.s) (.slice y.1.p y.1.l.length y.1.c) ∧
        a' = { tmps := #[.slice (some ⟨b, o, none⟩) l.length c, undef, .slice none 0 0, .pointer (some ⟨w.heap.size + 1, 0, none⟩), .pointer (some ⟨w.heap.size + 1 + 1, 0, none⟩), undef, .pointer (some ⟨W.heap.size, 0, none⟩), .pointer (some ⟨Bx, 0, none⟩), .map (some w.heap.size), .slice (some ⟨b, o, none⟩) l.length c, .int .i64 l.length, .int .i64 k, .bool true, .pointer (some ⟨b, o + k * 4, none⟩), .agg #[.int .i64 x.k, .int .i64 x.n, .string x.s, .slice x.p x.l.length x.c], .agg #[.int .i64 x.k, .int .i64 x.n, .string x.s, .slice x.p x.l.length x.c], .func (.func 194) #[] #[.pointer (some ⟨W.heap.size + 1, 0, none⟩)], .agg #[.int .i64 y.1.k, .int .i64 y.1.n, .string y.1.s, .slice y.1.p y.1.l.length y.1.c], undef, undef, undef, undef, undef, undef, undef, undef, undef, undef, undef, undef, undef, undef, undef, undef, undef, undef, u36, undef], defers := [] })
      (fun y a' _ X Y row hs hg hr => by
        obtain ⟨Bx, h1, h2, h3⟩ := hs
        exact ⟨Bx, h1, (hg.block Bx (Array.getElem?_eq_some_iff.1 h2).1 fun e => by
          obtain ⟨_, o, ho, hc⟩ := hr Bx e.symm
          rw [show X.heap[Bx]? = _ from h2] at ho
          cases ho
          cases hc).trans h2, h3⟩)
      ?assign ?body ?done ?stop
    case assign =>
      rintro l2 pre y W' K ⟨⟨hst', hB'⟩, hmk'⟩ hK
      gi_wp2
      have gN : Gr W' (W'.alloc (.cells #[.int .i64 y.1.k, .int .i64 y.1.n, .string y.1.s, .slice y.1.p y.1.l.length y.1.c] 25)) := by go_grown
      exact hK _ _ ((KeepsOthers.alloc _ _).from _) (Kv.alloc _ _ _) ⟨⟨hst'.gr gN, hB'.trans (gN.mono hB'.size)⟩, ⟨hmk'.1, fun D hD => by obtain ⟨m1, m2, m3⟩ := hmk'.2 D hD; exact ⟨m1, m2, (gN.block D (Array.getElem?_eq_some_iff.1 m3).1).trans m3⟩⟩⟩ ⟨W'.heap.size, hst'.lts.1, Blk4.new _ _ _ _ _, rfl⟩
    case body =>
      rintro l2 pre y a' W' hl2 _ ⟨⟨hst', hB'⟩, hmk'⟩ ⟨Bx, hBx, hbx, rfl⟩ hlt2
      have hone : y.1.k = 1 → seeAll V0 (pre ++ [y]) = withVar (seeAll V0 pre) y.1.n := fun e => by rw [seeAll_snoc, seeOne, if_pos e]
      have hnone : y.1.k ≠ 1 → seeAll V0 (pre ++ [y]) = seeAll V0 pre := fun e => by rw [seeAll_snoc, seeOne, if_neg e]
      refine wpIn_mono (Q := fun e _ W'' => e = .normal ∧ KeepsFrom W2.heap.size W' W'' ∧ Kv (w.heap.size + 1 + 1) W' W'' ∧ (VSt w.heap.size (w.heap.size + 1 + 1) (w.heap.size + 1) w.heap.size (seeAll V0 (pre ++ [y])) W'' ∧ Below w.heap.size w W'') ∧ Marks w.heap.size W2.heap.size W'' Ds) ?_ (by rintro e a W'' ⟨rfl, h⟩; exact h)
      have hfin : ∀ (V' : List Int) (a : Act) (W'' : World), seeAll V0 (pre ++ [y]) = V' → KeepsFrom W2.heap.size W' W'' ∧ Kv (w.heap.size + 1 + 1) W' W'' ∧ (VSt w.heap.size (w.heap.size + 1 + 1) (w.heap.size + 1) w.heap.size V' W'' ∧ Below w.heap.size w W'') ∧ Marks w.heap.size W2.heap.size W'' Ds →
        (fun (e : Exit) (_ : Act) (W'' : World) => e = .normal ∧ KeepsFrom W2.heap.size W' W'' ∧ Kv (w.heap.size + 1 + 1) W' W'' ∧ (VSt w.heap.size (w.heap.size + 1 + 1) (w.heap.size + 1) w.heap.size (seeAll V0 (pre ++ [y])) W'' ∧ Below w.heap.size w W'') ∧ Marks w.heap.size W2.heap.size W'' Ds) .normal a W'' := fun V' a W'' e h => ⟨rfl, by rw [e]; exact h⟩
      generalize (fun (e : Exit) (_ : Act) (W'' : World) => e = .normal ∧ KeepsFrom W2.heap.size W' W'' ∧ Kv (w.heap.size + 1 + 1) W' W'' ∧ (VSt w.heap.size (w.heap.size + 1 + 1) (w.heap.size + 1) w.heap.size (seeAll V0 (pre ++ [y])) W'' ∧ Below w.heap.size w W'') ∧ Marks w.heap.size W2.heap.size W'' Ds) = Q at hfin ⊢
      have Hfin := Lib.hid hfin
      clear hfin
      generalize seeAll V0 (pre ++ [y]) = VN at *
      obtain ⟨⟨kk, n, sn, pp, cc, ll⟩, hy⟩ := y
      dsimp only [Tm.k, Tm.n, Tm.s, Tm.p, Tm.c, Tm.l] at hbx hy hone hnone ⊢
      obtain ⟨v, h1, h2, h3, h4⟩ := hst'
      obtain ⟨⟨x0, x1, x2, x3⟩, _, _⟩ := hbx.parts
      have hVok : VarsOkB (seeAll V0 pre) := HV0.out.seeAll pre
      have hlen := hVok.len
      clear hVok
      have cO := cell_of_row W' (w.heap.size + 1 + 1) 0 _ _ _ h1
      have cS := cell_of_row W' (w.heap.size + 1) 0 _ _ _ h3
      simp only [List.getElem?_toArray, List.getElem?_cons_zero] at cO cS
      have hBs := hB'.size
      by_cases hk1 : kk = 1
      · subst hk1
        have hn : 0 ≤ n ∧ n ≤ 1099515822080 := hy.2.2.2.2 rfl
        have hkey := keyOf_int_mk Try.underlying2 (wf_64 (c := n) ⟨by omega, by omega⟩)
        have hL := (GMap.run h4 (int_keyed Try.underlying2) Try.underlying192 (zero_int' W') (x := n) hkey).1
        by_cases hm : n ∈ seeAll V0 pre
        · have hs : seenF (seeAll V0 pre) n = some (.int .i64 1) := if_pos hm
          rw [hs] at hL
          simp only [Option.getD_some, kNum] at hL
          have hsv : Hid (VN = seeAll V0 pre) := (hone rfl).trans (if_pos hm)
          clear hone hnone
          gi_wp2
          exact Hfin.out _ _ _ hsv.out ⟨KeepsFrom.refl _ _, Kv.refl _ _, ⟨⟨v, h1, h2, h3, h4⟩, hB'⟩, hmk'⟩
        · have hs : seenF (seeAll V0 pre) n = none := if_neg hm
          rw [hs] at hL
          simp only [Option.getD_none, kNum] at hL
          have hsv : Hid (VN = seeAll V0 pre ++ [n]) := (hone rfl).trans (if_neg hm)
          clear hone hnone
          obtain ⟨w1, hu, hm1, hg1⟩ := GMap.update h4 (int_keyed Try.underlying2) Try.underlying192 (x := n) hkey (fun y h => kNum_inj h) (.int .i64 1) (g := seenF (seeAll V0 pre ++ [n]))
            (by rw [seenF, if_pos (by simp)]) (fun z hz => by simp [seenF, hz])
          simp only [kNum] at hu
          have cellsM : ∀ {b : Nat} {cur : Array Value} {t : TypeId}, W'.heap[b]? = some (.cells cur t) → w1.heap[b]? = some (.cells cur t) := fun {b cur t} hb =>
            (hg1.block b (Array.getElem?_eq_some_iff.1 hb).1 fun e => by cases e; obtain ⟨E, cl, hMo, _⟩ := h4; rw [hMo] at hb; cases hb).trans hb
          have cO1 := cell_of_row w1 (w.heap.size + 1 + 1) 0 _ _ _ (cellsM h1)
          simp only [List.getElem?_toArray, List.getElem?_cons_zero] at cO1
          have x1' := cell_of_row w1 Bx 1 _ _ _ (cellsM hbx)
          simp only [List.getElem?_toArray, List.getElem?_cons_succ, List.getElem?_cons_zero] at x1'
          have hrow : IntsOwn w1 w.heap.size v (seeAll V0 pre) := h2.sameAt fun g hgv => by obtain ⟨cur, hc, _⟩ := h2.cells hgv; rw [cellsM hc, hc]
          have hs1 := hg1.size
          gi_wp2_with go_loud
            (gi_at_builtin
             refine wpListIn_append_own_at _ rfl _ _ 42 rfl w.heap.size 2 i0 (.int .i64 0) 1 8 Try.underlying42 Hi.out hz0 hz1 hz2 rfl (by decide) v _ _ rfl (hrow.gr (by go_grown)) ⟨w1.heap.size, 0, none⟩ 1 1 [.int .i64 n] rfl rfl (cell_one_new _ _ _) (by simp [Value.oneCell']) (by simp only [maxLen]; omega) (by omega) (by simp; omega) ?_
             intro v' w2 hown' hgrow _ hat
             obtain ⟨g', cap', rfl⟩ := ownsRow_succ hown'
             have hown2 : IntsOwn w2 w.heap.size (.slice (some ⟨g', 0, none⟩) ((seeAll V0 pre).length + 1) cap') (seeAll V0 pre ++ [n]) := by unfold IntsOwn; rw [List.length_append, List.map_append]; exact hown'
             have hsee := see_step h1 h2 h3 h4 hm1 hg1 hBs (by omega) (Nat.le_refl _) hown2 hgrow hat
             have HSee := Lib.hid hsee
             obtain ⟨⟨cO2, fO2⟩, _⟩ := hsee
             clear hown2)
          obtain ⟨_, p2, p3, p4, p5, p6⟩ := HSee.out
          exact Hfin.out _ _ _ hsv.out ⟨p5 _ (by omega), p4, ⟨p2, hB'.trans p3⟩, ⟨hmk'.1, fun D hD => by obtain ⟨m1, m2, m3⟩ := hmk'.2 D hD; exact ⟨m1, m2, p6 D m3⟩⟩⟩
      · have hk' : (kk == 1) = false := beq_eq_false_iff_ne.2 hk1
        have hsv : Hid (VN = seeAll V0 pre) := hnone hk1
        clear hone hnone
        gi_wp2
        exact Hfin.out _ _ _ hsv.out ⟨KeepsFrom.refl _ _, Kv.refl _ _, ⟨⟨v, h1, h2, h3, h4⟩, hB'⟩, hmk'⟩
    case done =>
      rintro D ys W' hD rfl ⟨⟨hst', hB'⟩, hmk'⟩ hK
      rw [Hsee.out, ← Hv1.out] at hst'
      gi_wp2
      refine ⟨⟨k + 1, _, _, _, _, _, _, _, D :: Ds, by omega, by go_num, ⟨List.nodup_cons.2 ⟨fun hm => by have := (hmk'.2 D hm).2.1; omega, hmk'.1⟩, fun D' hD' => ?_⟩, hst', hB'⟩, by simp [intOf]; omega⟩
      rcases List.mem_cons.1 hD' with rfl | hD'
      · exact ⟨by omega, (Array.getElem?_eq_some_iff.1 hK).1, hK⟩
      · obtain ⟨m1, m2, m3⟩ := hmk'.2 D' hD'
        exact ⟨m1, (Array.getElem?_eq_some_iff.1 m3).1, m3⟩
    case stop =>
      rintro D c' pre W' _ _ h _
      exact h.elim
  · obtain rfl : k = l.length := by omega
    obtain ⟨v, h1, h2, h3, h4⟩ := hst
    have cO := cell_of_row W (w.heap.size + 1 + 1) 0 _ _ _ h1
    simp only [List.getElem?_toArray, List.getElem?_cons_zero] at cO
    gi_wp2
    refine leaves_marks Ds W hmk.1 (fun D hD => (hmk.2 D hD).2.2) fun W' hK => ⟨_, results_tmp rfl _ _ _, v, rfl, ?_, Below.trans gr (hK.below (B := w.heap.size) (fun b hb => (hmk.2 b hb).1) gr.size)⟩
    rw [List.take_length] at h2
    exact h2.sameAt fun g hg => by
      obtain ⟨cur, hc, _⟩ := h2.cells hg
      exact hK.block g (Array.getElem?_eq_some_iff.1 hc).1 fun hD => by
        have := (hmk.2 g hD).2.2
        rw [hc] at this
        cases this
end Go.Proofs.Ytcblmkhhhibddaa

namespace Go.Proofs.Ytcblmkhhhibddaa
open Go.RowKit

def hasIdx (L : List Int) (n : Int) : Int := if n ∈ L then (L.idxOf n : Int) else -1

theorem idxOf_first {L : List Int} {n : Int} {k : Nat} (hk : L[k]? = some n) (hno : ∀ i, i < k → L[i]? ≠ some n) : L.idxOf n = k := by
  obtain ⟨hlt, he⟩ := List.getElem?_eq_some_iff.1 hk
  have hm : n ∈ L := he ▸ List.getElem_mem hlt
  have h1 := List.idxOf_lt_length_of_mem hm
  have h2 : L[L.idxOf n] = n := List.getElem_idxOf h1
  rcases Nat.lt_trichotomy (L.idxOf n) k with h | h | h
  · exact absurd (List.getElem?_eq_some_iff.2 ⟨h1, h2⟩) (hno _ h)
  · exact h
  · have := List.not_of_lt_findIdx (p := (· == n)) (xs := L) (i := k) (by exact h)
    simp [he] at this

set_option maxHeartbeats 1000000 in
set_option maxRecDepth 100000 in
theorem has_calls (p : Option Addr) (c : Nat) (L : List Int) (n : Int) (w : World) (h : IntSl w p c L) : Calls Try.prog 62 #[.slice p L.length c, .int .i64 n] w (Ret (.int .i64 (hasIdx L n)) w) := by
  have hR : Hid (∀ m, hasIdx L n = m → ∀ w', Gr w w' → Ret (.int .i64 (hasIdx L n)) w (.returned (.int .i64 m)) w') := fun b hb w' hg => ⟨by rw [hb], hg⟩
  have HH := Lib.hid (show hasIdx L n = if n ∈ L then (L.idxOf n : Int) else -1 from rfl)
  generalize hQ : Ret (.int .i64 (hasIdx L n)) w = Q at hR ⊢
  clear hQ
  generalize hasIdx L n = r at *
  have hlc : L.length ≤ c := h.1
  have hc : c ≤ 9223372036854775807 := h.2.1
  have H := Lib.hid h
  clear h
  go_enter Try.func62, Try.ntmps62
  try simp only [List.append_eq, List.cons_append, List.nil_append]
  go_wp2_with fail
  go_loopg [5] L.length (fun m i wr => ∃ k : Nat, k ≤ L.length ∧ m = L.length - k ∧ i = .int .i64 k ∧ wr = w ∧ Hid (∀ i, i < k → L[i]? ≠ some n))
  case atStart => exact ⟨0, Nat.zero_le _, rfl, rfl, rfl, fun i hi => by omega⟩
  case round =>
    obtain ⟨k, hk, rfl, rfl, rfl, hno⟩ := hrel
    by_cases hlt : k < L.length
    · obtain ⟨b, o, rfl, _, hr⟩ := H.out.ptr (by omega)
      have hy : L[k]? = some L[k] := List.getElem?_eq_getElem hlt
      have c0 := hr k _ hy
      clear hr
      generalize L[k] = y at *
      have HY := Lib.hid hy
      clear hy
      cases he : (y == n) with
      | true =>
        have hyn : y = n := beq_iff_eq.1 he
        have hv : Hid (r = (k : Int)) := by
          have hk2 : L[k]? = some n := hyn ▸ HY.out
          show _ = _
          rw [HH.out, if_pos (List.mem_of_getElem? hk2), idxOf_first hk2 hno.out]
        clear hyn
        go_wp2_with fail
        exact hR.out _ hv.out _ (Gr.rfl' _)
      | false =>
        have hno2 : Hid (∀ i, i < k + 1 → L[i]? ≠ some n) := fun i hi => by
          by_cases hik : i = k
          · subst hik
            rw [HY.out]
            intro e
            cases e
            simp at he
          · exact hno.out i (by omega)
        go_wp2_with fail
        go_roundg (L.length - (k + 1))
        case measure => omega
        case rel => exact ⟨k + 1, by omega, rfl, by go_num, rfl, hno2⟩
    · obtain rfl : k = L.length := by omega
      have hv : Hid (r = -1) := by
        show _ = _
        rw [HH.out, if_neg]
        intro hm
        obtain ⟨i, hi, he⟩ := List.getElem_of_mem hm
        exact hno.out i hi (List.getElem?_eq_some_iff.2 ⟨hi, he⟩)
      go_wp2_with fail
      exact hR.out _ hv.out _ (Gr.rfl' _)

end Go.Proofs.Ytcblmkhhhibddaa
