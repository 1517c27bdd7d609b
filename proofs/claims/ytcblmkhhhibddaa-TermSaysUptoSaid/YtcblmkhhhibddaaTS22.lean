/-
  term.Measure.
-/
import Derived.Test.YtcblmkhhhibddaaTS21
import Derived.Test.YtcblmkhhhibddaaTS12
import Derived.Test.YtcblmkhhhibddaaTS13
namespace Go.Proofs.Ytcblmkhhhibddaa
open Go.RowKit Go.Shelf Go.Maps

attribute [local go_sem] Oper.semAt_some

mutual
theorem pre_len : ∀ t : Tm, t.pre.length = T.sz t.erase
  | .mk k n s p c l => by
    rw [Tm.pre, Tm.erase, T.sz, List.length_cons, preL_len l]
theorem preL_len : ∀ l : List Tm, (Tm.preL l).length = T.szL (Tm.eraseL l)
  | [] => by rw [Tm.preL, Tm.eraseL, T.szL]; rfl
  | x :: xs => by rw [Tm.preL, Tm.eraseL, T.szL, List.length_append, pre_len x, preL_len xs]
end
/-- The number so far, in block O. -/
def NSt (O : Nat) (m : Nat) (W : World) : Prop := W.heap[O]? = some (.cells #[.int .i64 m] 3)
theorem NSt.gr {O m : Nat} {W W' : World} (h : NSt O m W) (g : Gr W W') : NSt O m W' := (g.block O (Array.getElem?_eq_some_iff.1 h).1).trans h
theorem NSt.lt {O m : Nat} {W : World} (h : NSt O m W) : O < W.heap.size := (Array.getElem?_eq_some_iff.1 h).1
theorem NSt.fit {O m n₀ : Nat} {W : World} (h : NSt O m W) : FitO O n₀ W := by
  have := cell_of_row W O 0 _ _ _ h
  exact ⟨_, this, fun b e => by cases e⟩
theorem NSt.own {O B : Nat} (f : List Pt → Nat) : OwnFrom B (fun pre W => NSt O (f pre) W) := by
  intro pre A W row h hg hr
  refine (hg.block O h.lt fun e => ?_).trans h
  obtain ⟨_, o, ho, hc⟩ := hr O e.symm
  rw [show A.heap[O]? = _ from h] at ho
  cases ho
  cases hc
theorem own_blk {B : Nat} (b : Nat) (v0 v1 v2 v3 : Value) : OwnFrom B (fun (_ : List Pt) W => Blk4 W b v0 v1 v2 v3) := by
  intro pre A W row h hg hr
  refine (hg.block b (Array.getElem?_eq_some_iff.1 h).1 fun e => ?_).trans h
  obtain ⟨_, o, ho, hc⟩ := hr b e.symm
  rw [show A.heap[b]? = _ from h] at ho
  cases ho
  cases hc
/-- Measure's answer. -/
def RetMeasure (t : T) (w : World) (e : Ending) (w' : World) : Prop := e = .returned (.tuple #[.int .i64 (if t.formed then (T.sz t : Int) else 0), .int .i64 (if t.formed then T.depth t else 0), .int .i64 (errOf t.formed)]) ∧ Gr w w'

set_option maxHeartbeats 4000000 in
set_option maxRecDepth 100000 in
theorem measure_calls (p : Tm) (w : World) (ip : p.In w) (sz : T.sz p.erase ≤ 1048576) : Calls Try.prog 96 #[p.val] w (RetMeasure p.erase w) := by
  have Ip := Lib.hid ip
  have Sz := Lib.hid sz
  have hformed := Lib.hid (fun W (g : Gr w W) => show Calls Try.prog 95 #[.agg #[.int .i64 p.k, .int .i64 p.n, .string p.s, .slice p.p p.l.length p.c]] W (Ret (.bool p.erase.formed) W) from formed_calls (t := p) (Tm.In_below g ip))
  have hdeep := Lib.hid (fun W (g : Gr w W) => show Calls Try.prog 152 #[.agg #[.int .i64 p.k, .int .i64 p.n, .string p.s, .slice p.p p.l.length p.c]] W (Ret (.int .i64 (T.depth p.erase)) W) from deep_calls (t := p) (Tm.In_below g ip) sz)
  have hQ0 : Hid (∀ (ff : Bool) w', p.erase.formed = ff → Gr w w' → RetMeasure p.erase w (.returned (.tuple #[.int .i64 (if ff then (T.sz p.erase : Int) else 0), .int .i64 (if ff then T.depth p.erase else 0), .int .i64 (errOf ff)])) w') := fun ff w' h1 h2 => ⟨by rw [h1], h2⟩
  generalize RetMeasure p.erase w = Q at hQ0 ⊢
  have HQ := hQ0
  clear ip sz hQ0
  rw [show p.val = .agg #[.int .i64 p.k, .int .i64 p.n, .string p.s, .slice p.p p.l.length p.c] from rfl]
  refine (callsIn_wide (n := 9)).1 ?_
  refine callsIn_of_wp_marks Try.func96 rfl trivial ?_ rfl
  simp only [Try.ntmps96, List.size_toArray, List.length_cons, List.length_nil, Nat.reduceAdd, Nat.reduceSub, Array.replicate_succ, Array.replicate_zero, List.push_toArray, List.append_toArray, List.nil_append, List.cons_append]
  obtain ⟨ff, hff⟩ : ∃ ff, p.erase.formed = ff := ⟨_, rfl⟩
  rw [hff] at hformed
  have Hff := Lib.hid hff
  clear hff
  have gA : Gr w ((w.alloc (.cells #[.int .i64 p.k, .int .i64 p.n, .string p.s, .slice p.p p.l.length p.c] 25)).alloc (.cells #[.int .i64 0] 3)) := by go_grown
  have hA := Lib.hid (Blk4.old (Blk4.new w (.int .i64 p.k) (.int .i64 p.n) (.string p.s) (.slice p.p p.l.length p.c)) (.cells #[.int .i64 0] 3))
  have hO : NSt (w.heap.size + 1) 0 ((w.alloc (.cells #[.int .i64 p.k, .int .i64 p.n, .string p.s, .slice p.p p.l.length p.c] 25)).alloc (.cells #[.int .i64 0] 3)) := by
    have e1 := heap_alloc_new (w.alloc (.cells #[.int .i64 p.k, .int .i64 p.n, .string p.s, .slice p.p p.l.length p.c] 25)) (.cells #[.int .i64 0] 3)
    simp only [World.size_alloc] at e1
    exact e1
  gi_wp2_with (refine ⟨trivial, ?_⟩; gi_at_call 95; refine (callsIn_wide.2 (hformed.out _ gA)).mono ?_)
  rintro e w2 ⟨rfl, hg2⟩
  generalize ((w.alloc (.cells #[.int .i64 p.k, .int .i64 p.n, .string p.s, .slice p.p p.l.length p.c] 25)).alloc (.cells #[.int .i64 0] 3)) = wA at *
  replace hg2 : Gr wA w2 := hg2
  have g2 : Gr w w2 := gA.trans hg2
  have hO2 := hO.gr hg2
  have HA2 := Lib.hid (hA.out.gr hg2)
  obtain ⟨⟨x0, x1, x2, x3⟩, _, _⟩ := HA2.out.parts
  clear hg2 hA hO hformed
  cases ff with
  | false =>
    have cO : w2.cell? ⟨w.heap.size + 1, 0, none⟩ = some (.int .i64 0) := cell_of_row w2 (w.heap.size + 1) 0 _ _ _ hO2
    have fO : w2.frozen? ⟨w.heap.size + 1, 0, none⟩ = false := frozen_of_row w2 (w.heap.size + 1) 0 _ _ hO2
    have gs : Gr w (w2.setCell ⟨w.heap.size + 1, 0, none⟩ (.int .i64 0)) := Below.setCell g2 (by simp) _
    have c1 : (w2.setCell ⟨w.heap.size + 1, 0, none⟩ (.int .i64 0)).cell? ⟨w.heap.size + 1, 0, none⟩ = some (.int .i64 0) := cell_of_row _ (w.heap.size + 1) 0 _ _ _ (heap_setCell_same _ _ 0 _ _ (.int .i64 0) hO2)
    clear hO2
    gi_wp2
    refine leaves_marks [] _ List.nodup_nil (fun D hD => by cases hD) fun W' hK => ?_
    have c2 := hK.cell c1 (by simp)
    exact ⟨.tuple #[.int .i64 0, .int .i64 0, .int .i64 2], by simp (maxDischargeDepth := 9) [results, Try.results96, go_sem, c2], HQ.out false W' Hff.out (Below.trans gs (hK.below (B := w.heap.size) (fun b hb => by cases hb) gs.size))⟩
  | true =>
    have Hpc := Lib.hid (parts_calls p.k p.n p.s p.p p.l.length p.c w2)
    gi_wp2_with (refine ⟨trivial, ?_⟩; gi_at_call 151; refine (callsIn_wide.2 Hpc.out).mono ?_; rintro e w' ⟨rfl, rfl⟩)
    have hBt := Blk4.new w2 (.int .i64 p.k) (.int .i64 p.n) (.string p.s) (.slice p.p p.l.length p.c)
    have gB : Gr w2 (w2.alloc (.cells #[.int .i64 p.k, .int .i64 p.n, .string p.s, .slice p.p p.l.length p.c] 25)) := by go_grown
    generalize (w2.alloc (.cells #[.int .i64 p.k, .int .i64 p.n, .string p.s, .slice p.p p.l.length p.c] 25)) = W2 at *
    have g3 : Gr w W2 := g2.trans gB
    have hO3 := hO2.gr gB
    have HA3 := Lib.hid (HA2.out.gr gB)
    have hs2 := g2.size
    have hs3 := g3.size
    have hs4 := hO3.lt
    have hon : p.On (· < w.heap.size) := Ip.out.on
    obtain ⟨xs, hxs⟩ := Tm.pre_ok Ip.out (fmd_of Hff.out)
    have hxl : xs.length = T.sz p.erase := by rw [← pre_len, ← hxs, List.length_map]
    have hsz := Sz.out
    clear x0 x1 x2 x3 hO2 gB Hpc
    refine wpIn_rangeFunc_ownH rfl (by decide) (gf := 194) (lb := #[.pointer (some ⟨w2.heap.size, 0, none⟩)]) rfl trivial (enters_of Try.func194 (by kernel_rfl) rfl)
      (parts_stops 8 (w.heap.size + 1) w.heap.size w2.heap.size p xs W2 (Tm.In_below g3 Ip.out) hon g3.size (by omega) hO3.fit hxs hBt) Kv.trans (fun A l o o' _ ho hc _ => Kv.putObj o' ho hc) (Below.refl _ _) (fun _ => rfl)
      (fun pre W' => (NSt (w.heap.size + 1) pre.length W' ∧ Below w.heap.size w W') ∧ Blk4 W' w.heap.size (.int .i64 p.k) (.int .i64 p.n) (.string p.s) (.slice p.p p.l.length p.c))
      (fun _ _ _ => False)
      (OwnFrom.and (OwnFrom.and (NSt.own List.length) (ownFrom_below (Nat.le_refl _) (by omega))) (own_blk _ _ _ _ _))
      (fun _ _ _ _ _ hs _ _ => hs)
      ⟨⟨hO3, g3⟩, HA3.out⟩
      (fun y a' _ => a' = { tmps := #[.agg #[.int .i64 p.k, .int .i64 p.n, .string p.s, .slice p.p p.l.length p.c], .pointer (some ⟨w.heap.size, 0, none⟩), .pointer (some ⟨w.heap.size + 1, 0, none⟩), .int .i64 0, .int .i64 0, .agg #[.int .i64 p.k, .int .i64 p.n, .string p.s, .slice p.p p.l.length p.c], .bool true, .bool false, .agg #[.int .i64 p.k, .int .i64 p.n, .string p.s, .slice p.p p.l.length p.c], .func (.func 194) #[] #[.pointer (some ⟨w2.heap.size, 0, none⟩)], .agg #[.int .i64 y.1.k, .int .i64 y.1.n, .string y.1.s, .slice y.1.p y.1.l.length y.1.c], undef, undef, undef, undef, undef], defers := [] })
      (fun y a' _ X Y row hs hg hr => hs)
      ?assign ?body ?done ?stop
    case assign =>
      rintro l2 pre y W' K ⟨⟨hst', hB'⟩, hbx⟩ hK
      gi_wp2
      exact hK _ _ (KeepsFrom.refl _ _) (Kv.refl _ _) ⟨⟨hst', hB'⟩, hbx⟩ (by simp)
    case body =>
      rintro l2 pre y a' W' hl2 _ ⟨⟨hst', hB'⟩, hbx⟩ rfl hlt2
      refine wpIn_mono (Q := fun e _ W'' => e = .normal ∧ KeepsFrom W2.heap.size W' W'' ∧ Kv (w.heap.size + 1) W' W'' ∧ ((NSt (w.heap.size + 1) (pre ++ [y]).length W'' ∧ Below w.heap.size w W'') ∧ Blk4 W'' w.heap.size (.int .i64 p.k) (.int .i64 p.n) (.string p.s) (.slice p.p p.l.length p.c))) ?_ (by rintro e a W'' ⟨rfl, h⟩; exact h)
      have cO : W'.cell? ⟨w.heap.size + 1, 0, none⟩ = some (.int .i64 pre.length) := cell_of_row W' (w.heap.size + 1) 0 _ _ _ hst'
      have fO : W'.frozen? ⟨w.heap.size + 1, 0, none⟩ = false := frozen_of_row W' (w.heap.size + 1) 0 _ _ hst'
      have hset := heap_setCell_same _ _ 0 _ _ (.int .i64 ((pre.length : Int) + 1)) hst'
      have hkv : Kv (w.heap.size + 1) W' (W'.setCell ⟨w.heap.size + 1, 0, none⟩ (.int .i64 ((pre.length : Int) + 1))) := by
        refine ⟨by simp, fun v hv hb => ⟨.int .i64 ((pre.length : Int) + 1), cell_of_row _ (w.heap.size + 1) 0 _ _ _ hset, (fun b e => by cases e), fun b o c hc hbO _ => ?_⟩⟩
        exact (World.cell?_of_block (Below.heap_setCell _ _ _ _ hbO)).trans hc
      have Hfin := Lib.hid (show KeepsFrom W2.heap.size W' (W'.setCell ⟨w.heap.size + 1, 0, none⟩ (.int .i64 ((pre.length : Int) + 1))) ∧ Kv (w.heap.size + 1) W' (W'.setCell ⟨w.heap.size + 1, 0, none⟩ (.int .i64 ((pre.length : Int) + 1))) ∧ ((NSt (w.heap.size + 1) (pre ++ [y]).length (W'.setCell ⟨w.heap.size + 1, 0, none⟩ (.int .i64 ((pre.length : Int) + 1))) ∧ Below w.heap.size w (W'.setCell ⟨w.heap.size + 1, 0, none⟩ (.int .i64 ((pre.length : Int) + 1)))) ∧ Blk4 (W'.setCell ⟨w.heap.size + 1, 0, none⟩ (.int .i64 ((pre.length : Int) + 1))) w.heap.size (.int .i64 p.k) (.int .i64 p.n) (.string p.s) (.slice p.p p.l.length p.c)) from
        ⟨(KeepsOthers.setCell _ _ _).from _, hkv, ⟨by rw [List.length_append]; exact hset, Below.setCell hB' (by simp) _⟩, (Below.heap_setCell _ _ _ _ (by simp)).trans hbx⟩)
      have hb1 : (pre.length : Int) + 1 ≤ 1048576 := by omega
      clear hset hkv hst'
      gi_wp2
      have h := Hfin.out
      rw [List.length_append] at h
      exact h
    case done =>
      rintro D ys W hD rfl ⟨⟨hst', hB'⟩, hbx⟩ hK
      have cO : W.cell? ⟨w.heap.size + 1, 0, none⟩ = some (.int .i64 ys.length) := cell_of_row W (w.heap.size + 1) 0 _ _ _ hst'
      rw [hxl] at cO
      obtain ⟨⟨x0, x1, x2, x3⟩, _, _⟩ := Blk4.parts hbx
      gi_wp2
      refine wpIn_wide.2 ?_
      refine wp_region_rely_tail 3 [fx (.int .i64 (T.sz p.erase : Nat)), fx (.agg #[.int .i64 p.k, .int .i64 p.n, .string p.s, .slice p.p p.l.length p.c]), fx (.int .i64 (T.depth p.erase))]
        (by kernel_rfl) (by kernel_rfl) (by decide) (by repeat (first | exact Stable.nil | refine Stable.fix ?_)) ?_ ?_
      · refine ⟨?_, ?_, ?a2, trivial⟩
        all_goals
          intro a wz hg hold
          have h1 : a.tmps[1]?.getD undef = .pointer (some ⟨w.heap.size, 0, none⟩) := hold 1 rfl
          have h2 : a.tmps[2]?.getD undef = .pointer (some ⟨w.heap.size + 1, 0, none⟩) := hold 2 rfl
          have z0 := Gr.at hg x0
          have z1 := Gr.at hg x1
          have z2 := Gr.at hg x2
          have z3 := Gr.at hg x3
          have zO := Gr.at hg cO
          have Hg := Lib.hid (show Gr W wz from hg)
          clear hold x0 x1 x2 x3 cO
          simp [predsImp, Region.binds, dstAt, fx]
          intros
          first
            | (rw [if_pos (by simp [*])]
               intro K hK2)
            | (rename_i K hK2)
          go_simp
        case a2 =>
          refine (hdeep.out wz (hB'.trans (Hg.out.mono hB'.size))).mono ?_
          rintro e w9 ⟨rfl, g9⟩
          exact hK2 _ _ rfl g9
        all_goals exact hK2 _ _ rfl (Gr.rfl' _)
      · intro w9 hg
        rintro _ rfl _ rfl _ rfl
        simp only [finAll, Act.put, List.setIfInBounds_toArray, List.set_cons_succ, List.set_cons_zero, List.drop_succ_cons, List.drop_zero, List.take_zero]
        have gw9 : Gr w w9 := hB'.trans (Below.mono hg hB'.size)
        have hst9 := (hst'.gr hg)
        have cO9 : w9.cell? ⟨w.heap.size + 1, 0, none⟩ = some (.int .i64 ys.length) := cell_of_row w9 (w.heap.size + 1) 0 _ _ _ hst9
        have fO9 : w9.frozen? ⟨w.heap.size + 1, 0, none⟩ = false := frozen_of_row w9 (w.heap.size + 1) 0 _ _ hst9
        have hset : NSt (w.heap.size + 1) (T.sz p.erase) _ := heap_setCell_same _ _ 0 _ _ (.int .i64 (T.sz p.erase : Nat)) hst9
        have hD9 : W.heap.size ≤ w9.heap.size := hg.size
        have HK := Lib.hid ((Below.heap_setCell w9 ⟨w.heap.size + 1, 0, none⟩ (.int .i64 (T.sz p.erase : Nat)) D (by simp; omega)).trans ((hg.block D (Array.getElem?_eq_some_iff.1 hK).1).trans hK))
        have Hset := Lib.hid hset
        have Hgs := Lib.hid (Below.setCell gw9 (p := ⟨w.heap.size + 1, 0, none⟩) (by simp) (.int .i64 (T.sz p.erase : Nat)))
        clear x0 x1 x2 x3 cO hset hst9 hst' hbx hK hg hxl
        go_wp2_with fail
        gi_wp2
        refine leaves_marks [D] _ (by simp) (fun D' hD' => by rw [List.mem_singleton] at hD'; rw [hD']; exact HK.out) fun W' hK' => ?_
        have c9 : (w9.setCell ⟨w.heap.size + 1, 0, none⟩ (.int .i64 (T.sz p.erase : Nat))).cell? ⟨w.heap.size + 1, 0, none⟩ = some (.int .i64 (T.sz p.erase : Nat)) := cell_of_row _ (w.heap.size + 1) 0 _ _ _ Hset.out
        have c2 := hK'.cell c9 (by rw [List.mem_singleton]; show ¬ (w.heap.size + 1 = D); omega)
        exact ⟨.tuple #[.int .i64 (T.sz p.erase : Nat), .int .i64 (T.depth p.erase), .int .i64 0], by simp (maxDischargeDepth := 9) [results, Try.results96, go_sem, c2], HQ.out true W' Hff.out (Below.trans Hgs.out (hK'.below (B := w.heap.size) (fun b hb => by rw [List.mem_singleton] at hb; omega) Hgs.out.size))⟩
    case stop =>
      rintro D c' pre W' _ _ h _
      exact h.elim
end Go.Proofs.Ytcblmkhhhibddaa
