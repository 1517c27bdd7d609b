/-
  hornkeep.TermMemory: the walk
-/
import Derived.Test.YthncdmijledpnaaTM17
import Derived.Test.YthncdmijledpnaaTM28
import Derived.Test.YthncdmijledpnaaTM29
namespace Go.Proofs.Ythncdmijledpnaa
open Go.RowKit Go.Maps Go.Lib

def ownBV (B0 : Nat) (l : List Bd) : VP := fun v w => ∃ (g : Nat) (lm : List Bd), v = .slice (some ⟨g, 0, none⟩) lm.length (lm.length + 3) ∧ seeBds lm = seeBds l ∧ (Bds.mk (some ⟨g, 0, none⟩) (lm.length + 3) lm).In w ∧ B0 ≤ g ∧ BlkT w g 115 (lm.flatMap Bd.cells ++ bdMarks).toArray ∧
    (∀ y ∈ lm, y.t.On (B0 ≤ ·) ∧ y.t.Roomy w)
theorem ownBV_stable {B0 : Nat} {l : List Bd} : ∀ v w w', ownBV B0 l v w → Gr w w' → ownBV B0 l v w' := fun _ _ _ ⟨g, lm, h1, h2, h3, h4, h5, h6⟩ hg => ⟨g, lm, h1, h2, h3.mono hg, h4, h5.gr hg, fun y hy => ⟨(h6 y hy).1, (h6 y hy).2.gr (h3.2.2.2 y hy).1 hg⟩⟩
def zblkV (B0 : Nat) : VP := fun v w => ∃ B, v = .pointer (some ⟨B, 0, none⟩) ∧ B0 ≤ B ∧ Blk4 w B (.int .i64 0) (.int .i64 0) (.string ⟨#[]⟩) (.slice none 0 0)
theorem zblkV_stable {B0 : Nat} : ∀ v w w', zblkV B0 v w → Gr w w' → zblkV B0 v w' := fun _ _ _ ⟨B, h1, h2, h3⟩ hg => ⟨B, h1, h2, h3.gr hg⟩
def zboxV (B0 : Nat) : VP := fun v w => ∃ B, v = .pointer (some ⟨B, 0, none⟩) ∧ B0 ≤ B ∧ BlkT w B 44 #[.slice none 0 0]
theorem zboxV_stable {B0 : Nat} : ∀ v w w', zboxV B0 v w → Gr w w' → zboxV B0 v w' := fun _ _ _ ⟨B, h1, h2, h3⟩ hg => ⟨B, h1, h2, h3.gr hg⟩
/-- What has spare room does not lie on a block of four cells. -/
theorem roomy_wide {w : World} : ∀ t : Tm, t.Roomy w → t.On (fun b => ∃ j u, 4 ≤ j ∧ w.cell? ⟨b, j, none⟩ = some u) := by
  intro t
  induction hN : SizeOf.sizeOf t using Nat.strongRecOn generalizing t with
  | _ N ih =>
    obtain ⟨k, n, s, p, c, l⟩ := t
    intro h
    rw [Tm.Roomy] at h
    rw [Tm.On]
    refine ⟨?_, Tm.OnL_of fun x hx => ih _ (by rw [← hN]; exact Tm.sizeOf_mem hx k n s p c) x rfl (Tm.RoomyL_mem h.2 x hx)⟩
    rcases h.1 with h1 | ⟨b, hp, hc, hm⟩
    · exact .inl h1
    · exact .inr ⟨b, 0, hp, l.length * 4 + 11, .slice none 0 0, by omega, (hm 11 (by omega)).trans rfl⟩
theorem blk4_wide {w : World} {b : Nat} {v0 v1 v2 v3 : Value} (h : Blk4 w b v0 v1 v2 v3) : ¬ ∃ j u, 4 ≤ j ∧ w.cell? ⟨b, j, none⟩ = some u := by
  rintro ⟨j, u, hj, hu⟩
  rw [cell_of_row w b j _ _ _ h] at hu
  have := (Array.getElem?_eq_some_iff.1 hu).1
  simp at this
  omega
theorem box_wide {w : World} {b : Nat} {e : TypeId} {v : Value} (h : BlkT w b e #[v]) : ¬ ∃ j u, 4 ≤ j ∧ w.cell? ⟨b, j, none⟩ = some u := by
  rintro ⟨j, u, hj, hu⟩
  rw [cell_of_row w b j _ _ _ h] at hu
  have := (Array.getElem?_eq_some_iff.1 hu).1
  simp at this
  omega
theorem roomy_kp {t : Tm} {C S : Nat → Prop} {w w' : World} (hr : t.Roomy w) (hi : t.In w) (hon : t.On S) (hS : ∀ b, S b → ¬ C b) (hk : Kp C w w') : t.Roomy w' :=
  Tm.Roomy.same (S := fun b => S b ∧ b < w.heap.size) (fun b hb _ => World.cell?_of_block (hk.block b hb.2 (hS b hb.1))) (Tm.On.and hon hi.on) hr
theorem four_stores {w : World} {B0 B1 B2 B3 : Nat} {y0 y1 y2 y3 z : Value} (h0 : Blk4 w B0 y0 y1 y2 y3) (h1 : Blk4 w B1 y0 y1 y2 y3) (h2 : BlkT w B2 44 #[z]) (h3 : BlkT w B3 44 #[z]) (e01 : B0 ≠ B1) (e02 : B0 ≠ B2) (e03 : B0 ≠ B3) (e12 : B1 ≠ B2) (e13 : B1 ≠ B3) (e23 : B2 ≠ B3)
    (a0 a1 a2 a3 b0 b1 b2 b3 c d : Value) (W : World)
    (hW : W = ((((((((((w.setCell ⟨B0, 0, none⟩ a0).setCell ⟨B0, 1, none⟩ a1).setCell ⟨B0, 2, none⟩ a2).setCell ⟨B0, 3, none⟩ a3).setCell ⟨B1, 0, none⟩ b0).setCell ⟨B1, 1, none⟩ b1).setCell ⟨B1, 2, none⟩ b2).setCell ⟨B1, 3, none⟩ b3).setCell ⟨B2, 0, none⟩ c).setCell ⟨B3, 0, none⟩ d)) : Blk4 W B0 a0 a1 a2 a3 ∧ Blk4 W B1 b0 b1 b2 b3 ∧ BlkT W B2 44 #[c] ∧ BlkT W B3 44 #[d] ∧ Kp (fun b => b = B0 ∨ b = B1 ∨ b = B2 ∨ b = B3) w W := by
  have s0 := h0.set4 a0 a1 a2 a3
  have q0 : Kp (· = B0) w _ := Kp.set4 (W := w) (R := B0) (o1 := 0) (o2 := 1) (o3 := 2) (o4 := 3) (a := a0) (b := a1) (c := a2) (e := a3) rfl
  generalize ((((w.setCell ⟨B0, 0, none⟩ a0).setCell ⟨B0, 1, none⟩ a1).setCell ⟨B0, 2, none⟩ a2).setCell ⟨B0, 3, none⟩ a3) = u0 at *
  have s1 := (h1.kp q0 (Ne.symm e01)).set4 b0 b1 b2 b3
  have q1 : Kp (· = B1) u0 _ := Kp.set4 (W := u0) (R := B1) (o1 := 0) (o2 := 1) (o3 := 2) (o4 := 3) (a := b0) (b := b1) (c := b2) (e := b3) rfl
  generalize ((((u0.setCell ⟨B1, 0, none⟩ b0).setCell ⟨B1, 1, none⟩ b1).setCell ⟨B1, 2, none⟩ b2).setCell ⟨B1, 3, none⟩ b3) = u1 at *
  have s2 := ((BlkT.kp h2 q0 (Ne.symm e02)).kp q1 (Ne.symm e12)).set 0 c
  have q2 : Kp (· = B2) u1 (u1.setCell ⟨B2, 0, none⟩ c) := Kp.set (C := (· = B2)) rfl
  generalize u1.setCell ⟨B2, 0, none⟩ c = u2 at *
  have s3 := (((BlkT.kp h3 q0 (Ne.symm e03)).kp q1 (Ne.symm e13)).kp q2 (Ne.symm e23)).set 0 d
  have q3 : Kp (· = B3) u2 (u2.setCell ⟨B3, 0, none⟩ d) := Kp.set (C := (· = B3)) rfl
  subst hW
  exact ⟨((s0.kp q1 e01).kp q2 e02).kp q3 e03, (s1.kp q2 e12).kp q3 e13, s2.kp q3 e23, s3,
    (((q0.mono fun b h => .inl h).trans (q1.mono fun b h => .inr (.inl h))).trans (q2.mono fun b h => .inr (.inr (.inl h)))).trans (q3.mono fun b h => .inr (.inr (.inr h)))⟩

theorem own_row {w : World} {g : Nat} {lm : List Bd} {xs : List Value} (h : BlkT w g 115 (lm.flatMap Bd.cells ++ xs).toArray) : Bd.row w g 0 lm := by
  intro i x hx
  have hi : i < lm.length := (List.getElem?_eq_some_iff.1 hx).1
  have h5 : ∀ j, j < 5 → w.cell? ⟨g, 0 + i * 5 + j, none⟩ = x.cells[j]? := by
    intro j hj
    rw [Nat.zero_add, cell_of_row w g _ _ _ _ h, List.getElem?_toArray, List.getElem?_append_left (by rw [bdcells_len]; omega)]
    exact bdcells_at hx j hj
  exact ⟨h5 0 (by omega), h5 1 (by omega), h5 2 (by omega), h5 3 (by omega), h5 4 (by omega)⟩
/-- A list of binds of one's own. -/
def OwnB (g : Nat) (lm : List Bd) (l : List Bd) (w : World) : Prop := seeBds lm = seeBds l ∧ (Bds.mk (some ⟨g, 0, none⟩) (lm.length + 3) lm).In w ∧ BlkT w g 115 (lm.flatMap Bd.cells ++ bdMarks).toArray ∧ ∀ y ∈ lm, y.t.Roomy w
theorem OwnB.gr {g : Nat} {lm l : List Bd} {w w' : World} (h : OwnB g lm l w) (hg : Gr w w') : OwnB g lm l w' := ⟨h.1, h.2.1.mono hg, h.2.2.1.gr hg, fun y hy => (h.2.2.2 y hy).gr (h.2.1.2.2.2 y hy).1 hg⟩
theorem OwnB.kp {C : Nat → Prop} {g : Nat} {lm l : List Bd} {w w' : World} (h : OwnB g lm l w) (hw : ∀ b, (∃ j u, 4 ≤ j ∧ w.cell? ⟨b, j, none⟩ = some u) → ¬ C b) (hk : Kp C w w') : OwnB g lm l w' := by
  obtain ⟨h1, h2, h3, h4⟩ := h
  have hg : ¬ C g := hw g ⟨lm.length * 5 + 14, .slice none 0 0, by omega, by
    rw [cell_of_row w g _ _ _ _ h3, List.getElem?_toArray, List.getElem?_append_right (by rw [bdcells_len]; omega), bdcells_len, Nat.add_sub_cancel_left]
    rfl⟩
  have h3' := h3.kp hk hg
  exact ⟨h1, ⟨h2.1, h2.2.1, .inr ⟨g, 0, rfl, own_row h3'⟩, fun y hy => ⟨kp_in (h2.2.2.2 y hy).1 (roomy_wide y.t (h4 y hy)) hw hk, (h2.2.2.2 y hy).2⟩⟩, h3', fun y hy => roomy_kp (h4 y hy) (h2.2.2.2 y hy).1 (roomy_wide y.t (h4 y hy)) hw hk⟩
theorem OwnB.mark {g : Nat} {lm l : List Bd} {w : World} (h : OwnB g lm l w) : w.cell? ⟨g, 0 + lm.length * 5, none⟩ = some (.int .i64 (-7)) := by
  rw [Nat.zero_add, cell_of_row w g _ _ _ _ h.2.2.1, List.getElem?_toArray, List.getElem?_append_right (by rw [bdcells_len]; omega), bdcells_len, Nat.sub_self]
  rfl
/-- A list of numbers of one's own. -/
theorem own_ints {w : World} {g : Nat} {L xs : List Int} (h : BlkT w g 3 (ints (L ++ xs))) (hL : ∀ n ∈ L, In64 n) (c : Nat) (h1 : L.length ≤ c) (h2 : c ≤ 9223372036854775807) : IntSl w (some ⟨g, 0, none⟩) c L := by
  refine ⟨h1, h2, hL, .inr ⟨g, 0, rfl, h.lt, fun i n hn => ?_⟩⟩
  have hi : i < L.length := (List.getElem?_eq_some_iff.1 hn).1
  rw [Nat.zero_add]
  refine h.cell i ?_
  rw [ints, List.getElem?_toArray, List.getElem?_map, List.getElem?_append_left hi, hn]
  rfl

set_option maxHeartbeats 8000000 in
set_option maxRecDepth 100000 in
theorem termMemory_walk (t0 t1 : Tm) (ps : Option Addr) (cs : Nat) (s : List Bd) (pu : Option Addr) (cu : Nat) (u : List Bd) (pl : Option Addr) (cl : Nat) (L : List Int) (w : World) (i0 : t0.In w) (i1 : t1.In w) (is : (Bds.mk ps cs s).In w) (iu : (Bds.mk pu cu u).In w) (iL : IntSl w pl cl L)
    (z0 : T.sz t0.erase ≤ 1048576) (zs : (s.length + 3) * 64 ≤ 140737488351232) (zu : (u.length + 3) * 64 ≤ 140737488351232) (zL : L.length * 8 ≤ 140737488351232) :
    Calls Try.prog 6 #[t0.val, t1.val, .slice ps s.length cs, .slice pu u.length cu, .slice pl L.length cl] w (Ret (.bool true) w) := by
  have hmf : ∀ (fn : Fn) (first cap : Array Value) (w : World), (Instr.makeFunc fn first cap).run Try.prog w = .ok (.func fn first cap) w := fun _ _ _ _ => rfl
  have hR : Hid (∀ b, true = b → ∀ w', Gr w w' → Ret (.bool true) w (.returned (.bool b)) w') := fun b hb w' hg => ⟨by rw [hb], hg⟩
  generalize hQ : Ret (.bool true) w = Q at hR ⊢
  have HZ := Lib.hid (And.intro z0 (And.intro zs (And.intro zu zL)))
  have HS := Lib.hid is
  have HU := Lib.hid iu
  have HL := Lib.hid iL
  clear hQ z0 zs zu zL is iu iL
  have HI0 := Lib.hid i0
  have HV0 := Lib.hid (show t0.val = .agg #[.int .i64 t0.k, .int .i64 t0.n, .string t0.s, .slice t0.p t0.l.length t0.c] from rfl)
  have HI1 := Lib.hid i1
  have HV1 := Lib.hid (show t1.val = .agg #[.int .i64 t1.k, .int .i64 t1.n, .string t1.s, .slice t1.p t1.l.length t1.c] from rfl)
  clear i0 i1
  rw [HV0.out, HV1.out]
  go_enter Try.func6, Try.ntmps6
  try simp only [List.append_eq, List.cons_append, List.nil_append]
  go_upto_region 1 with fail
  obtain ⟨HT0, HT1, gw⟩ := two_blocks w (.int .i64 t0.k) (.int .i64 t0.n) (.string t0.s) (.slice t0.p t0.l.length t0.c) (.int .i64 t1.k) (.int .i64 t1.n) (.string t1.s) (.slice t1.p t1.l.length t1.c)
  have hBl : w.heap.size + 1 < ((w.alloc (.cells #[.int .i64 t0.k, .int .i64 t0.n, .string t0.s, .slice t0.p t0.l.length t0.c] 25)).alloc (.cells #[.int .i64 t1.k, .int .i64 t1.n, .string t1.s, .slice t1.p t1.l.length t1.c] 25)).heap.size := by simp
  generalize (w.alloc (.cells #[.int .i64 t0.k, .int .i64 t0.n, .string t0.s, .slice t0.p t0.l.length t0.c] 25)).alloc (.cells #[.int .i64 t1.k, .int .i64 t1.n, .string t1.s, .slice t1.p t1.l.length t1.c] 25) = wA at *
  replace HI0 := Lib.hid (Tm.In_below gw HI0.out)
  replace HI1 := Lib.hid (Tm.In_below gw HI1.out)
  replace HS := Lib.hid (HS.out.mono gw)
  replace HU := Lib.hid (HU.out.mono gw)
  replace HL := Lib.hid (HL.out.mono gw)
  go_upto_region 3 with (first
    | (go_at_call 33; refine (thereTerm_calls _).mono ?_; rintro e w1 ⟨rfl, hb⟩; replace hb : Gr wA w1 := hb; have hsz1 := hb.size; replace gw := gw.trans hb; replace HT0 := Lib.hid (HT0.out.gr hb); replace HT1 := Lib.hid (HT1.out.gr hb); replace HI0 := Lib.hid (Tm.In_below hb HI0.out); replace HI1 := Lib.hid (Tm.In_below hb HI1.out); replace HS := Lib.hid (HS.out.mono hb); replace HU := Lib.hid (HU.out.mono hb); replace HL := Lib.hid (HL.out.mono hb); clear hb)
    | fail)
  have hBl1 : Hid (w.heap.size + 1 < w1.heap.size) := Nat.lt_of_lt_of_le hBl hsz1
  clear hsz1 hBl
  obtain ⟨⟨a0, b0, c0, d0⟩, _, _⟩ := HT0.out.parts
  obtain ⟨⟨a1, b1, c1, d1⟩, _, _⟩ := HT1.out.parts
  refine wp_region_relyA 12 [fx (.agg #[.int .i64 t0.k, .int .i64 t0.n, .string t0.s, .slice t0.p t0.l.length t0.c]), ownTV (w1.heap.size ≤ ·) t0.erase, fx (.agg #[.int .i64 t1.k, .int .i64 t1.n, .string t1.s, .slice t1.p t1.l.length t1.c]), ownTV (w1.heap.size ≤ ·) t1.erase, fx (.slice ps s.length cs), ownBV w1.heap.size s, fx (.slice pu u.length cu), ownBV w1.heap.size u, zblkV w1.heap.size, zblkV w1.heap.size, zboxV w1.heap.size, zboxV w1.heap.size]
    Gr (Apart [(8, 11), (9, 12), (10, 13), (11, 14)]) (by kernel_rfl) (by kernel_rfl) (by decide) (by kernel_rfl) (fun _ _ h => h) (fun _ _ _ h k => Gr.trans h k) (fun w _ => Apart.start _ _ _ w) (by repeat (first | exact StableR.nil | refine StableR.fix ?_ | refine StableR.cons ownTV_stable ?_ | refine StableR.cons ownBV_stable ?_ | refine StableR.cons zblkV_stable ?_ | refine StableR.cons zboxV_stable ?_)) ?_ ?_
  · refine ⟨stepA_plain (fun _ _ h => h) (fun listed a w w' v h hg => Apart.other rfl listed a w w' v h hg) ?_, stepA_plain (fun _ _ h => h) (fun listed a w w' v h hg => Apart.other rfl listed a w w' v h hg) ?b1, stepA_plain (fun _ _ h => h) (fun listed a w w' v h hg => Apart.other rfl listed a w w' v h hg) ?_, stepA_plain (fun _ _ h => h) (fun listed a w w' v h hg => Apart.other rfl listed a w w' v h hg) ?b3, stepA_plain (fun _ _ h => h) (fun listed a w w' v h hg => Apart.other rfl listed a w w' v h hg) ?_, stepA_plain (fun _ _ h => h) (fun listed a w w' v h hg => Apart.other rfl listed a w w' v h hg) ?b5, stepA_plain (fun _ _ h => h) (fun listed a w w' v h hg => Apart.other rfl listed a w w' v h hg) ?_, stepA_plain (fun _ _ h => h) (fun listed a w w' v h hg => Apart.other rfl listed a w w' v h hg) ?b7, ?a8, ?a9, ?a10, ?a11, trivial⟩
    case a8 =>
      intro listed fr wr hj hl hpre hg hdef hold
      have h5 : fr.tmps[5]?.getD undef = .pointer (some ⟨w.heap.size, 0, none⟩) := hold 5 rfl
      have h6 : fr.tmps[6]?.getD undef = .pointer (some ⟨w.heap.size + 1, 0, none⟩) := hold 6 rfl
      have h2 : fr.tmps[2]?.getD undef = .slice ps s.length cs := hold 2 rfl
      have h3 : fr.tmps[3]?.getD undef = .slice pu u.length cu := hold 3 rfl
      have a0' := Gr.at hg a0
      have b0' := Gr.at hg b0
      have c0' := Gr.at hg c0
      have d0' := Gr.at hg d0
      have a1' := Gr.at hg a1
      have b1' := Gr.at hg b1
      have c1' := Gr.at hg c1
      have d1' := Gr.at hg d1
      have Hg := Lib.hid hg
      clear hold a0 b0 c0 d0 a1 b1 c1 d1
      clear hdef
      simp only [predsImp]
      intro K hK
      go_simp
      exact hK _ _ ⟨wr.heap.size, rfl, hg.size, Blk4.new _ _ _ _ _⟩ (by go_grown) (Apart.new rfl hj (by go_grown) (Nat.le_refl _) (by simp))
    case a9 =>
      intro listed fr wr hj hl hpre hg hdef hold
      have h5 : fr.tmps[5]?.getD undef = .pointer (some ⟨w.heap.size, 0, none⟩) := hold 5 rfl
      have h6 : fr.tmps[6]?.getD undef = .pointer (some ⟨w.heap.size + 1, 0, none⟩) := hold 6 rfl
      have h2 : fr.tmps[2]?.getD undef = .slice ps s.length cs := hold 2 rfl
      have h3 : fr.tmps[3]?.getD undef = .slice pu u.length cu := hold 3 rfl
      have a0' := Gr.at hg a0
      have b0' := Gr.at hg b0
      have c0' := Gr.at hg c0
      have d0' := Gr.at hg d0
      have a1' := Gr.at hg a1
      have b1' := Gr.at hg b1
      have c1' := Gr.at hg c1
      have d1' := Gr.at hg d1
      have Hg := Lib.hid hg
      clear hold a0 b0 c0 d0 a1 b1 c1 d1
      clear hdef
      simp only [predsImp]
      intro K hK
      go_simp
      exact hK _ _ ⟨wr.heap.size, rfl, hg.size, Blk4.new _ _ _ _ _⟩ (by go_grown) (Apart.new rfl hj (by go_grown) (Nat.le_refl _) (by simp))
    case a10 =>
      intro listed fr wr hj hl hpre hg hdef hold
      have h5 : fr.tmps[5]?.getD undef = .pointer (some ⟨w.heap.size, 0, none⟩) := hold 5 rfl
      have h6 : fr.tmps[6]?.getD undef = .pointer (some ⟨w.heap.size + 1, 0, none⟩) := hold 6 rfl
      have h2 : fr.tmps[2]?.getD undef = .slice ps s.length cs := hold 2 rfl
      have h3 : fr.tmps[3]?.getD undef = .slice pu u.length cu := hold 3 rfl
      have a0' := Gr.at hg a0
      have b0' := Gr.at hg b0
      have c0' := Gr.at hg c0
      have d0' := Gr.at hg d0
      have a1' := Gr.at hg a1
      have b1' := Gr.at hg b1
      have c1' := Gr.at hg c1
      have d1' := Gr.at hg d1
      have Hg := Lib.hid hg
      clear hold a0 b0 c0 d0 a1 b1 c1 d1
      clear hdef
      simp only [predsImp]
      intro K hK
      go_simp
      exact hK _ _ ⟨wr.heap.size, rfl, hg.size, BlkT.new _ _ _⟩ (by go_grown) (Apart.new rfl hj (by go_grown) (Nat.le_refl _) (by simp))
    case a11 =>
      intro listed fr wr hj hl hpre hg hdef hold
      have h5 : fr.tmps[5]?.getD undef = .pointer (some ⟨w.heap.size, 0, none⟩) := hold 5 rfl
      have h6 : fr.tmps[6]?.getD undef = .pointer (some ⟨w.heap.size + 1, 0, none⟩) := hold 6 rfl
      have h2 : fr.tmps[2]?.getD undef = .slice ps s.length cs := hold 2 rfl
      have h3 : fr.tmps[3]?.getD undef = .slice pu u.length cu := hold 3 rfl
      have a0' := Gr.at hg a0
      have b0' := Gr.at hg b0
      have c0' := Gr.at hg c0
      have d0' := Gr.at hg d0
      have a1' := Gr.at hg a1
      have b1' := Gr.at hg b1
      have c1' := Gr.at hg c1
      have d1' := Gr.at hg d1
      have Hg := Lib.hid hg
      clear hold a0 b0 c0 d0 a1 b1 c1 d1
      clear hdef
      simp only [predsImp]
      intro K hK
      go_simp
      exact hK _ _ ⟨wr.heap.size, rfl, hg.size, BlkT.new _ _ _⟩ (by go_grown) (Apart.new rfl hj (by go_grown) (Nat.le_refl _) (by simp))
    case b1 =>
      intro fr wr hg hold
      have h5 : fr.tmps[5]?.getD undef = .pointer (some ⟨w.heap.size, 0, none⟩) := hold 5 rfl
      have h6 : fr.tmps[6]?.getD undef = .pointer (some ⟨w.heap.size + 1, 0, none⟩) := hold 6 rfl
      have h2 : fr.tmps[2]?.getD undef = .slice ps s.length cs := hold 2 rfl
      have h3 : fr.tmps[3]?.getD undef = .slice pu u.length cu := hold 3 rfl
      have a0' := Gr.at hg a0
      have b0' := Gr.at hg b0
      have c0' := Gr.at hg c0
      have d0' := Gr.at hg d0
      have a1' := Gr.at hg a1
      have b1' := Gr.at hg b1
      have c1' := Gr.at hg c1
      have d1' := Gr.at hg d1
      have Hg := Lib.hid hg
      clear hold a0 b0 c0 d0 a1 b1 c1 d1
      simp [predsImp, Region.binds, dstAt, fx]
      intros
      rename_i K hK
      go_simp
      rewrite [← HV0.out]
      refine (own_calls (Tm.In_below Hg.out HI0.out)).mono ?_
      rintro e w10 ⟨x, rfl, ix, ex, ox, rx, hg2⟩
      exact hK _ _ ⟨x, rfl, ix, ex, rx, ox.mono fun b hb => Nat.le_trans Hg.out.size hb⟩ hg2
    case b3 =>
      intro fr wr hg hold
      have h5 : fr.tmps[5]?.getD undef = .pointer (some ⟨w.heap.size, 0, none⟩) := hold 5 rfl
      have h6 : fr.tmps[6]?.getD undef = .pointer (some ⟨w.heap.size + 1, 0, none⟩) := hold 6 rfl
      have h2 : fr.tmps[2]?.getD undef = .slice ps s.length cs := hold 2 rfl
      have h3 : fr.tmps[3]?.getD undef = .slice pu u.length cu := hold 3 rfl
      have a0' := Gr.at hg a0
      have b0' := Gr.at hg b0
      have c0' := Gr.at hg c0
      have d0' := Gr.at hg d0
      have a1' := Gr.at hg a1
      have b1' := Gr.at hg b1
      have c1' := Gr.at hg c1
      have d1' := Gr.at hg d1
      have Hg := Lib.hid hg
      clear hold a0 b0 c0 d0 a1 b1 c1 d1
      simp [predsImp, Region.binds, dstAt, fx]
      intros
      rename_i K hK
      go_simp
      rewrite [← HV1.out]
      refine (own_calls (Tm.In_below Hg.out HI1.out)).mono ?_
      rintro e w10 ⟨x, rfl, ix, ex, ox, rx, hg2⟩
      exact hK _ _ ⟨x, rfl, ix, ex, rx, ox.mono fun b hb => Nat.le_trans Hg.out.size hb⟩ hg2
    case b5 =>
      intro fr wr hg hold
      have h5 : fr.tmps[5]?.getD undef = .pointer (some ⟨w.heap.size, 0, none⟩) := hold 5 rfl
      have h6 : fr.tmps[6]?.getD undef = .pointer (some ⟨w.heap.size + 1, 0, none⟩) := hold 6 rfl
      have h2 : fr.tmps[2]?.getD undef = .slice ps s.length cs := hold 2 rfl
      have h3 : fr.tmps[3]?.getD undef = .slice pu u.length cu := hold 3 rfl
      have a0' := Gr.at hg a0
      have b0' := Gr.at hg b0
      have c0' := Gr.at hg c0
      have d0' := Gr.at hg d0
      have a1' := Gr.at hg a1
      have b1' := Gr.at hg b1
      have c1' := Gr.at hg c1
      have d1' := Gr.at hg d1
      have Hg := Lib.hid hg
      clear hold a0 b0 c0 d0 a1 b1 c1 d1
      simp [predsImp, Region.binds, dstAt, fx]
      intros
      rename_i K hK
      go_simp
      refine (ownBinds_calls ps cs s _ (HS.out.mono Hg.out) HZ.out.2.1).mono ?_
      rintro e w10 ⟨g, lm, rfl, h1, h2, h3, h4, h5, hg2⟩
      exact hK _ _ ⟨g, lm, rfl, h1, h2, Nat.le_trans Hg.out.size h3, h4, fun y hy => ⟨(h5 y hy).1.mono fun b hb => Nat.le_trans Hg.out.size hb, (h5 y hy).2⟩⟩ hg2
    case b7 =>
      intro fr wr hg hold
      have h5 : fr.tmps[5]?.getD undef = .pointer (some ⟨w.heap.size, 0, none⟩) := hold 5 rfl
      have h6 : fr.tmps[6]?.getD undef = .pointer (some ⟨w.heap.size + 1, 0, none⟩) := hold 6 rfl
      have h2 : fr.tmps[2]?.getD undef = .slice ps s.length cs := hold 2 rfl
      have h3 : fr.tmps[3]?.getD undef = .slice pu u.length cu := hold 3 rfl
      have a0' := Gr.at hg a0
      have b0' := Gr.at hg b0
      have c0' := Gr.at hg c0
      have d0' := Gr.at hg d0
      have a1' := Gr.at hg a1
      have b1' := Gr.at hg b1
      have c1' := Gr.at hg c1
      have d1' := Gr.at hg d1
      have Hg := Lib.hid hg
      clear hold a0 b0 c0 d0 a1 b1 c1 d1
      simp [predsImp, Region.binds, dstAt, fx]
      intros
      rename_i K hK
      go_simp
      refine (ownBinds_calls pu cu u _ (HU.out.mono Hg.out) HZ.out.2.2.1).mono ?_
      rintro e w10 ⟨g, lm, rfl, h1, h2, h3, h4, h5, hg2⟩
      exact hK _ _ ⟨g, lm, rfl, h1, h2, Nat.le_trans Hg.out.size h3, h4, fun y hy => ⟨(h5 y hy).1.mono fun b hb => Nat.le_trans Hg.out.size hb, (h5 y hy).2⟩⟩ hg2
    all_goals
      intro fr wr hg hold
      have h5 : fr.tmps[5]?.getD undef = .pointer (some ⟨w.heap.size, 0, none⟩) := hold 5 rfl
      have h6 : fr.tmps[6]?.getD undef = .pointer (some ⟨w.heap.size + 1, 0, none⟩) := hold 6 rfl
      have h2 : fr.tmps[2]?.getD undef = .slice ps s.length cs := hold 2 rfl
      have h3 : fr.tmps[3]?.getD undef = .slice pu u.length cu := hold 3 rfl
      have a0' := Gr.at hg a0
      have b0' := Gr.at hg b0
      have c0' := Gr.at hg c0
      have d0' := Gr.at hg d0
      have a1' := Gr.at hg a1
      have b1' := Gr.at hg b1
      have c1' := Gr.at hg c1
      have d1' := Gr.at hg d1
      have Hg := Lib.hid hg
      clear hold a0 b0 c0 d0 a1 b1 c1 d1
      simp [predsImp, fx]
      intros
      rename_i K hK
      go_simp
    all_goals exact hK _ _ rfl (Gr.rfl' _)
  · intro w9 hg
    rintro _ rfl _ ⟨x0, rfl, ix0, ex0, rx0, ox0⟩ _ rfl _ ⟨x1, rfl, ix1, ex1, rx1, ox1⟩ _ rfl _ ⟨gs, ms, rfl, es, js, bs, ks, rs⟩ _ rfl _ ⟨gu, mu, rfl, eu, ju, bu, ku, ru⟩ _ ⟨B0, rfl, hB0, k0⟩ _ ⟨B1, rfl, hB1, k1⟩ _ ⟨B2, rfl, hB2, k2⟩ _ ⟨B3, rfl, hB3, k3⟩ hap
    simp only [Act.put, List.setIfInBounds_toArray, List.set_cons_succ, List.set_cons_zero, List.drop_succ_cons, List.drop_zero] at hap ⊢
    have e01 : B0 ≠ B1 := hap.apart (x := (8, 11)) (y := (9, 12)) (by decide) (by decide) (by decide) (by show 8 < 12; omega) (by show 9 < 12; omega) rfl rfl
    have e02 : B0 ≠ B2 := hap.apart (x := (8, 11)) (y := (10, 13)) (by decide) (by decide) (by decide) (by show 8 < 12; omega) (by show 10 < 12; omega) rfl rfl
    have e03 : B0 ≠ B3 := hap.apart (x := (8, 11)) (y := (11, 14)) (by decide) (by decide) (by decide) (by show 8 < 12; omega) (by show 11 < 12; omega) rfl rfl
    have e12 : B1 ≠ B2 := hap.apart (x := (9, 12)) (y := (10, 13)) (by decide) (by decide) (by decide) (by show 9 < 12; omega) (by show 10 < 12; omega) rfl rfl
    have e13 : B1 ≠ B3 := hap.apart (x := (9, 12)) (y := (11, 14)) (by decide) (by decide) (by decide) (by show 9 < 12; omega) (by show 11 < 12; omega) rfl rfl
    have e23 : B2 ≠ B3 := hap.apart (x := (10, 13)) (y := (11, 14)) (by decide) (by decide) (by decide) (by show 10 < 12; omega) (by show 11 < 12; omega) rfl rfl
    clear hap a0 b0 c0 d0 a1 b1 c1 d1
    have gw9 : Gr w w9 := gw.trans hg
    have RW0 := Lib.hid (roomy_wide x0 rx0)
    have IX0 := Lib.hid ix0
    have EX0 := Lib.hid ex0
    have RX0 := Lib.hid rx0
    have VX0 := Lib.hid (show x0.val = .agg #[.int .i64 x0.k, .int .i64 x0.n, .string x0.s, .slice x0.p x0.l.length x0.c] from rfl)
    obtain ⟨⟨p0, q0, r0, s0⟩, ⟨f0, g0, h0, j0⟩, _⟩ := k0.parts
    have RW1 := Lib.hid (roomy_wide x1 rx1)
    have IX1 := Lib.hid ix1
    have EX1 := Lib.hid ex1
    have RX1 := Lib.hid rx1
    have VX1 := Lib.hid (show x1.val = .agg #[.int .i64 x1.k, .int .i64 x1.n, .string x1.s, .slice x1.p x1.l.length x1.c] from rfl)
    obtain ⟨⟨p1, q1, r1, s1⟩, ⟨f1, g1, h1, j1⟩, _⟩ := k1.parts
    have p2 := k2.cell 0 (v := .slice none 0 0) rfl
    have f2 := k2.open_ 0
    have p3 := k3.cell 0 (v := .slice none 0 0) rfl
    have f3 := k3.open_ 0
    have BS := Lib.hid (show OwnB gs ms s w9 from ⟨es, js, ks, fun y hy => (rs y hy).2⟩)
    have BU := Lib.hid (show OwnB gu mu u w9 from ⟨eu, ju, ku, fun y hy => (ru y hy).2⟩)
    clear ix0 ex0 rx0 ox0 ix1 ex1 rx1 ox1 es js ks rs eu ju ku ru bs bu
    rw [VX0.out, VX1.out]
    go_upto_region 4 with fail
    obtain ⟨K0, K1, K2, K3, hk⟩ := four_stores k0 k1 k2 k3 e01 e02 e03 e12 e13 e23 (.int .i64 x0.k) (.int .i64 x0.n) (.string x0.s) (.slice x0.p x0.l.length x0.c) (.int .i64 x1.k) (.int .i64 x1.n) (.string x1.s) (.slice x1.p x1.l.length x1.c) (.slice (some ⟨gs, 0, none⟩) ms.length (ms.length + 3)) (.slice (some ⟨gu, 0, none⟩) mu.length (mu.length + 3)) _ rfl
    have hkl : Hid (∀ b, (b = B0 ∨ b = B1 ∨ b = B2 ∨ b = B3) → w.heap.size ≤ b) := fun b hb => by have := gw.size; rcases hb with rfl | rfl | rfl | rfl <;> omega
    have hkw : Hid (∀ b, (∃ j u, 4 ≤ j ∧ w9.cell? ⟨b, j, none⟩ = some u) → ¬ (b = B0 ∨ b = B1 ∨ b = B2 ∨ b = B3)) := fun b hb h => h.elim (fun e => blk4_wide k0 (e ▸ hb)) fun h => h.elim (fun e => blk4_wide k1 (e ▸ hb)) fun h => h.elim (fun e => box_wide k2 (e ▸ hb)) fun e => box_wide k3 (e ▸ hb)
    generalize ((((((((((w9.setCell ⟨B0, 0, none⟩ (.int .i64 x0.k)).setCell ⟨B0, 1, none⟩ (.int .i64 x0.n)).setCell ⟨B0, 2, none⟩ (.string x0.s)).setCell ⟨B0, 3, none⟩ (.slice x0.p x0.l.length x0.c)).setCell ⟨B1, 0, none⟩ (.int .i64 x1.k)).setCell ⟨B1, 1, none⟩ (.int .i64 x1.n)).setCell ⟨B1, 2, none⟩ (.string x1.s)).setCell ⟨B1, 3, none⟩ (.slice x1.p x1.l.length x1.c)).setCell ⟨B2, 0, none⟩ (.slice (some ⟨gs, 0, none⟩) ms.length (ms.length + 3))).setCell ⟨B3, 0, none⟩ (.slice (some ⟨gu, 0, none⟩) mu.length (mu.length + 3))) = wB at *
    clear p0 q0 r0 s0 f0 g0 h0 j0 p1 q1 r1 s1 f1 g1 h1 j1 p2 f2 p3 f3
    have gwB : Gr w wB := Below.trans gw9 (hk.below hkl.out gw9.size)
    replace RX0 := Lib.hid (roomy_kp RX0.out IX0.out RW0.out hkw.out hk)
    replace IX0 := Lib.hid (kp_in IX0.out RW0.out hkw.out hk)
    replace HT0 := Lib.hid ((HT0.out.gr hg).kp hk (by rintro (h | h | h | h) <;> have := hBl1.out <;> omega))
    replace HI0 := Lib.hid (kp_in (Tm.In_below hg HI0.out) HI0.out.on (fun b hb h => by rcases h with rfl | rfl | rfl | rfl <;> (have : _ < w1.heap.size := hb; omega)) hk)
    replace RX1 := Lib.hid (roomy_kp RX1.out IX1.out RW1.out hkw.out hk)
    replace IX1 := Lib.hid (kp_in IX1.out RW1.out hkw.out hk)
    replace HT1 := Lib.hid ((HT1.out.gr hg).kp hk (by rintro (h | h | h | h) <;> have := hBl1.out <;> omega))
    replace HI1 := Lib.hid (kp_in (Tm.In_below hg HI1.out) HI1.out.on (fun b hb h => by rcases h with rfl | rfl | rfl | rfl <;> (have : _ < w1.heap.size := hb; omega)) hk)
    have HK0 := Lib.hid K0
    have HK1 := Lib.hid K1
    have HK2 := Lib.hid K2
    have HK3 := Lib.hid K3
    replace BS := Lib.hid (BS.out.kp hkw.out hk)
    replace BU := Lib.hid (BU.out.kp hkw.out hk)
    have kg : ∀ (C : Nat → Prop), True := fun _ => trivial
    replace HL : Hid (IntSl wB pl cl L) := by
      obtain ⟨l1, l2, l3, l4⟩ := HL.out.mono hg
      refine ⟨l1, l2, l3, l4.imp id ?_⟩
      rintro ⟨b, o, rfl, hb, hc⟩
      have hb1 : L = [] ∨ b < w1.heap.size := by
        rcases HL.out.2.2.2 with h | ⟨b2, o2, h, h2, _⟩
        · exact .inl h
        · cases h; exact .inr h2
      refine ⟨b, o, rfl, Nat.lt_of_lt_of_le hb hk.size, fun i n hn => ?_⟩
      rcases hb1 with rfl | hb1
      · simp at hn
      · exact hk.cell (hc i n hn) (by rintro (h | h | h | h) <;> (have h : b = _ := h; omega))
    have HIn := Lib.hid HL.out.2.2.1
    replace HS : Hid ((Bds.mk ps cs s).In wB) := by
      obtain ⟨l1, l2, l3, l4⟩ := HS.out.mono hg
      refine ⟨l1, l2, l3.imp id ?_, fun y hy => ⟨kp_in (l4 y hy).1 (HS.out.2.2.2 y hy).1.on (fun b hb h => by rcases h with rfl | rfl | rfl | rfl <;> (have : _ < w1.heap.size := hb; omega)) hk, (l4 y hy).2⟩⟩
      rintro ⟨b, o, hp, hrow⟩
      have hb1 : s = [] ∨ b < w1.heap.size := by
        rcases HS.out.2.2.1 with h | ⟨b2, o2, h, h2⟩
        · exact .inl h
        · by_cases hl : s = []
          · exact .inl hl
          · have h3 := hp.symm.trans h; cases h3; exact .inr (Bd.row_lt h2 hl)
      refine ⟨b, o, hp, fun i x hx => ?_⟩
      rcases hb1 with rfl | hb1
      · simp at hx
      · obtain ⟨m0, m1, m2, m3, m4⟩ := hrow i x hx
        have hn : ¬ (b = B0 ∨ b = B1 ∨ b = B2 ∨ b = B3) := by rintro (h | h | h | h) <;> omega
        exact ⟨hk.cell m0 hn, hk.cell m1 hn, hk.cell m2 hn, hk.cell m3 hn, hk.cell m4 hn⟩
    replace HU : Hid ((Bds.mk pu cu u).In wB) := by
      obtain ⟨l1, l2, l3, l4⟩ := HU.out.mono hg
      refine ⟨l1, l2, l3.imp id ?_, fun y hy => ⟨kp_in (l4 y hy).1 (HU.out.2.2.2 y hy).1.on (fun b hb h => by rcases h with rfl | rfl | rfl | rfl <;> (have : _ < w1.heap.size := hb; omega)) hk, (l4 y hy).2⟩⟩
      rintro ⟨b, o, hp, hrow⟩
      have hb1 : u = [] ∨ b < w1.heap.size := by
        rcases HU.out.2.2.1 with h | ⟨b2, o2, h, h2⟩
        · exact .inl h
        · by_cases hl : u = []
          · exact .inl hl
          · have h3 := hp.symm.trans h; cases h3; exact .inr (Bd.row_lt h2 hl)
      refine ⟨b, o, hp, fun i x hx => ?_⟩
      rcases hb1 with rfl | hb1
      · simp at hx
      · obtain ⟨m0, m1, m2, m3, m4⟩ := hrow i x hx
        have hn : ¬ (b = B0 ∨ b = B1 ∨ b = B2 ∨ b = B3) := by rintro (h | h | h | h) <;> omega
        exact ⟨hk.cell m0 hn, hk.cell m1 hn, hk.cell m2 hn, hk.cell m3 hn, hk.cell m4 hn⟩
    have HW := Lib.hid gwB
    clear kg k0 k1 k2 k3 K0 K1 K2 K3 e01 e02 e03 e12 e13 e23 hk gw9 hg hB0 hB1 hB2 hB3 gwB hkw hkl RW0 RW1
    go_upto_region 5 with (first
      | (go_at_call 35; refine (roomyI_calls pl cl L (-7) _ HL.out HZ.out.2.2.2).mono ?_; rintro e wC ⟨gL, rfl, hgs, hgb, hb⟩; have GC := Lib.hid hb; have HGb := Lib.hid hgb; clear hgs hgb hb)
      | fail)
    have hN := BlkT.new wC 55 #[.slice (some ⟨gL, 0, none⟩) L.length (L.length + 3)]
    have gN : Gr wC (wC.alloc (.cells #[.slice (some ⟨gL, 0, none⟩) L.length (L.length + 3)] 55)) := by go_grown
    generalize wC.alloc (.cells #[.slice (some ⟨gL, 0, none⟩) L.length (L.length + 3)] 55) = wD at *
    generalize wC.heap.size = BL at *
    have G := Lib.hid (Gr.trans GC.out gN)
    have HK4 := Lib.hid hN
    have HLg := Lib.hid (HGb.out.gr gN)
    have HIL := Lib.hid (fun (W : World) (h : Gr wD W) => own_ints (HLg.out.gr h) HIn.out (L.length + 3) (by omega) (by have := HZ.out.2.2.2; omega))
    clear hN gN
    replace BS := Lib.hid (BS.out.gr G.out)
    replace BU := Lib.hid (BU.out.gr G.out)
    replace RX0 := Lib.hid (RX0.out.gr IX0.out G.out)
    replace IX0 := Lib.hid (Tm.In_below G.out IX0.out)
    replace HI0 := Lib.hid (Tm.In_below G.out HI0.out)
    replace HT0 := Lib.hid (HT0.out.gr G.out)
    replace RX1 := Lib.hid (RX1.out.gr IX1.out G.out)
    replace IX1 := Lib.hid (Tm.In_below G.out IX1.out)
    replace HI1 := Lib.hid (Tm.In_below G.out HI1.out)
    replace HT1 := Lib.hid (HT1.out.gr G.out)
    replace HK0 := Lib.hid (HK0.out.gr G.out)
    replace HK1 := Lib.hid (HK1.out.gr G.out)
    replace HK2 := Lib.hid (HK2.out.gr G.out)
    replace HK3 := Lib.hid (HK3.out.gr G.out)
    replace HS := Lib.hid (HS.out.mono G.out)
    replace HU := Lib.hid (HU.out.mono G.out)
    replace HW := Lib.hid (Gr.trans HW.out G.out)
    have GW := Lib.hid (Gr.rfl' wD)
    clear G GC HGb
    obtain ⟨U6, hU6⟩ := comp_uniq x0.erase ms mu
    have HU6 := Lib.hid hU6
    clear hU6
    have m0 : MakesNew (.func (.func 37) #[] #[.pointer (some ⟨B0, 0, none⟩)]) (renAns x0.erase 3) wD := ⟨_, _, rfl, fun W => by kernel_rfl, fun W hW => by have g := GW.out.trans hW; exact tm1_calls x0 B0 W (Tm.In_below g IX0.out) (HK0.out.gr g)⟩
    have M0 := Lib.hid m0
    clear m0
    go_upto_region 6 with (first
      | (go_at_call 36; refine (twice_calls _ _ _ M0.out).mono ?_; rintro e wE0 ⟨rfl, hb⟩; replace GW := Lib.hid (Gr.trans GW.out hb); clear hb M0)
      | fail)
    have m1 : MakesNew (.func (.func 39) #[] #[.pointer (some ⟨B0, 0, none⟩), .pointer (some ⟨B2, 0, none⟩)]) (apAns x0.erase ms) wE0 := ⟨_, _, rfl, fun W => by kernel_rfl, fun W hW => by have g := GW.out.trans hW; exact tm2_calls x0 B0 _ _ ms B2 W (Tm.In_below g IX0.out) (HK0.out.gr g) (BS.out.2.1.mono g) (HK2.out.gr g)⟩
    have M1 := Lib.hid m1
    clear m1
    go_upto_region 7 with (first
      | (go_at_call 36; refine (twice_calls _ _ _ M1.out).mono ?_; rintro e wE1 ⟨rfl, hb⟩; replace GW := Lib.hid (Gr.trans GW.out hb); clear hb M1)
      | fail)
    have m2 : MakesNew (.func (.func 41) #[] #[.pointer (some ⟨B0, 0, none⟩), .pointer (some ⟨B1, 0, none⟩)]) (genAns x0.erase x1.erase) wE1 := ⟨_, _, rfl, fun W => by kernel_rfl, fun W hW => by have g := GW.out.trans hW; exact tm3_calls x0 B0 x1 B1 W (Tm.In_below g IX0.out) (HK0.out.gr g) (Tm.In_below g IX1.out) (HK1.out.gr g) (by rw [EX0.out]; exact HZ.out.1)⟩
    have M2 := Lib.hid m2
    clear m2
    go_upto_region 8 with (first
      | (go_at_call 36; refine (twice_calls _ _ _ M2.out).mono ?_; rintro e wE2 ⟨rfl, hb⟩; replace GW := Lib.hid (Gr.trans GW.out hb); clear hb M2)
      | fail)
    have m3 : MakesNew (.func (.func 42) #[] #[.pointer (some ⟨B0, 0, none⟩), .pointer (some ⟨BL, 0, none⟩)]) (atAns x0.erase L) wE2 := ⟨_, _, rfl, fun W => by kernel_rfl, fun W hW => by have g := GW.out.trans hW; exact tm4_calls x0 B0 _ _ L BL W (Tm.In_below g IX0.out) (HK0.out.gr g) (HIL.out W g) (HK4.out.gr g)⟩
    have M3 := Lib.hid m3
    clear m3
    go_upto_region 9 with (first
      | (go_at_call 36; refine (twice_calls _ _ _ M3.out).mono ?_; rintro e wE3 ⟨rfl, hb⟩; replace GW := Lib.hid (Gr.trans GW.out hb); clear hb M3)
      | fail)
    have m4 : MakesNew (.func (.func 44) #[] #[.pointer (some ⟨B0, 0, none⟩), .pointer (some ⟨BL, 0, none⟩), .pointer (some ⟨B1, 0, none⟩)]) (putAns x0.erase L x1.erase) wE3 := ⟨_, _, rfl, fun W => by kernel_rfl, fun W hW => by have g := GW.out.trans hW; exact tm5_calls x0 B0 _ _ L BL x1 B1 W (Tm.In_below g IX0.out) (HK0.out.gr g) (HIL.out W g) (HK4.out.gr g) (Tm.In_below g IX1.out) (HK1.out.gr g)⟩
    have M4 := Lib.hid m4
    clear m4
    go_upto_region 10 with (first
      | (go_at_call 36; refine (twice_calls _ _ _ M4.out).mono ?_; rintro e wE4 ⟨rfl, hb⟩; replace GW := Lib.hid (Gr.trans GW.out hb); clear hb M4)
      | fail)
    have m5 : MakesNew (.func (.func 46) #[] #[.pointer (some ⟨B0, 0, none⟩), .pointer (some ⟨B2, 0, none⟩), .pointer (some ⟨B3, 0, none⟩)]) (U6) wE4 := ⟨_, _, rfl, fun W => by kernel_rfl, fun W hW => by have g := GW.out.trans hW; exact tm6_calls x0 B0 _ _ ms B2 _ _ mu B3 W (Tm.In_below g IX0.out) (HK0.out.gr g) (BS.out.2.1.mono g) (HK2.out.gr g) (BU.out.2.1.mono g) (HK3.out.gr g) U6 HU6.out⟩
    have M5 := Lib.hid m5
    clear m5
    go_upto_region 11 with (first
      | (go_at_call 36; refine (twice_calls _ _ _ M5.out).mono ?_; rintro e wE5 ⟨rfl, hb⟩; replace GW := Lib.hid (Gr.trans GW.out hb); clear hb M5)
      | fail)
    obtain ⟨⟨p0, q0, r0, s0⟩, _, _⟩ := (HK0.out.gr GW.out).parts
    go_upto_region 12 with (first
      | (go_at_call 48; rewrite [← VX0.out]; refine (varsM_calls x0 _ (Tm.In_below GW.out IX0.out)).mono ?_; rintro e wF ⟨pv, cv, V, rfl, hvi, hg, hvo, hV⟩; have HVO := Lib.hid (And.intro hvo hV); have GF := Lib.hid hg; clear hvi hg hvo hV p0 q0 r0 s0)
      | fail)
    have hvn : V.length ≤ 1048577 := by
      have h1 := HVO.out.2
      have h2 := varsL_len [x0.erase] []
      have h3 := HZ.out.1
      rw [← EX0.out] at h3
      rw [T.szL, T.szL] at h2
      rw [h1]
      split
      · simp only [List.length_nil] at h2; omega
      · simp
    have Hsp := Lib.hid (fun W (g : Gr wF W) => spoilI_calls (-7) (ownsRow_gr HVO.out.1 g) hvn)
    have HVB := Lib.hid HVO.out.1.lt
    clear hvn HVO
    go_upto_region 13 with (first
      | (go_at_call 19; refine (Hsp.out _ (Gr.rfl' _)).mono ?_; rintro e wG ⟨rfl, hk, _⟩; have GG := Lib.hid (Below.trans GF.out (hk.below (B := wE5.heap.size) (fun b hb => (HVB.out b hb).1) GF.out.size)); replace GW := Lib.hid (Gr.trans GW.out GG.out); clear hk Hsp HVB GF GG)
      | fail)
    obtain ⟨⟨p0, q0, r0, s0⟩, _, _⟩ := (HK0.out.gr GW.out).parts
    obtain ⟨⟨p1, q1, r1, s1⟩, _, _⟩ := (HK1.out.gr GW.out).parts
    go_upto_region 14 with (first
      | (go_at_call 28; rewrite [← VX0.out, ← VX1.out]; refine (tmatchM_calls x0 x1 _ (Tm.In_below GW.out IX0.out) (Tm.In_below GW.out IX1.out)).mono ?_; rintro e wH ⟨pm, cm, lm, bm, km, rfl, hmi, hmm, hg, hmb⟩; have Hsp := Lib.hid (spoilBinds_calls pm cm lm wG.heap.size wH hmi hmb hmm); have GF := Lib.hid hg; clear hmi hmm hg hmb p0 q0 r0 s0 p1 q1 r1 s1)
      | fail)
    go_upto_region 15 with (first
      | (go_at_call 22; refine Hsp.out.mono ?_; rintro e wI ⟨rfl, hk⟩; have GG := Lib.hid (Below.trans GF.out (hk.below (B := wG.heap.size) (fun b hb => hb) GF.out.size)); replace GW := Lib.hid (Gr.trans GW.out GG.out); clear hk Hsp GF GG)
      | fail)
    have hz := HZ.out.2.2.2
    have m4 := (HK4.out.gr GW.out).cell 0 (v := .slice (some ⟨gL, 0, none⟩) L.length (L.length + 3)) rfl
    have m2 := (HK2.out.gr GW.out).cell 0 (v := .slice (some ⟨gs, 0, none⟩) ms.length (ms.length + 3)) rfl
    have m3 := (HK3.out.gr GW.out).cell 0 (v := .slice (some ⟨gu, 0, none⟩) mu.length (mu.length + 3)) rfl
    have ml := (HLg.out.gr GW.out).cell L.length (v := .int .i64 (-7)) (by rw [ints, List.getElem?_toArray, List.getElem?_map, List.getElem?_append_right (Nat.le_refl _), Nat.sub_self]; rfl)
    obtain ⟨⟨p0, q0, r0, s0⟩, _, _⟩ := (HK0.out.gr GW.out).parts
    obtain ⟨⟨p1, q1, r1, s1⟩, _, _⟩ := (HK1.out.gr GW.out).parts
    obtain ⟨⟨a0, b0, c0, d0⟩, _, _⟩ := (HT0.out.gr GW.out).parts
    obtain ⟨⟨a1, b1, c1, d1⟩, _, _⟩ := (HT1.out.gr GW.out).parts

    refine wp_region_rely [fx (.bool true), fx (.bool true), fx (.agg #[.int .i64 x0.k, .int .i64 x0.n, .string x0.s, .slice x0.p x0.l.length x0.c]), fx (.agg #[.int .i64 t0.k, .int .i64 t0.n, .string t0.s, .slice t0.p t0.l.length t0.c]), fx (.bool true), fx (.bool true), fx (.bool true), fx (.agg #[.int .i64 x1.k, .int .i64 x1.n, .string x1.s, .slice x1.p x1.l.length x1.c]), fx (.agg #[.int .i64 t1.k, .int .i64 t1.n, .string t1.s, .slice t1.p t1.l.length t1.c]), fx (.bool true), fx (.bool true), fx (.bool true), fx (.slice (some ⟨gs, 0, none⟩) ms.length (ms.length + 3)), fx (.slice ps s.length cs), fx (.bool true), fx (.bool true), fx (.bool true), fx (.slice (some ⟨gu, 0, none⟩) mu.length (mu.length + 3)), fx (.slice pu u.length cu), fx (.bool true), fx (.bool true), fx (.bool true), fx (.slice (some ⟨gL, 0, none⟩) L.length (L.length + 3)), fx (.slice (some ⟨gL, 0, none⟩) L.length (L.length + 3)), fx (.int .i64 L.length), fx (.int .i64 (L.length + 1)), fx (.slice (some ⟨gL, 0, none⟩) (L.length + 1) (L.length + 3)), fx (.slice (some ⟨gL, 0, none⟩) L.length (L.length + 3)), fx (.int .i64 L.length), fx (.pointer (some ⟨gL, L.length, none⟩)), fx (.int .i64 (-7)), fx (.bool true), fx (.bool true), fx (.bool true)]
      (by kernel_rfl) (by kernel_rfl) (by repeat (first | exact Stable.nil | refine Stable.fix ?_)) ?_ ?_
    · refine ⟨?_, ?_, ?_, ?_, ?a4, ?_, ?_, ?_, ?_, ?a9, ?_, ?_, ?_, ?_, ?a14, ?_, ?_, ?_, ?_, ?a19, ?_, ?_, ?_, ?_, ?_, ?a25, ?_, ?_, ?_, ?a29, ?_, ?_, ?_, ?_, trivial⟩
      all_goals
        intro a ww hg hold
        have h5 : a.tmps[5]?.getD undef = .pointer (some ⟨w.heap.size, 0, none⟩) := hold 5 rfl
        have h6 : a.tmps[6]?.getD undef = .pointer (some ⟨w.heap.size + 1, 0, none⟩) := hold 6 rfl
        have h11 : a.tmps[11]?.getD undef = .pointer (some ⟨B0, 0, none⟩) := hold 11 rfl
        have h12 : a.tmps[12]?.getD undef = .pointer (some ⟨B1, 0, none⟩) := hold 12 rfl
        have h13 : a.tmps[13]?.getD undef = .pointer (some ⟨B2, 0, none⟩) := hold 13 rfl
        have h14 : a.tmps[14]?.getD undef = .pointer (some ⟨B3, 0, none⟩) := hold 14 rfl
        have h15 : a.tmps[15]?.getD undef = .pointer (some ⟨BL, 0, none⟩) := hold 15 rfl
        have h2 : a.tmps[2]?.getD undef = .slice ps s.length cs := hold 2 rfl
        have h3 : a.tmps[3]?.getD undef = .slice pu u.length cu := hold 3 rfl
        have h16 : a.tmps[16]?.getD undef = .bool true := hold 16 rfl
        have m2' := Gr.at hg m2
        have m3' := Gr.at hg m3
        have m4' := Gr.at hg m4
        have ml' := Gr.at hg ml
        have p0' := Gr.at hg p0
        have q0' := Gr.at hg q0
        have r0' := Gr.at hg r0
        have s0' := Gr.at hg s0
        have a0' := Gr.at hg a0
        have b0' := Gr.at hg b0
        have c0' := Gr.at hg c0
        have d0' := Gr.at hg d0
        have p1' := Gr.at hg p1
        have q1' := Gr.at hg q1
        have r1' := Gr.at hg r1
        have s1' := Gr.at hg s1
        have a1' := Gr.at hg a1
        have b1' := Gr.at hg b1
        have c1' := Gr.at hg c1
        have d1' := Gr.at hg d1
        have Hg := Lib.hid (Gr.trans GW.out hg)
        clear hold m2 m3 m4 ml p0 q0 r0 s0 a0 b0 c0 d0 p1 q1 r1 s1 a1 b1 c1 d1
        simp [predsImp, Region.binds, dstAt, fx, wantedE, Act.eval]
        intros
        first
          | (rw [if_pos (by simp [*])]
             intro K hK)
          | (rename_i K hK)
        go_simp
      case a4 =>
        rewrite [← VX0.out, ← HV0.out]
        refine (still_calls (Tm.In_below Hg.out IX0.out) (Tm.In_below Hg.out HI0.out) EX0.out (RX0.out.gr IX0.out Hg.out)).mono ?_
        rintro e w10 ⟨rfl, hg2⟩
        exact hK _ _ rfl hg2
      case a9 =>
        rewrite [← VX1.out, ← HV1.out]
        refine (still_calls (Tm.In_below Hg.out IX1.out) (Tm.In_below Hg.out HI1.out) EX1.out (RX1.out.gr IX1.out Hg.out)).mono ?_
        rintro e w10 ⟨rfl, hg2⟩
        exact hK _ _ rfl hg2
      case a14 =>
        refine (stillBinds_calls _ 0 _ _ _ _ _ _ (BS.out.gr Hg.out).2.1 (by omega) (BS.out.gr Hg.out).mark (HS.out.mono Hg.out) BS.out.1 (BS.out.gr Hg.out).2.2.2).mono ?_
        rintro e w10 ⟨rfl, hg2⟩
        exact hK _ _ rfl hg2
      case a19 =>
        refine (stillBinds_calls _ 0 _ _ _ _ _ _ (BU.out.gr Hg.out).2.1 (by omega) (BU.out.gr Hg.out).mark (HU.out.mono Hg.out) BU.out.1 (BU.out.gr Hg.out).2.2.2).mono ?_
        rintro e w10 ⟨rfl, hg2⟩
        exact hK _ _ rfl hg2
      case a25 =>
        exact hK _ _ (congrArg (Value.int .i64) (IntWalk.i64_in _ ⟨by omega, by omega⟩)) (Gr.rfl' _)
      case a29 =>
        rw [if_pos (by omega)]
        go_simp
        exact hK _ _ rfl (Gr.rfl' _)
      all_goals exact hK _ _ rfl (Gr.rfl' _)
    · intro w9 hg
      rintro _ rfl _ rfl _ rfl _ rfl _ rfl _ rfl _ rfl _ rfl _ rfl _ rfl _ rfl _ rfl _ rfl _ rfl _ rfl _ rfl _ rfl _ rfl _ rfl _ rfl _ rfl _ rfl _ rfl _ rfl _ rfl _ rfl _ rfl _ rfl _ rfl _ rfl _ rfl _ rfl _ rfl _ rfl
      simp only [finAll, Act.put, List.setIfInBounds_toArray, List.set_cons_succ, List.set_cons_zero]
      clear m2 m3 m4 ml p0 q0 r0 s0 a0 b0 c0 d0 p1 q1 r1 s1 a1 b1 c1 d1
      go_wp2_with fail
      exact hR.out _ rfl _ (Gr.trans HW.out (Gr.trans GW.out hg))
end Go.Proofs.Ythncdmijledpnaa
