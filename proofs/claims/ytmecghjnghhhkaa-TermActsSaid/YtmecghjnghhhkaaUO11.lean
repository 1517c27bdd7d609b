/-
  base.Make: what it makes, blocks of clauses
  base.plain
  Maps that a program keeps: what they hold.
  Blocks of any type; base.New, base.of, base.copied.
-/
import Derived.Test.YtmecghjnghhhkaaUO09
import Derived.Test.YtmecghjnghhhkaaUO10
import Derived.Deep.RegionWith
import Derived.BigRegion
import Derived.Test.YtmecghjnghhhkaaUO08
import Derived.Test.YtmecghjnghhhkaaUO02
import Derived.Maps.OwnOps
import Derived.Maps.Views
import Derived.WideKeyEntry
import Derived.DeepKeys4
import Derived.Test.YtmecghjnghhhkaaUO03
namespace Go.Proofs.Ytmecghjnghhhkaa
open Go.RowKit

/-- A clause's value. -/
def clVal (h b : Tm) : Value := .agg #[.int .i64 h.k, .int .i64 h.n, .string h.s, .slice h.p h.l.length h.c, .int .i64 b.k, .int .i64 b.n, .string b.s, .slice b.p b.l.length b.c]

/-- A clause is handed back, and an error's number. -/
def RetCE (r : (T × T) × Int) (w : World) (e : Ending) (w' : World) : Prop := ∃ hm bm : Tm, e = .returned (.tuple #[clVal hm bm, .int .i64 r.2]) ∧ hm.In w' ∧ bm.In w' ∧ (hm.erase, bm.erase) = r.1 ∧ Gr w w'

def makeAns (t : T) : (T × T) × Int := if t.formed then (match T.make reserved t with
  | some x => (x, 0)
  | none => ((zeroT, zeroT), 7)) else ((zeroT, zeroT), 2)

/-- A block of eight cells: a clause. -/
def Blk8 (w : World) (b : Nat) (v0 v1 v2 v3 v4 v5 v6 v7 : Value) : Prop := w.heap[b]? = some (.cells #[v0, v1, v2, v3, v4, v5, v6, v7] 92)

theorem Blk8.gr {w w' : World} {b : Nat} {v0 v1 v2 v3 v4 v5 v6 v7 : Value} (h : Blk8 w b v0 v1 v2 v3 v4 v5 v6 v7) (hg : Gr w w') : Blk8 w' b v0 v1 v2 v3 v4 v5 v6 v7 :=
  (hg.block b (Array.getElem?_eq_some_iff.1 h).1).trans h
theorem Blk8.lt {w : World} {b : Nat} {v0 v1 v2 v3 v4 v5 v6 v7 : Value} (h : Blk8 w b v0 v1 v2 v3 v4 v5 v6 v7) : b < w.heap.size := (Array.getElem?_eq_some_iff.1 h).1
theorem Blk8.cells {w : World} {b : Nat} {v0 v1 v2 v3 v4 v5 v6 v7 : Value} (h : Blk8 w b v0 v1 v2 v3 v4 v5 v6 v7) : w.cell? ⟨b, 0, none⟩ = some v0 ∧ w.cell? ⟨b, 1, none⟩ = some v1 ∧ w.cell? ⟨b, 2, none⟩ = some v2 ∧ w.cell? ⟨b, 3, none⟩ = some v3 ∧
    w.cell? ⟨b, 4, none⟩ = some v4 ∧ w.cell? ⟨b, 5, none⟩ = some v5 ∧ w.cell? ⟨b, 6, none⟩ = some v6 ∧ w.cell? ⟨b, 7, none⟩ = some v7 :=
  ⟨cell_of_row w b 0 _ _ _ h, cell_of_row w b 1 _ _ _ h, cell_of_row w b 2 _ _ _ h, cell_of_row w b 3 _ _ _ h, cell_of_row w b 4 _ _ _ h, cell_of_row w b 5 _ _ _ h, cell_of_row w b 6 _ _ _ h, cell_of_row w b 7 _ _ _ h⟩
theorem Blk8.open_ {w : World} {b : Nat} {v0 v1 v2 v3 v4 v5 v6 v7 : Value} (h : Blk8 w b v0 v1 v2 v3 v4 v5 v6 v7) : w.frozen? ⟨b, 0, none⟩ = false ∧ w.frozen? ⟨b, 1, none⟩ = false ∧ w.frozen? ⟨b, 2, none⟩ = false ∧ w.frozen? ⟨b, 3, none⟩ = false ∧
    w.frozen? ⟨b, 4, none⟩ = false ∧ w.frozen? ⟨b, 5, none⟩ = false ∧ w.frozen? ⟨b, 6, none⟩ = false ∧ w.frozen? ⟨b, 7, none⟩ = false :=
  ⟨frozen_of_row w b 0 _ _ h, frozen_of_row w b 1 _ _ h, frozen_of_row w b 2 _ _ h, frozen_of_row w b 3 _ _ h, frozen_of_row w b 4 _ _ h, frozen_of_row w b 5 _ _ h, frozen_of_row w b 6 _ _ h, frozen_of_row w b 7 _ _ h⟩

theorem blocks48 (w : World) (v0 v1 v2 v3 u0 u1 u2 u3 u4 u5 u6 u7 : Value) :
    Hid (Blk4 ((w.alloc (.cells #[v0, v1, v2, v3] 27)).alloc (.cells #[u0, u1, u2, u3, u4, u5, u6, u7] 92)) w.heap.size v0 v1 v2 v3) ∧
    Hid (Blk8 ((w.alloc (.cells #[v0, v1, v2, v3] 27)).alloc (.cells #[u0, u1, u2, u3, u4, u5, u6, u7] 92)) (w.heap.size + 1) u0 u1 u2 u3 u4 u5 u6 u7) ∧
    Gr w ((w.alloc (.cells #[v0, v1, v2, v3] 27)).alloc (.cells #[u0, u1, u2, u3, u4, u5, u6, u7] 92)) := by
  have h1 : Blk8 ((w.alloc (.cells #[v0, v1, v2, v3] 27)).alloc (.cells #[u0, u1, u2, u3, u4, u5, u6, u7] 92)) (w.alloc (.cells #[v0, v1, v2, v3] 27)).heap.size u0 u1 u2 u3 u4 u5 u6 u7 := heap_alloc_new _ _
  rw [World.size_alloc] at h1
  exact ⟨Blk4.old (Blk4.new w _ _ _ _) _, h1, by go_grown⟩

theorem atomA_exact (s : ByteArray) (w : World) : Calls Try.prog 120 #[.string s] w fun e w' => e = .returned (.agg #[.int .i64 3, .int .i64 0, .string s, .slice none 0 0]) ∧ w' = w.alloc (.cells #[.int .i64 3, .int .i64 0, .string s, .slice none 0 0] 27) := by
  go_enter Try.func120, Try.ntmps120
  go_wp2_with fail
  exact bodyPost_ret (v := .agg #[.int .i64 3, .int .i64 0, .string s, .slice none 0 0]) (by simp [results, Try.results120, go_sem]) rfl ⟨rfl, rfl⟩

theorem Blk4.set4 {w : World} {b : Nat} {v0 v1 v2 v3 : Value} (h : Blk4 w b v0 v1 v2 v3) (u0 u1 u2 u3 : Value) : Blk4 ((((w.setCell ⟨b, 0, none⟩ u0).setCell ⟨b, 1, none⟩ u1).setCell ⟨b, 2, none⟩ u2).setCell ⟨b, 3, none⟩ u3) b u0 u1 u2 u3 := by
  have h1 := heap_setCell_same _ b 0 _ _ u0 h
  have h2 := heap_setCell_same _ b 1 _ _ u1 h1
  have h3 := heap_setCell_same _ b 2 _ _ u2 h2
  have h4 := heap_setCell_same _ b 3 _ _ u3 h3
  exact h4

theorem Blk8.kp {C : Nat → Prop} {w w' : World} {b : Nat} {v0 v1 v2 v3 v4 v5 v6 v7 : Value} (h : Blk8 w b v0 v1 v2 v3 v4 v5 v6 v7) (hg : Kp C w w') (hb : ¬ C b) : Blk8 w' b v0 v1 v2 v3 v4 v5 v6 v7 :=
  (hg.block b (Array.getElem?_eq_some_iff.1 h).1 hb).trans h

theorem kp_drew {C : Nat → Prop} {w w' : World} (h : Kp C w w') : Kp C w w'.drew := ⟨h.os, h.tape, h.output, h.size, h.block⟩
theorem kp_set8 {C : Nat → Prop} {W : World} {R o0 o1 o2 o3 o4 o5 o6 o7 : Nat} {a0 a1 a2 a3 a4 a5 a6 a7 : Value} (hC : C R) :
    Kp C W ((((((((W.setCell ⟨R, o0, none⟩ a0).setCell ⟨R, o1, none⟩ a1).setCell ⟨R, o2, none⟩ a2).setCell ⟨R, o3, none⟩ a3).setCell ⟨R, o4, none⟩ a4).setCell ⟨R, o5, none⟩ a5).setCell ⟨R, o6, none⟩ a6).setCell ⟨R, o7, none⟩ a7).drew :=
  kp_drew ((Kp.set4 hC).trans (Kp.set4 hC))

theorem set44 {w : World} {b4 b5 : Nat} {v0 v1 v2 v3 v4 v5 v6 v7 : Value} (h4 : Blk4 w b4 v0 v1 v2 v3) (h5 : Blk4 w b5 v4 v5 v6 v7) (hne : b4 ≠ b5) (u0 u1 u2 u3 u4 u5 u6 u7 : Value) :
    Blk4 ((((((((w.setCell ⟨b4, 0, none⟩ u0).setCell ⟨b4, 1, none⟩ u1).setCell ⟨b4, 2, none⟩ u2).setCell ⟨b4, 3, none⟩ u3).setCell ⟨b5, 0, none⟩ u4).setCell ⟨b5, 1, none⟩ u5).setCell ⟨b5, 2, none⟩ u6).setCell ⟨b5, 3, none⟩ u7).drew b4 u0 u1 u2 u3 ∧
    Blk4 ((((((((w.setCell ⟨b4, 0, none⟩ u0).setCell ⟨b4, 1, none⟩ u1).setCell ⟨b4, 2, none⟩ u2).setCell ⟨b4, 3, none⟩ u3).setCell ⟨b5, 0, none⟩ u4).setCell ⟨b5, 1, none⟩ u5).setCell ⟨b5, 2, none⟩ u6).setCell ⟨b5, 3, none⟩ u7).drew b5 u4 u5 u6 u7 ∧
    Kp (fun b => b = b4 ∨ b = b5) w ((((((((w.setCell ⟨b4, 0, none⟩ u0).setCell ⟨b4, 1, none⟩ u1).setCell ⟨b4, 2, none⟩ u2).setCell ⟨b4, 3, none⟩ u3).setCell ⟨b5, 0, none⟩ u4).setCell ⟨b5, 1, none⟩ u5).setCell ⟨b5, 2, none⟩ u6).setCell ⟨b5, 3, none⟩ u7).drew := by
  have k1 : Kp (fun b => b = b4) w ((((w.setCell ⟨b4, 0, none⟩ u0).setCell ⟨b4, 1, none⟩ u1).setCell ⟨b4, 2, none⟩ u2).setCell ⟨b4, 3, none⟩ u3) := Kp.set4 rfl
  have hb4 := h4.set4 u0 u1 u2 u3
  have hb5 := h5.kp k1 (Ne.symm hne)
  generalize (((w.setCell ⟨b4, 0, none⟩ u0).setCell ⟨b4, 1, none⟩ u1).setCell ⟨b4, 2, none⟩ u2).setCell ⟨b4, 3, none⟩ u3 = w1 at *
  have k2 : Kp (fun b => b = b5) w1 ((((w1.setCell ⟨b5, 0, none⟩ u4).setCell ⟨b5, 1, none⟩ u5).setCell ⟨b5, 2, none⟩ u6).setCell ⟨b5, 3, none⟩ u7) := Kp.set4 rfl
  exact ⟨Blk4.kp (C := fun b => b = b5) hb4 (kp_drew k2) hne, Blk4.kp (C := fun _ => False) (hb5.set4 u4 u5 u6 u7) (kp_drew (Kp.refl _ _)) id, kp_drew ((k1.mono fun _ h => .inl h).trans (k2.mono fun _ h => .inr h))⟩

theorem three0 (w : World) (v0 v1 v2 v3 : Value) (o2 o3 : Obj) : Blk4 (((w.alloc (.cells #[v0, v1, v2, v3] 27)).alloc o2).alloc o3) w.heap.size v0 v1 v2 v3 := Blk4.old (Blk4.old (Blk4.new w _ _ _ _) _) _
theorem three1 (w : World) (v0 v1 v2 v3 : Value) (o1 o3 : Obj) : Blk4 (((w.alloc o1).alloc (.cells #[v0, v1, v2, v3] 27)).alloc o3) (w.heap.size + 1) v0 v1 v2 v3 := by
  have h := Blk4.new (w.alloc o1) v0 v1 v2 v3
  rw [World.size_alloc] at h
  exact Blk4.old h _
theorem three2 (w : World) (v0 v1 v2 v3 : Value) (o1 o2 : Obj) : Blk4 (((w.alloc o1).alloc o2).alloc (.cells #[v0, v1, v2, v3] 27)) (w.heap.size + 1 + 1) v0 v1 v2 v3 := by
  have h := Blk4.new ((w.alloc o1).alloc o2) v0 v1 v2 v3
  rw [World.size_alloc, World.size_alloc] at h
  exact h

theorem makeAns_bad {t : T} (h : t.formed = false) : makeAns t = ((zeroT, zeroT), 2) := by rw [makeAns, h]; rfl
theorem makeAns_none {t : T} (h : t.formed = true) (hb : T.make reserved t = none) : makeAns t = ((zeroT, zeroT), 7) := by rw [makeAns, if_pos h, hb]
theorem makeAns_some {t : T} {x : T × T} (h : t.formed = true) (hb : T.make reserved t = some x) : makeAns t = (x, 0) := by rw [makeAns, if_pos h, hb]

end Go.Proofs.Ytmecghjnghhhkaa

namespace Go.Proofs.Ytmecghjnghhhkaa
open Go.RowKit

theorem blocks84 (w : World) (u0 u1 u2 u3 u4 u5 u6 u7 v0 v1 v2 v3 : Value) :
    Hid (Blk8 ((w.alloc (.cells #[u0, u1, u2, u3, u4, u5, u6, u7] 92)).alloc (.cells #[v0, v1, v2, v3] 27)) w.heap.size u0 u1 u2 u3 u4 u5 u6 u7) ∧
    Hid (Blk4 ((w.alloc (.cells #[u0, u1, u2, u3, u4, u5, u6, u7] 92)).alloc (.cells #[v0, v1, v2, v3] 27)) (w.heap.size + 1) v0 v1 v2 v3) ∧
    Gr w ((w.alloc (.cells #[u0, u1, u2, u3, u4, u5, u6, u7] 92)).alloc (.cells #[v0, v1, v2, v3] 27)) := by
  have h1 : Blk8 (w.alloc (.cells #[u0, u1, u2, u3, u4, u5, u6, u7] 92)) w.heap.size u0 u1 u2 u3 u4 u5 u6 u7 := heap_alloc_new _ _
  have h2 := Blk4.new (w.alloc (.cells #[u0, u1, u2, u3, u4, u5, u6, u7] 92)) v0 v1 v2 v3
  rw [World.size_alloc] at h2
  exact ⟨h1.gr (by go_grown), h2, by go_grown⟩

theorem clVal_eq (h b : Tm) : clVal h b = .agg #[.int .i64 h.k, .int .i64 h.n, .string h.s, .slice h.p h.l.length h.c, .int .i64 b.k, .int .i64 b.n, .string b.s, .slice b.p b.l.length b.c] := rfl

/-- A term in memory is handed back. -/
def RetT (t : T) (w : World) (e : Ending) (w' : World) : Prop := ∃ bm : Tm, bm.In w' ∧ bm.erase = t ∧ e = .returned bm.val ∧ Gr w w'

set_option maxHeartbeats 2000000 in
set_option maxRecDepth 100000 in
theorem plain_calls (h b : Tm) (w : World) (hh : h.In w) (hb : b.In w) : Calls Try.prog 129 #[clVal h b] w (RetT (clauseT h.erase b.erase) w) := by
  have Hh := Lib.hid hh
  have Hb := Lib.hid hb
  have hR : Hid (∀ bm : Tm, bm.erase = clauseT h.erase b.erase → ∀ w', bm.In w' → Gr w w' → RetT (clauseT h.erase b.erase) w (.returned bm.val) w') := fun bm he w' hi hg => ⟨bm, hi, he, rfl, hg⟩
  have hC := Lib.hid (show clauseT h.erase b.erase = if b.erase.isOf sTrue 0 then h.erase else compT sNeck [h.erase, b.erase] from rfl)
  generalize clauseT h.erase b.erase = r at *
  generalize hQ : RetT r w = Q at *
  clear hQ hh hb
  have Hhv := Lib.hid (show h.val = .agg #[.int .i64 h.k, .int .i64 h.n, .string h.s, .slice h.p h.l.length h.c] from rfl)
  have Hbv := Lib.hid (show b.val = .agg #[.int .i64 b.k, .int .i64 b.n, .string b.s, .slice b.p b.l.length b.c] from rfl)
  have HN := Lib.hid (show b.erase.isOf (ByteArray.mk #[116, 114, 117, 101]).toList 0 = b.erase.isOf sTrue 0 by rw [blTrue])
  rw [clVal_eq]
  go_enter Try.func129, Try.ntmps129
  try simp only [List.append_eq, List.cons_append, List.nil_append]
  go_upto_region 1 with fail
  obtain ⟨HB, HR, gA⟩ := blocks84 w (.int .i64 h.k) (.int .i64 h.n) (.string h.s) (.slice h.p h.l.length h.c) (.int .i64 b.k) (.int .i64 b.n) (.string b.s) (.slice b.p b.l.length b.c) (.int .i64 0) (.int .i64 0) (.string ⟨#[]⟩) (.slice none 0 0)
  generalize (w.alloc (.cells #[.int .i64 h.k, .int .i64 h.n, .string h.s, .slice h.p h.l.length h.c, .int .i64 b.k, .int .i64 b.n, .string b.s, .slice b.p b.l.length b.c] 92)).alloc (.cells #[.int .i64 0, .int .i64 0, .string ⟨#[]⟩, .slice none 0 0] 27) = wA at *
  have hszA : w.heap.size + 1 < wA.heap.size := HR.out.parts.2.2
  obtain ⟨c0, c1, c2, c3, c4, c5, c6, c7⟩ := HB.out.cells
  cases hj : b.erase.isOf sTrue 0 with
  | true =>
    replace HN := Lib.hid (HN.out.trans hj)
    have hr : Hid (h.erase = r) := by show _ = _; rw [hC.out, hj]; rfl
    clear hj
    go_wp2_with (first
      | (go_at_call 121; rewrite [← Hbv.out]; refine (is_calls _ _ _ _).mono ?_; rintro e w2 ⟨rfl, hb⟩; rewrite [HN.out]; have g2 := gA.trans hb; obtain ⟨⟨y0, y1, y2, y3⟩, ⟨f0, f1, f2, f3⟩, hlt⟩ := (HR.out.gr hb).parts; have HB2 := Lib.hid (HB.out.gr hb); clear hb c0 c1 c2 c3 c4 c5 c6 c7; obtain ⟨c0, c1, c2, c3, c4, c5, c6, c7⟩ := HB2.out.cells)
      | fail)
    refine bodyPost_ret (v := h.val) (by simp (maxDischargeDepth := 9) [results, Try.results129, go_sem, Tm.val, y0, y1, y2, y3]) rfl ?_
    have hg : Gr w ((((w2.setCell ⟨w.heap.size + 1, 0, none⟩ (.int .i64 h.k)).setCell ⟨w.heap.size + 1, 1, none⟩ (.int .i64 h.n)).setCell ⟨w.heap.size + 1, 2, none⟩ (.string h.s)).setCell ⟨w.heap.size + 1, 3, none⟩ (.slice h.p h.l.length h.c)) := by go_grown
    exact hR.out h hr.out _ (Tm.In_below hg Hh.out) hg
  | false =>
    replace HN := Lib.hid (HN.out.trans hj)
    have hr : Hid (compT sNeck [h.erase, b.erase] = r) := by show _ = _; rw [hC.out, hj]; rfl
    clear hj
    go_wp2_with (first
      | (go_at_call 121; rewrite [← Hbv.out]; refine (is_calls _ _ _ _).mono ?_; rintro e w2 ⟨rfl, hb⟩; rewrite [HN.out]; have g2 := gA.trans hb; have HR2 := Lib.hid (HR.out.gr hb); have HB2 := Lib.hid (HB.out.gr hb); clear hb c0 c1 c2 c3 c4 c5 c6 c7; obtain ⟨c0, c1, c2, c3, c4, c5, c6, c7⟩ := HB2.out.cells)
      | (go_at_call 148; refine (comp_calls _ _ _ _ _).mono ?_; rintro e w3 ⟨rfl, hb⟩; have hsl := Lib.hid (two_new (t := h) (u := b) (Tm.In_below g2 Hh.out) (Tm.In_below g2 Hb.out) hb); have gb : Gr w2 w3 := below_step hb (by go_grown); obtain ⟨⟨y0, y1, y2, y3⟩, ⟨f0, f1, f2, f3⟩, hlt⟩ := (HR2.out.gr gb).parts; have g3 := g2.trans gb; clear hb c0 c1 c2 c3 c4 c5 c6 c7)
      | fail)
    refine bodyPost_ret (v := (compTm ⟨#[58, 45]⟩ (some ⟨w2.heap.size, 0, none⟩) 2 [h, b]).val) (by simp (maxDischargeDepth := 9) [results, Try.results129, go_sem, compTm, Tm.val, Tm.k, Tm.n, Tm.s, Tm.p, Tm.c, Tm.l, y0, y1, y2, y3]) rfl ?_
    have hs2 := g2.size
    have hR2 := HR2.out.parts.2.2
    refine hR.out (compTm ⟨#[58, 45]⟩ (some ⟨w2.heap.size, 0, none⟩) 2 [h, b]) (by rw [compTm, Tm.erase, Tm.eraseL, Tm.eraseL, Tm.eraseL, blNeck]; exact hr.out) _ ?_ (by go_grown)
    refine in_after' (S := fun x => x ≠ w.heap.size + 1) (compTm_in (by decide) hsl.out) ?_ fun x h1 h2 o => by rw [cell_set_ne h1, cell_set_ne h1, cell_set_ne h1, cell_set_ne h1]
    rw [compTm, Tm.On, Tm.OnL, Tm.OnL, Tm.OnL]
    exact ⟨.inr ⟨_, _, rfl, by omega⟩, Hh.out.on.mono fun x hx => by omega, Hb.out.on.mono fun x hx => by omega, trivial⟩

end Go.Proofs.Ytmecghjnghhhkaa

namespace Go.Proofs.Ytmecghjnghhhkaa
open Go.RowKit Go.Maps

/-- Block b is a map: it holds just what f says. -/
def GMap {K : Type} (k : TypeId) (κ : K → Value) (w : World) (b : Nat) (f : K → Option Value) : Prop :=
  ∃ (E : Array MapEntry) (c : Nat), w.heap[b]? = some (.map E c) ∧ (∀ e ∈ E.toList, ∃ l, keyOf Try.prog k e.key = some l) ∧ (E.toList.map (·.key)).Nodup ∧
    ∀ x v, f x = some v ↔ ∃ e ∈ E.toList, e.key = κ x ∧ e.val = v

section
variable {K : Type} {k : TypeId} {κ : K → Value} {w w' : World} {b : Nat} {f : K → Option Value}
theorem GMap.lt (h : GMap k κ w b f) : b < w.heap.size := by
  obtain ⟨E, c, h1, _⟩ := h
  exact (Array.getElem?_eq_some_iff.1 h1).1
theorem GMap.same (h : GMap k κ w b f) (hb : w'.heap[b]? = w.heap[b]?) : GMap k κ w' b f := by
  obtain ⟨E, c, h1, h2⟩ := h
  exact ⟨E, c, hb.trans h1, h2⟩
theorem GMap.gr (h : GMap k κ w b f) (hg : Gr w w') : GMap k κ w' b f := h.same (hg.block b h.lt)
theorem GMap.kp {C : Nat → Prop} (h : GMap k κ w b f) (hg : Kp C w w') (hb : ¬ C b) : GMap k κ w' b f := h.same (hg.block b h.lt hb)
theorem GMap.made (k : TypeId) (κ : K → Value) (w : World) : GMap k κ (w.alloc (.map #[] 0)) w.heap.size fun _ => none :=
  ⟨#[], 0, heap_alloc_new _ _, (fun _ h => by cases h), List.nodup_nil, fun x v => ⟨(fun h => by cases h), fun ⟨e, he, _⟩ => by cases he⟩⟩
theorem GMap.ext {g : K → Option Value} (h : GMap k κ w b f) (hfg : ∀ x, f x = g x) : GMap k κ w b g := (funext hfg : f = g) ▸ h

set_option maxRecDepth 100000 in
theorem GMap.run (h : GMap k κ w b f) (KK : Keyed Try.prog k) {t e : TypeId} (ht : Try.prog.underlying t = some (.map k e)) {z : Value} (hz : (zeroValue e).run Try.prog w = .ok z w) {x : K} {l : Lit} (hx : keyOf Try.prog k (κ x) = some l) :
    (Instr.lookup t (.map (some b)) (κ x) false).run Try.prog w = .ok ((f x).getD z) w ∧ (Instr.lookup t (.map (some b)) (κ x) true).run Try.prog w = .ok (.tuple #[(f x).getD z, .bool (f x).isSome]) w := by
  obtain ⟨E, c, hb, hk, hn, hf⟩ := h
  rcases KK.find w hx E.toList hk with ⟨h1, h2⟩ | ⟨j, e0, h1, h2, h3⟩
  · have hfx : f x = none := by
      cases hv : f x with
      | none => rfl
      | some v =>
        obtain ⟨e, he, hek, _⟩ := (hf x v).1 hv
        exact absurd hek (h2 e he)
    rw [hfx]
    constructor
    · simp [Instr.lookup, run_underlying ht, MapKept.run_getObj_map hb, KK.check w _ hx, h1, hz, Result.andThen]
    · simp [Instr.lookup, run_underlying ht, MapKept.run_getObj_map hb, KK.check w _ hx, h1, hz, Result.andThen]
  · have hfx : f x = some e0.val := (hf x e0.val).2 ⟨e0, List.mem_of_getElem? h2, h3, rfl⟩
    rw [hfx]
    constructor
    · simp [Instr.lookup, run_underlying ht, MapKept.run_getObj_map hb, KK.check w _ hx, h1, Result.andThen]
    · simp [Instr.lookup, run_underlying ht, MapKept.run_getObj_map hb, KK.check w _ hx, h1, Result.andThen]

theorem setBlock_grown {E : Array MapEntry} {c : Nat} (hb : w.heap[b]? = some (.map E c)) (o : Obj) : w.grownBy (ChangeMaps.setBlock w b o) (some b) :=
  ⟨rfl, rfl, rfl, by simp [ChangeMaps.setBlock], fun i _ hi => ChangeMaps.heap_setBlock_other hb _ (fun e => hi (by rw [e]))⟩

set_option maxRecDepth 100000 in
theorem GMap.update (h : GMap k κ w b f) (KK : Keyed Try.prog k) {t e : TypeId} (ht : Try.prog.underlying t = some (.map k e)) {x : K} {l : Lit} (hx : keyOf Try.prog k (κ x) = some l) (hinj : ∀ y, κ y = κ x → y = x) (v : Value)
    {g : K → Option Value} (hg1 : g x = some v) (hg2 : ∀ y, y ≠ x → g y = f y) :
    ∃ w', (Instr.mapUpdate t (.map (some b)) (κ x) v).run Try.prog w = .ok () w' ∧ GMap k κ w' b g ∧ w.grownBy w' (some b) := by
  obtain ⟨E, c, hb, hk, hn, hf⟩ := h
  rcases KK.find w hx E.toList hk with ⟨h1, h2⟩ | ⟨j, e0, h1, h2, h3⟩
  · refine ⟨ChangeMaps.setBlock w b (.map (E.push ⟨κ x, v, c⟩) (c + 1)), ?_, ⟨E.push ⟨κ x, v, c⟩, c + 1, ChangeMaps.heap_setBlock_same hb _, ?_, ?_, ?_⟩, setBlock_grown hb _⟩
    · simp [Instr.mapUpdate, run_underlying ht, MapKept.run_getObj_map hb, KK.check w false hx, h1, MapKept.run_setObj_map _ hb, Result.andThen, ChangeMaps.setBlock]
    · intro e he
      rw [Array.toList_push, List.mem_append, List.mem_singleton] at he
      rcases he with he | rfl
      · exact hk e he
      · exact ⟨l, hx⟩
    · rw [Array.toList_push, List.map_append, List.nodup_append]
      refine ⟨hn, by simp, ?_⟩
      intro a ha d hd
      obtain ⟨e, he, rfl⟩ := List.mem_map.1 ha
      simp only [List.map_cons, List.map_nil, List.mem_singleton] at hd
      subst hd
      exact h2 e he
    · intro y v'
      rw [Array.toList_push]
      by_cases hy : y = x
      · subst hy
        rw [hg1]
        constructor
        · intro h; cases h; exact ⟨⟨κ y, v, c⟩, by simp, rfl, rfl⟩
        · rintro ⟨e, he, he2, rfl⟩
          rcases List.mem_append.1 he with he | he
          · exact absurd he2 (h2 e he)
          · rw [List.mem_singleton.1 he]
      · rw [hg2 y hy, hf y v']
        constructor
        · rintro ⟨e, he, h3⟩; exact ⟨e, List.mem_append_left _ he, h3⟩
        · rintro ⟨e, he, he2, he3⟩
          rcases List.mem_append.1 he with he | he
          · exact ⟨e, he, he2, he3⟩
          · rw [List.mem_singleton.1 he] at he2
            exact absurd (hinj y he2.symm) hy
  · have hj : E[j]? = some e0 := by simpa using h2
    obtain ⟨hjl, hj0⟩ := List.getElem?_eq_some_iff.1 h2
    obtain ⟨A, a, B, hE, hA, hM⟩ := List.exists_of_modify (fun e : MapEntry => { e with key := κ x, val := v }) hjl
    have ha : a = e0 := by
      rw [hE, List.getElem?_append_right (by omega), hA, Nat.sub_self] at h2
      exact Option.some.inj h2
    subst ha
    have hM' : (E.modify j fun e => { e with key := κ x, val := v }).toList = A ++ { a with key := κ x, val := v } :: B := by rw [Array.toList_modify]; exact hM
    have hn2 := hn
    rw [hE, List.map_append, List.map_cons, h3, List.nodup_append, List.nodup_cons] at hn2
    obtain ⟨n1, ⟨n2, n3⟩, n4⟩ := hn2
    refine ⟨ChangeMaps.setBlock w b (.map (E.modify j fun e => { e with key := κ x, val := v }) c), ?_, ⟨E.modify j fun e => { e with key := κ x, val := v }, c, ChangeMaps.heap_setBlock_same hb _, ?_, ?_, ?_⟩, setBlock_grown hb _⟩
    · simp [Instr.mapUpdate, run_underlying ht, MapKept.run_getObj_map hb, KK.check w false hx, h1, hj, h3, KK.stays w hx, MapKept.run_setObj_map _ hb, Result.andThen, ChangeMaps.setBlock]
    · rw [hM']
      intro e he
      rcases List.mem_append.1 he with he | he
      · exact hk e (by rw [hE]; exact List.mem_append_left _ he)
      · rcases List.mem_cons.1 he with rfl | he
        · exact ⟨l, hx⟩
        · exact hk e (by rw [hE]; exact List.mem_append_right _ (List.mem_cons_of_mem _ he))
    · rw [hM', List.map_append, List.map_cons, List.nodup_append, List.nodup_cons]
      exact ⟨n1, ⟨n2, n3⟩, n4⟩
    · intro y v'
      rw [hM']
      by_cases hy : y = x
      · subst hy
        rw [hg1]
        constructor
        · intro h; cases h; exact ⟨{ a with key := κ y, val := v }, by simp, rfl, rfl⟩
        · rintro ⟨e, he, he2, rfl⟩
          rcases List.mem_append.1 he with he | he
          · exact absurd he2 (n4 e.key (List.mem_map_of_mem he) (κ y) (by simp))
          · rcases List.mem_cons.1 he with rfl | he
            · rfl
            · exact absurd (List.mem_map_of_mem (f := (·.key)) he) (by simp only [he2]; exact n2)
      · rw [hg2 y hy, hf y v', hE]
        have hne : κ x ≠ κ y := fun e => hy (hinj y e.symm)
        constructor
        · rintro ⟨e, he, he2, he3⟩
          rcases List.mem_append.1 he with he | he
          · exact ⟨e, List.mem_append_left _ he, he2, he3⟩
          · rcases List.mem_cons.1 he with rfl | he
            · exact absurd (h3.symm.trans he2) hne
            · exact ⟨e, List.mem_append_right _ (List.mem_cons_of_mem _ he), he2, he3⟩
        · rintro ⟨e, he, he2, he3⟩
          rcases List.mem_append.1 he with he | he
          · exact ⟨e, List.mem_append_left _ he, he2, he3⟩
          · rcases List.mem_cons.1 he with rfl | he
            · exact absurd he2 hne
            · exact ⟨e, List.mem_append_right _ (List.mem_cons_of_mem _ he), he2, he3⟩
end
end Go.Proofs.Ytmecghjnghhhkaa

namespace Go.Proofs.Ytmecghjnghhhkaa
open Go.RowKit Go.Maps

/-- A block that is just these cells. -/
def BlkT (w : World) (b : Nat) (t : TypeId) (vs : Array Value) : Prop := w.heap[b]? = some (.cells vs t)
section
variable {w w' : World} {b : Nat} {t : TypeId} {vs : Array Value}
theorem BlkT.lt (h : BlkT w b t vs) : b < w.heap.size := (Array.getElem?_eq_some_iff.1 h).1
theorem BlkT.gr (h : BlkT w b t vs) (hg : Gr w w') : BlkT w' b t vs := (hg.block b h.lt).trans h
theorem BlkT.kp {C : Nat → Prop} (h : BlkT w b t vs) (hg : Kp C w w') (hb : ¬ C b) : BlkT w' b t vs := (hg.block b h.lt hb).trans h
theorem BlkT.new (w : World) (t : TypeId) (vs : Array Value) : BlkT (w.alloc (.cells vs t)) w.heap.size t vs := heap_alloc_new w _
theorem BlkT.cell (h : BlkT w b t vs) (i : Nat) {v : Value} (hi : vs[i]? = some v) : w.cell? ⟨b, i, none⟩ = some v := by rw [cell_of_row w b i _ _ _ h, hi]
theorem BlkT.open_ (h : BlkT w b t vs) (i : Nat) : w.frozen? ⟨b, i, none⟩ = false := frozen_of_row w b i _ _ h
theorem BlkT.set (h : BlkT w b t vs) (i : Nat) (v : Value) : BlkT (w.setCell ⟨b, i, none⟩ v) b t (vs.setIfInBounds i v) := heap_setCell_same _ b i _ _ v h
end

theorem blocks88 (w : World) (v0 v1 v2 v3 v4 v5 v6 v7 u0 u1 u2 u3 u4 u5 u6 u7 : Value) :
    Hid (Blk8 ((w.alloc (.cells #[v0, v1, v2, v3, v4, v5, v6, v7] 92)).alloc (.cells #[u0, u1, u2, u3, u4, u5, u6, u7] 92)) w.heap.size v0 v1 v2 v3 v4 v5 v6 v7) ∧
    Hid (Blk8 ((w.alloc (.cells #[v0, v1, v2, v3, v4, v5, v6, v7] 92)).alloc (.cells #[u0, u1, u2, u3, u4, u5, u6, u7] 92)) (w.heap.size + 1) u0 u1 u2 u3 u4 u5 u6 u7) ∧
    Gr w ((w.alloc (.cells #[v0, v1, v2, v3, v4, v5, v6, v7] 92)).alloc (.cells #[u0, u1, u2, u3, u4, u5, u6, u7] 92)) := by
  have h0 : Blk8 (w.alloc (.cells #[v0, v1, v2, v3, v4, v5, v6, v7] 92)) w.heap.size v0 v1 v2 v3 v4 v5 v6 v7 := heap_alloc_new _ _
  have h1 : Blk8 ((w.alloc (.cells #[v0, v1, v2, v3, v4, v5, v6, v7] 92)).alloc (.cells #[u0, u1, u2, u3, u4, u5, u6, u7] 92)) (w.alloc (.cells #[v0, v1, v2, v3, v4, v5, v6, v7] 92)).heap.size u0 u1 u2 u3 u4 u5 u6 u7 := heap_alloc_new _ _
  rw [World.size_alloc] at h1
  exact ⟨h0.gr (by go_grown), h1, by go_grown⟩

/-- The value is a clause of such two terms. -/
def clNew (S : Nat → Prop) (t u : T) : VP := fun v w => ∃ h b : Tm, v = clVal h b ∧ h.In w ∧ b.In w ∧ h.erase = t ∧ b.erase = u ∧ h.On S ∧ b.On S
theorem clNew_stable {S : Nat → Prop} {t u : T} : ∀ v w w', clNew S t u v w → Gr w w' → clNew S t u v w' := fun _ _ _ ⟨h, b, h1, h2, h3, h4⟩ hg => ⟨h, b, h1, Tm.In_below hg h2, Tm.In_below hg h3, h4⟩
theorem clVal_four (h b : Tm) : clVal h b = .agg #[.int .i64 h.k, .int .i64 h.n, .string h.s, .slice h.p h.l.length h.c, .int .i64 b.k, .int .i64 b.n, .string b.s, .slice b.p b.l.length b.c] := rfl

/-- A clause in memory of its own is handed back. -/
def RetCl (S : Nat → Prop) (t u : T) (w : World) (e : Ending) (w' : World) : Prop := ∃ h b : Tm, e = .returned (clVal h b) ∧ h.In w' ∧ b.In w' ∧ h.erase = t ∧ b.erase = u ∧ h.On S ∧ b.On S ∧ Gr w w'

set_option maxHeartbeats 2000000 in
set_option maxRecDepth 100000 in
theorem copied_calls (h b : Tm) (w : World) (hh : h.In w) (hb : b.In w) (fh : h.erase.formed = true) (fb : b.erase.formed = true) : Calls Try.prog 127 #[clVal h b] w (RetCl (w.heap.size ≤ ·) h.erase b.erase w) := by
  have Hh := Lib.hid hh
  have Hb := Lib.hid hb
  have Fh := Lib.hid fh
  have Fb := Lib.hid fb
  have hR : Hid (∀ (hm bm : Tm) (w' : World), hm.In w' → bm.In w' → hm.erase = h.erase → bm.erase = b.erase → hm.On (w.heap.size ≤ ·) → bm.On (w.heap.size ≤ ·) → Gr w w' → RetCl (w.heap.size ≤ ·) h.erase b.erase w (.returned (clVal hm bm)) w') := fun hm bm w' h1 h2 h3 h4 h5 h6 hg => ⟨hm, bm, rfl, h1, h2, h3, h4, h5, h6, hg⟩
  generalize hQ : RetCl (w.heap.size ≤ ·) h.erase b.erase w = Q at *
  clear hQ hh hb fh fb
  rw [clVal_eq]
  go_enter Try.func127, Try.ntmps127
  try simp only [List.append_eq, List.cons_append, List.nil_append]
  go_upto_region 1 with fail
  obtain ⟨HB, HR, gA⟩ := blocks88 w (.int .i64 h.k) (.int .i64 h.n) (.string h.s) (.slice h.p h.l.length h.c) (.int .i64 b.k) (.int .i64 b.n) (.string b.s) (.slice b.p b.l.length b.c) (.int .i64 0) (.int .i64 0) (.string ⟨#[]⟩) (.slice none 0 0) (.int .i64 0) (.int .i64 0) (.string ⟨#[]⟩) (.slice none 0 0)
  generalize (w.alloc (.cells #[.int .i64 h.k, .int .i64 h.n, .string h.s, .slice h.p h.l.length h.c, .int .i64 b.k, .int .i64 b.n, .string b.s, .slice b.p b.l.length b.c] 92)).alloc (.cells #[.int .i64 0, .int .i64 0, .string ⟨#[]⟩, .slice none 0 0, .int .i64 0, .int .i64 0, .string ⟨#[]⟩, .slice none 0 0] 92) = w1 at *
  obtain ⟨c0, c1, c2, c3, c4, c5, c6, c7⟩ := HB.out.cells
  have hltR := HR.out.lt
  refine wp_region_rely_tail 7 [fx (.pointer (some ⟨w.heap.size, 0, none⟩)), fx h.val, tmIs (w1.heap.size ≤ ·) h.erase, fx (.pointer (some ⟨w.heap.size, 4, none⟩)), fx b.val, tmIs (w1.heap.size ≤ ·) b.erase, clNew (w1.heap.size ≤ ·) h.erase b.erase]
    (by kernel_rfl) (by kernel_rfl) (by decide) (by repeat (first | exact Stable.nil | refine Stable.fix ?_ | refine Stable.cons tmIs_stable ?_ | refine Stable.cons clNew_stable ?_)) ?_ ?_
  · refine ⟨?_, ?_, ?a2, ?_, ?_, ?a5, ?a6, trivial⟩
    all_goals
      intro a wr hg hold
      have h1 : a.tmps[1]?.getD undef = .pointer (some ⟨w.heap.size, 0, none⟩) := hold 1 rfl
      clear hold
      have z0 := Gr.at hg c0
      have z1 := Gr.at hg c1
      have z2 := Gr.at hg c2
      have z3 := Gr.at hg c3
      have z4 := Gr.at hg c4
      have z5 := Gr.at hg c5
      have z6 := Gr.at hg c6
      have z7 := Gr.at hg c7
      have gr1 : Gr w wr := gA.trans hg
      clear c0 c1 c2 c3 c4 c5 c6 c7
      simp [predsImp, Region.binds, dstAt, fx]
      intros
      first
        | (rw [if_pos (by simp [*])]
           intro K hK)
        | (rename_i K hK)
      go_simp
    case a2 =>
      refine (copy_calls (t := h) (Tm.In_below gr1 Hh.out) Fh.out).mono ?_
      rintro e w10 ⟨z, i1, i2, rfl, ib, i3⟩
      exact hK _ _ ⟨z, rfl, i1, i2, i3.mono fun b hb => Nat.le_trans hg.size hb⟩ ib
    case a5 =>
      refine (copy_calls (t := b) (Tm.In_below gr1 Hb.out) Fb.out).mono ?_
      rintro e w10 ⟨z, i1, i2, rfl, ib, i3⟩
      exact hK _ _ ⟨z, rfl, i1, i2, i3.mono fun b hb => Nat.le_trans hg.size hb⟩ ib
    case a6 =>
      have hp : tmIs (w1.heap.size ≤ ·) h.erase (a.tmps[5]?.getD undef) wr := by assumption
      have hq : tmIs (w1.heap.size ≤ ·) b.erase (a.tmps[8]?.getD undef) wr := by assumption
      obtain ⟨r1, e1, i1, j1, o1⟩ := hp
      obtain ⟨r2, e2, i2, j2, o2⟩ := hq
      rw [e1, e2]
      simp only [Tm.val]
      go_simp
      exact hK _ _ ⟨r1, r2, rfl, i1, i2, j1, j2, o1, o2⟩ (Gr.rfl' _)
    all_goals exact hK _ _ rfl (Gr.rfl' _)
  · intro wr hg
    have gr1 : Gr w wr := gA.trans hg
    obtain ⟨y0, y1, y2, y3, y4, y5, y6, y7⟩ := (HR.out.gr hg).cells
    obtain ⟨f0, f1, f2, f3, f4, f5, f6, f7⟩ := (HR.out.gr hg).open_
    rintro _ rfl _ rfl _ ⟨_, rfl, _, _, _⟩ _ rfl _ rfl _ ⟨_, rfl, _, _, _⟩ _ ⟨r1, r2, rfl, i1, i2, j1, j2, o1, o2⟩
    have hs1 := gA.size
    have hsg := hg.size
    have I1 := Lib.hid i1
    have I2 := Lib.hid i2
    have J1 := Lib.hid j1
    have J2 := Lib.hid j2
    have O1 := Lib.hid o1
    have O2 := Lib.hid o2
    clear i1 i2 j1 j2 o1 o2 c0 c1 c2 c3 c4 c5 c6 c7
    simp only [finAll, Act.put, List.setIfInBounds_toArray, List.set_cons_succ, List.set_cons_zero, clVal_four, List.drop_succ_cons, List.drop_zero, List.take_zero]
    have hfin : Hid (∀ W, Kp (fun b => b = w.heap.size + 1) wr W → Q (.returned (clVal r1 r2)) W) := by
      intro W hK
      refine hR.out r1 r2 W (in_after' I1.out O1.out fun b h1 hb o => World.cell?_of_block (hK.block b hb (by omega))) (in_after' I2.out O2.out fun b h1 hb o => World.cell?_of_block (hK.block b hb (by omega))) J1.out J2.out (O1.out.mono fun b hb => by omega) (O2.out.mono fun b hb => by omega) (Below.trans gr1 (hK.below (B := w.heap.size) (fun b hb => by omega) (by omega)))
    go_wp2_with fail
    refine bodyPost_ret (v := clVal r1 r2) (by simp (maxDischargeDepth := 9) [results, Try.results127, go_sem, clVal, y0, y1, y2, y3, y4, y5, y6, y7]) rfl ?_
    exact hfin.out _ ((Kp.set4 (C := fun b => b = w.heap.size + 1) rfl).trans (Kp.set4 (C := fun b => b = w.heap.size + 1) rfl))

set_option maxRecDepth 100000 in
theorem of_calls (t : Tm) (w : World) : Calls Try.prog 125 #[t.val] w (Ret (.agg #[.string t.s, .int .i64 t.l.length]) w) := by
  have hR : Hid (∀ w', Gr w w' → Ret (.agg #[.string t.s, .int .i64 t.l.length]) w (.returned (.agg #[.string t.s, .int .i64 t.l.length])) w') := fun w' hg => ⟨rfl, hg⟩
  generalize hQ : Ret (.agg #[.string t.s, .int .i64 t.l.length]) w = Q at hR ⊢
  clear hQ
  simp only [Tm.val]
  go_enter Try.func125, Try.ntmps125
  go_wp2_with fail
  exact bodyPost_ret (v := .agg #[.string t.s, .int .i64 t.l.length]) (by simp (maxDischargeDepth := 9) [results, Try.results125, go_sem]) rfl (hR.out _ (by go_grown))

/-- A new base: its world. -/
theorem new_calls (w : World) : Calls Try.prog 61 #[] w fun e w' => e = .returned (.pointer (some ⟨w.heap.size + 1 + 1, 0, none⟩)) ∧
    w' = ((w.alloc (.map #[] 0)).alloc (.map #[] 0)).alloc (.cells #[.int .i64 0, .slice none 0 0, .map (some w.heap.size), .map (some (w.heap.size + 1))] 156) := by
  have hmm := @run_makeMap Try.prog
  go_enter Try.func61, Try.ntmps61
  go_wp2_with fail
  exact bodyPost_ret (v := .pointer (some ⟨w.heap.size + 1 + 1, 0, none⟩)) (by simp [results, Try.results61, go_sem]) rfl ⟨rfl, rfl⟩
end Go.Proofs.Ytmecghjnghhhkaa
