/-
  base.Make: what it makes, blocks of clauses
-/
import Derived.Test.YtgaijgadeodoeaaVC
import Derived.Test.YtgaijgadeodoeaaV6
import Derived.Test.YtgaijgadeodoeaaU3
import Derived.Deep.RegionWith
import Derived.BigRegion
namespace Go.Proofs.Ytgaijgadeodoeaa
open Go.RowKit

/-- A clause's value. -/
def clVal (h b : Tm) : Value := .agg #[.int .i64 h.k, .int .i64 h.n, .string h.s, .slice h.p h.l.length h.c, .int .i64 b.k, .int .i64 b.n, .string b.s, .slice b.p b.l.length b.c]

/-- A clause is handed back, and an error's number. -/
def RetCE (r : (T × T) × Int) (w : World) (e : Ending) (w' : World) : Prop := ∃ hm bm : Tm, e = .returned (.tuple #[clVal hm bm, .int .i64 r.2]) ∧ hm.In w' ∧ bm.In w' ∧ (hm.erase, bm.erase) = r.1 ∧ Gr w w'

def makeAns (t : T) : (T × T) × Int := if t.formed then (match T.make reserved t with
  | some x => (x, 0)
  | none => ((zeroT, zeroT), 7)) else ((zeroT, zeroT), 2)

/-- A block of eight cells: a clause. -/
def Blk8 (w : World) (b : Nat) (v0 v1 v2 v3 v4 v5 v6 v7 : Value) : Prop := w.heap[b]? = some (.cells #[v0, v1, v2, v3, v4, v5, v6, v7] 57)

theorem Blk8.gr {w w' : World} {b : Nat} {v0 v1 v2 v3 v4 v5 v6 v7 : Value} (h : Blk8 w b v0 v1 v2 v3 v4 v5 v6 v7) (hg : Gr w w') : Blk8 w' b v0 v1 v2 v3 v4 v5 v6 v7 :=
  (hg.block b (Array.getElem?_eq_some_iff.1 h).1).trans h
theorem Blk8.lt {w : World} {b : Nat} {v0 v1 v2 v3 v4 v5 v6 v7 : Value} (h : Blk8 w b v0 v1 v2 v3 v4 v5 v6 v7) : b < w.heap.size := (Array.getElem?_eq_some_iff.1 h).1
theorem Blk8.cells {w : World} {b : Nat} {v0 v1 v2 v3 v4 v5 v6 v7 : Value} (h : Blk8 w b v0 v1 v2 v3 v4 v5 v6 v7) : w.cell? ⟨b, 0, none⟩ = some v0 ∧ w.cell? ⟨b, 1, none⟩ = some v1 ∧ w.cell? ⟨b, 2, none⟩ = some v2 ∧ w.cell? ⟨b, 3, none⟩ = some v3 ∧
    w.cell? ⟨b, 4, none⟩ = some v4 ∧ w.cell? ⟨b, 5, none⟩ = some v5 ∧ w.cell? ⟨b, 6, none⟩ = some v6 ∧ w.cell? ⟨b, 7, none⟩ = some v7 :=
  ⟨cell_of_row w b 0 _ _ _ h, cell_of_row w b 1 _ _ _ h, cell_of_row w b 2 _ _ _ h, cell_of_row w b 3 _ _ _ h, cell_of_row w b 4 _ _ _ h, cell_of_row w b 5 _ _ _ h, cell_of_row w b 6 _ _ _ h, cell_of_row w b 7 _ _ _ h⟩
theorem Blk8.open_ {w : World} {b : Nat} {v0 v1 v2 v3 v4 v5 v6 v7 : Value} (h : Blk8 w b v0 v1 v2 v3 v4 v5 v6 v7) : w.frozen? ⟨b, 0, none⟩ = false ∧ w.frozen? ⟨b, 1, none⟩ = false ∧ w.frozen? ⟨b, 2, none⟩ = false ∧ w.frozen? ⟨b, 3, none⟩ = false ∧
    w.frozen? ⟨b, 4, none⟩ = false ∧ w.frozen? ⟨b, 5, none⟩ = false ∧ w.frozen? ⟨b, 6, none⟩ = false ∧ w.frozen? ⟨b, 7, none⟩ = false :=
  ⟨frozen_of_row w b 0 _ _ h, frozen_of_row w b 1 _ _ h, frozen_of_row w b 2 _ _ h, frozen_of_row w b 3 _ _ h, frozen_of_row w b 4 _ _ h, frozen_of_row w b 5 _ _ h, frozen_of_row w b 6 _ _ h, frozen_of_row w b 7 _ _ h⟩

theorem blocks48 (w : World) (v0 v1 v2 v3 u0 u1 u2 u3 u4 u5 u6 u7 : Value) :
    Hid (Blk4 ((w.alloc (.cells #[v0, v1, v2, v3] 28)).alloc (.cells #[u0, u1, u2, u3, u4, u5, u6, u7] 57)) w.heap.size v0 v1 v2 v3) ∧
    Hid (Blk8 ((w.alloc (.cells #[v0, v1, v2, v3] 28)).alloc (.cells #[u0, u1, u2, u3, u4, u5, u6, u7] 57)) (w.heap.size + 1) u0 u1 u2 u3 u4 u5 u6 u7) ∧
    Gr w ((w.alloc (.cells #[v0, v1, v2, v3] 28)).alloc (.cells #[u0, u1, u2, u3, u4, u5, u6, u7] 57)) := by
  have h1 : Blk8 ((w.alloc (.cells #[v0, v1, v2, v3] 28)).alloc (.cells #[u0, u1, u2, u3, u4, u5, u6, u7] 57)) (w.alloc (.cells #[v0, v1, v2, v3] 28)).heap.size u0 u1 u2 u3 u4 u5 u6 u7 := heap_alloc_new _ _
  rw [World.size_alloc] at h1
  exact ⟨Blk4.old (Blk4.new w _ _ _ _) _, h1, by go_grown⟩

theorem atomA_exact (s : ByteArray) (w : World) : Calls Try.prog 81 #[.string s] w fun e w' => e = .returned (.agg #[.int .i64 3, .int .i64 0, .string s, .slice none 0 0]) ∧ w' = w.alloc (.cells #[.int .i64 3, .int .i64 0, .string s, .slice none 0 0] 28) := by
  go_enter Try.func81, Try.ntmps81
  go_wp2_with fail
  exact bodyPost_ret (v := .agg #[.int .i64 3, .int .i64 0, .string s, .slice none 0 0]) (by simp [results, Try.results81, go_sem]) rfl ⟨rfl, rfl⟩

theorem Blk4.set4 {w : World} {b : Nat} {v0 v1 v2 v3 : Value} (h : Blk4 w b v0 v1 v2 v3) (u0 u1 u2 u3 : Value) : Blk4 ((((w.setCell ⟨b, 0, none⟩ u0).setCell ⟨b, 1, none⟩ u1).setCell ⟨b, 2, none⟩ u2).setCell ⟨b, 3, none⟩ u3) b u0 u1 u2 u3 := by
  have h1 := heap_setCell_same _ b 0 _ _ u0 h
  have h2 := heap_setCell_same _ b 1 _ _ u1 h1
  have h3 := heap_setCell_same _ b 2 _ _ u2 h2
  have h4 := heap_setCell_same _ b 3 _ _ u3 h3
  exact h4

theorem Blk8.kp {C : Nat → Prop} {w w' : World} {b : Nat} {v0 v1 v2 v3 v4 v5 v6 v7 : Value} (h : Blk8 w b v0 v1 v2 v3 v4 v5 v6 v7) (hg : Kp C w w') (hb : ¬ C b) : Blk8 w' b v0 v1 v2 v3 v4 v5 v6 v7 :=
  (hg.block b (Array.getElem?_eq_some_iff.1 h).1 hb).trans h

theorem kp_drew {C : Nat → Prop} {w w' : World} (h : Kp C w w') : Kp C w w'.drew := ⟨h.os, h.tape, h.output, h.size, h.block⟩
theorem kp_set8 {C : Nat → Prop} {W : World} {R o0 o1 o2 o3 o4 o5 o6 o7 : Nat} {a0 a1 a2 a3 a4 a5 a6 a7 : Value} (hC : C R) :
    Kp C W ((((((((W.setCell ⟨R, o0, none⟩ a0).setCell ⟨R, o1, none⟩ a1).setCell ⟨R, o2, none⟩ a2).setCell ⟨R, o3, none⟩ a3).setCell ⟨R, o4, none⟩ a4).setCell ⟨R, o5, none⟩ a5).setCell ⟨R, o6, none⟩ a6).setCell ⟨R, o7, none⟩ a7).drew :=
  kp_drew ((Kp.set4 hC).trans (Kp.set4 hC))

theorem set44 {w : World} {b4 b5 : Nat} {v0 v1 v2 v3 v4 v5 v6 v7 : Value} (h4 : Blk4 w b4 v0 v1 v2 v3) (h5 : Blk4 w b5 v4 v5 v6 v7) (hne : b4 ≠ b5) (u0 u1 u2 u3 u4 u5 u6 u7 : Value) :
    Blk4 ((((((((w.setCell ⟨b4, 0, none⟩ u0).setCell ⟨b4, 1, none⟩ u1).setCell ⟨b4, 2, none⟩ u2).setCell ⟨b4, 3, none⟩ u3).setCell ⟨b5, 0, none⟩ u4).setCell ⟨b5, 1, none⟩ u5).setCell ⟨b5, 2, none⟩ u6).setCell ⟨b5, 3, none⟩ u7).drew b4 u0 u1 u2 u3 ∧
    Blk4 ((((((((w.setCell ⟨b4, 0, none⟩ u0).setCell ⟨b4, 1, none⟩ u1).setCell ⟨b4, 2, none⟩ u2).setCell ⟨b4, 3, none⟩ u3).setCell ⟨b5, 0, none⟩ u4).setCell ⟨b5, 1, none⟩ u5).setCell ⟨b5, 2, none⟩ u6).setCell ⟨b5, 3, none⟩ u7).drew b5 u4 u5 u6 u7 ∧
    Kp (fun b => b = b4 ∨ b = b5) w ((((((((w.setCell ⟨b4, 0, none⟩ u0).setCell ⟨b4, 1, none⟩ u1).setCell ⟨b4, 2, none⟩ u2).setCell ⟨b4, 3, none⟩ u3).setCell ⟨b5, 0, none⟩ u4).setCell ⟨b5, 1, none⟩ u5).setCell ⟨b5, 2, none⟩ u6).setCell ⟨b5, 3, none⟩ u7).drew := by
  have k1 : Kp (fun b => b = b4) w ((((w.setCell ⟨b4, 0, none⟩ u0).setCell ⟨b4, 1, none⟩ u1).setCell ⟨b4, 2, none⟩ u2).setCell ⟨b4, 3, none⟩ u3) := Kp.set4 rfl
  have hb4 := h4.set4 u0 u1 u2 u3
  have hb5 := h5.kp k1 (Ne.symm hne)
  generalize (((w.setCell ⟨b4, 0, none⟩ u0).setCell ⟨b4, 1, none⟩ u1).setCell ⟨b4, 2, none⟩ u2).setCell ⟨b4, 3, none⟩ u3 = w1 at *
  have k2 : Kp (fun b => b = b5) w1 ((((w1.setCell ⟨b5, 0, none⟩ u4).setCell ⟨b5, 1, none⟩ u5).setCell ⟨b5, 2, none⟩ u6).setCell ⟨b5, 3, none⟩ u7) := Kp.set4 rfl
  exact ⟨Blk4.kp (C := fun b => b = b5) hb4 (kp_drew k2) hne, Blk4.kp (C := fun _ => False) (hb5.set4 u4 u5 u6 u7) (kp_drew (Kp.refl _ _)) id, kp_drew ((k1.mono fun _ h => .inl h).trans (k2.mono fun _ h => .inr h))⟩

theorem three0 (w : World) (v0 v1 v2 v3 : Value) (o2 o3 : Obj) : Blk4 (((w.alloc (.cells #[v0, v1, v2, v3] 28)).alloc o2).alloc o3) w.heap.size v0 v1 v2 v3 := Blk4.old (Blk4.old (Blk4.new w _ _ _ _) _) _
theorem three1 (w : World) (v0 v1 v2 v3 : Value) (o1 o3 : Obj) : Blk4 (((w.alloc o1).alloc (.cells #[v0, v1, v2, v3] 28)).alloc o3) (w.heap.size + 1) v0 v1 v2 v3 := by
  have h := Blk4.new (w.alloc o1) v0 v1 v2 v3
  rw [World.size_alloc] at h
  exact Blk4.old h _
theorem three2 (w : World) (v0 v1 v2 v3 : Value) (o1 o2 : Obj) : Blk4 (((w.alloc o1).alloc o2).alloc (.cells #[v0, v1, v2, v3] 28)) (w.heap.size + 1 + 1) v0 v1 v2 v3 := by
  have h := Blk4.new ((w.alloc o1).alloc o2) v0 v1 v2 v3
  rw [World.size_alloc, World.size_alloc] at h
  exact h

theorem makeAns_bad {t : T} (h : t.formed = false) : makeAns t = ((zeroT, zeroT), 2) := by rw [makeAns, h]; rfl
theorem makeAns_none {t : T} (h : t.formed = true) (hb : T.make reserved t = none) : makeAns t = ((zeroT, zeroT), 7) := by rw [makeAns, if_pos h, hb]
theorem makeAns_some {t : T} {x : T × T} (h : t.formed = true) (hb : T.make reserved t = some x) : makeAns t = (x, 0) := by rw [makeAns, if_pos h, hb]

end Go.Proofs.Ytgaijgadeodoeaa
