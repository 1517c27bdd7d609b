/-
  Codes that come in.
-/
import Derived.Test.YtgaijgadeodoeaaDoorO5
import Derived.Test.YtgaijgadeodoeaaDoorU1
namespace Go.Proofs.YtgaijgadeodoeaaDoor
open Go.ChangeShapes Go.WideShapes Go.ChangeAt Go.RowKit Go.Deep

def Cn.cells (x : Cn) : List Value := [.int .i64 x.k, .string x.s, .int .i64 x.n]
def Cn.val (x : Cn) : Value := .agg #[.int .i64 x.k, .string x.s, .int .i64 x.n]
def Ins.cells (x : Ins) : List Value := [.int .i64 x.op, .int .i64 x.a, .int .i64 x.b, .int .i64 x.c.k, .string x.c.s, .int .i64 x.c.n]
def Ins.val (x : Ins) : Value := .agg #[.int .i64 x.op, .int .i64 x.a, .int .i64 x.b, .int .i64 x.c.k, .string x.c.s, .int .i64 x.c.n]
def Ent.cells (x : Ent) : List Value := [.string x.s, .int .i64 x.n, .int .i64 x.at_]

def Cn.Fit (x : Cn) : Prop := x.s.size ≤ 140737488351232 ∧ In64 x.k ∧ In64 x.n
def Ins.Fit (x : Ins) : Prop := In64 x.op ∧ In64 x.a ∧ In64 x.b ∧ x.c.Fit
def Ent.Fit (x : Ent) : Prop := x.s.size ≤ 140737488351232 ∧ In64 x.n ∧ In64 x.at_

abbrev InsSl (w : World) (p : Option Addr) (c : Nat) (l : List Ins) : Prop := SlOf Ins.cells Ins.Fit 6 56 w p c l
abbrev EntSl (w : World) (p : Option Addr) (c : Nat) (l : List Ent) : Prop := SlOf Ent.cells Ent.Fit 3 32 w p c l

theorem list6 {α : Type} {l : List α} (h : l.length = 6) : ∃ a b c d e f, l = [a, b, c, d, e, f] := by
  match l, h with
  | [a, b, c, d, e, f], _ => exact ⟨a, b, c, d, e, f, rfl⟩

section
variable {H : Type} {enc : TypeId × Value → H} {W : World}

theorem cellsCn : Tryd.prog.cellsOf 61 = 3 := by kernel_rfl
theorem cellsIns : Tryd.prog.cellsOf 63 = 6 := by kernel_rfl
theorem bytesIns : Tryd.prog.bytesOf 63 = 56 := by kernel_rfl
theorem cellsEnt : Tryd.prog.cellsOf 68 = 3 := by kernel_rfl
theorem bytesEnt : Tryd.prog.bytesOf 68 = 32 := by kernel_rfl
theorem cellsI642 : Tryd.prog.cellsOf 2 = 1 := by kernel_rfl
theorem cellsInsSl : Tryd.prog.cellsOf 29 = 1 := by kernel_rfl
theorem cellsEntSl : Tryd.prog.cellsOf 30 = 1 := by kernel_rfl
theorem cellsCode : Tryd.prog.cellsOf 32 = 3 := by kernel_rfl

set_option maxRecDepth 100000 in
theorem open_cn (fuel : Nat) (cs : List Value) (x : DataW H × List MemPlace) (h : DataW.trod enc Tryd.prog W 0 (fun _ => true) true fuel 61 cs = some x)
    (hw : ∀ n ∈ x.1.weights Tryd.prog 61, n ≤ reachBytes) : ∃ y : Cn, cs = y.cells ∧ y.Fit := by
  obtain ⟨xs, m, rfl, rfl, hl, hlen, hf⟩ := DataW.trod_struct Tryd.underlying61 h
  rw [cellsCn] at hl
  obtain ⟨y0, y1, y2, rfl⟩ := list3 hlen
  obtain ⟨v0, v1, v2, rfl⟩ := list3 hl
  have g0 := hf 0 _ rfl
  have g1 := hf 1 _ rfl
  have g2 := hf 2 _ rfl
  simp [cellsI, cellsS, cellsI642] at g0 g1 g2
  obtain ⟨k, hk, rfl, wk⟩ := DataW.trod_int Tryd.underlying3 g0
  obtain ⟨s, hs, rfl, ws⟩ := DataW.trod_string Tryd.underlying9 g1
  obtain ⟨n, hn, rfl, wn⟩ := DataW.trod_int Tryd.underlying2 g2
  simp only [List.cons.injEq, and_true] at hk hs hn
  subst hk hs hn
  simp only [List.map_cons, List.map_nil, DataW.weights, Tryd.underlying61, DataW.weightsEach, List.append_nil, List.nil_append, List.mem_cons, List.mem_nil_iff, or_false] at hw
  have hs' : s.size ≤ 140737488351232 := by
    have h9 := hw s.data.toList.length rfl
    rw [reach_eq] at h9
    exact h9
  exact ⟨⟨k, s, n⟩, rfl, hs', bounds64 wk, bounds64 wn⟩

set_option maxRecDepth 100000 in
theorem open_ins (fuel : Nat) (cs : List Value) (x : DataW H × List MemPlace) (h : DataW.trod enc Tryd.prog W 0 (fun _ => true) true fuel 63 cs = some x)
    (hw : ∀ n ∈ x.1.weights Tryd.prog 63, n ≤ reachBytes) : ∃ y : Ins, cs = y.cells ∧ y.Fit := by
  obtain ⟨xs, m, rfl, rfl, hl, hlen, hf⟩ := DataW.trod_struct Tryd.underlying63 h
  rw [cellsIns] at hl
  obtain ⟨y0, y1, y2, y3, rfl⟩ := list4 hlen
  obtain ⟨v0, v1, v2, v3, v4, v5, rfl⟩ := list6 hl
  have g0 := hf 0 _ rfl
  have g1 := hf 1 _ rfl
  have g2 := hf 2 _ rfl
  have g3 := hf 3 _ rfl
  simp [cellsI, cellsCn] at g0 g1 g2 g3
  obtain ⟨o, ho, rfl, wo⟩ := DataW.trod_int Tryd.underlying3 g0
  obtain ⟨a, ha, rfl, wa⟩ := DataW.trod_int Tryd.underlying3 g1
  obtain ⟨b, hb, rfl, wb⟩ := DataW.trod_int Tryd.underlying3 g2
  simp only [List.cons.injEq, and_true] at ho ha hb
  subst ho ha hb
  simp only [List.map_cons, List.map_nil, DataW.weights, Tryd.underlying63, DataW.weightsEach, List.append_nil, List.nil_append] at hw
  obtain ⟨y, hy, hfit⟩ := open_cn m _ _ g3 fun n hn => hw n hn
  simp only [Cn.cells, List.cons.injEq, and_true] at hy
  obtain ⟨rfl, rfl, rfl⟩ := hy
  exact ⟨⟨o, a, b, y⟩, rfl, bounds64 wo, bounds64 wa, bounds64 wb, hfit⟩

set_option maxRecDepth 100000 in
theorem open_ent (fuel : Nat) (cs : List Value) (x : DataW H × List MemPlace) (h : DataW.trod enc Tryd.prog W 0 (fun _ => true) true fuel 68 cs = some x)
    (hw : ∀ n ∈ x.1.weights Tryd.prog 68, n ≤ reachBytes) : ∃ y : Ent, cs = y.cells ∧ y.Fit := by
  obtain ⟨xs, m, rfl, rfl, hl, hlen, hf⟩ := DataW.trod_struct Tryd.underlying68 h
  rw [cellsEnt] at hl
  obtain ⟨y0, y1, y2, rfl⟩ := list3 hlen
  obtain ⟨v0, v1, v2, rfl⟩ := list3 hl
  have g0 := hf 0 _ rfl
  have g1 := hf 1 _ rfl
  have g2 := hf 2 _ rfl
  simp [cellsI, cellsS] at g0 g1 g2
  obtain ⟨s, hs, rfl, ws⟩ := DataW.trod_string Tryd.underlying9 g0
  obtain ⟨p, hp, rfl, wp⟩ := DataW.trod_int Tryd.underlying3 g1
  obtain ⟨t, ht, rfl, wt⟩ := DataW.trod_int Tryd.underlying3 g2
  simp only [List.cons.injEq, and_true] at hs hp ht
  subst hs hp ht
  simp only [List.map_cons, List.map_nil, DataW.weights, Tryd.underlying68, DataW.weightsEach, List.append_nil, List.mem_cons, List.mem_nil_iff, or_false] at hw
  have hs' : s.size ≤ 140737488351232 := by
    have h9 := hw s.data.toList.length rfl
    rw [reach_eq] at h9
    exact h9
  exact ⟨⟨s, p, t⟩, rfl, hs', bounds64 wp, bounds64 wt⟩

/-- A code. -/
structure Codev where
  ip : Option Addr
  ic : Nat
  il : List Ins
  ep : Option Addr
  ec : Nat
  el : List Ent
  q : Int
def Codev.val (x : Codev) : Value := .agg #[.slice x.ip x.il.length x.ic, .slice x.ep x.el.length x.ec, .int .i64 x.q]
def Codev.In (w : World) (x : Codev) : Prop := InsSl w x.ip x.ic x.il ∧ EntSl w x.ep x.ec x.el ∧ In64 x.q

set_option maxRecDepth 100000 in
/-- An argument of type api.Code. -/
theorem open_code_arg {r : Reach} {b0 : Nat} {v : Value} {d : DataW H} {p : List MemPlace} (hv : Value.okWide Tryd.prog W r b0 32 v)
    (h : DataW.Trod enc Tryd.prog W 0 (fun _ => true) true 32 v d p) (hw : ∀ n ∈ d.weights Tryd.prog 32, n ≤ reachBytes) : ∃ x : Codev, v = x.val ∧ x.In W := by
  obtain ⟨cs, rfl, hsz⟩ := okWide_struct Tryd.underlying32 hv
  obtain ⟨fuel, hf0⟩ := h
  obtain ⟨xs, m, rfl, hds, hl, hlen, hf⟩ := DataW.trod_struct Tryd.underlying32 hf0
  rw [cellsCode] at hl
  obtain ⟨y0, y1, y2, rfl⟩ := list3 hlen
  change cs.toList.length = 3 at hl
  obtain ⟨v0, v1, v2, hcs⟩ := list3 hl
  have g0 := hf 0 _ rfl
  have g1 := hf 1 _ rfl
  have g2 := hf 2 _ rfl
  change _ = some _ at g0 g1 g2
  simp only [Value.cells, hcs] at g0 g1 g2
  simp [cellsI, cellsInsSl, cellsEntSl] at g0 g1 g2
  simp only [Prod.mk.injEq] at hds
  obtain ⟨rfl, rfl⟩ := hds
  simp only [List.map_cons, List.map_nil, DataW.weights, Tryd.underlying32, DataW.weightsEach, List.append_nil, List.mem_append] at hw
  obtain ⟨p0, c0, l0, e0, s0⟩ := open_sl Ins.cells Ins.Fit Tryd.underlying29 cellsIns bytesIns (by decide) open_ins g0 fun n hn => hw n (.inl hn)
  obtain ⟨p1, c1, l1, e1, s1⟩ := open_sl Ent.cells Ent.Fit Tryd.underlying30 cellsEnt bytesEnt (by decide) open_ent g1 fun n hn => hw n (.inr (.inl hn))
  obtain ⟨q, hq, rfl, wq⟩ := DataW.trod_int Tryd.underlying3 g2
  simp only [List.cons.injEq, and_true] at e0 e1 hq
  subst e0 e1 hq
  refine ⟨⟨p0, c0, l0, p1, c1, l1, q⟩, ?_, s0, s1, bounds64 wq⟩
  unfold Codev.val
  congr 1
  rw [← Array.toArray_toList (xs := cs), hcs]
end
end Go.Proofs.YtgaijgadeodoeaaDoor
