/-
  The operators that are there from the start, plain: they may stand.
-/
import Derived.Test.YtgaijgadeodoeaaDoorQ5
namespace Go.Proofs.YtgaijgadeodoeaaDoor
open Go.RowKit

/-- One kind, one priority, some names. -/
structure OpGroup where
  t : Int
  p : Int
  l : List ByteArray

def OpGroup.ops (g : OpGroup) : List Opv := g.l.map fun n => ⟨n, g.p, g.t⟩

def grp0 : OpGroup := ⟨1, 1200, [⟨#[58, 45]⟩, ⟨#[45, 45, 62]⟩]⟩
def grp1 : OpGroup := ⟨1, 700, [⟨#[61]⟩, ⟨#[92, 61]⟩, ⟨#[61, 61]⟩, ⟨#[92, 61, 61]⟩, ⟨#[64, 60]⟩, ⟨#[64, 62]⟩, ⟨#[64, 61, 60]⟩, ⟨#[64, 62, 61]⟩, ⟨#[61, 46, 46]⟩, ⟨#[105, 115]⟩, ⟨#[61, 58, 61]⟩, ⟨#[61, 92, 61]⟩, ⟨#[60]⟩, ⟨#[62]⟩, ⟨#[61, 60]⟩, ⟨#[62, 61]⟩]⟩
def grp2 : OpGroup := ⟨1, 200, [⟨#[42, 42]⟩]⟩
def grp3 : OpGroup := ⟨2, 1100, [⟨#[59]⟩]⟩
def grp4 : OpGroup := ⟨2, 1050, [⟨#[45, 62]⟩]⟩
def grp5 : OpGroup := ⟨2, 200, [⟨#[94]⟩]⟩
def grp6 : OpGroup := ⟨3, 500, [⟨#[43]⟩, ⟨#[45]⟩, ⟨#[47, 92]⟩, ⟨#[92, 47]⟩, ⟨#[120, 111, 114]⟩]⟩
def grp7 : OpGroup := ⟨3, 400, [⟨#[42]⟩, ⟨#[47]⟩, ⟨#[47, 47]⟩, ⟨#[109, 111, 100]⟩, ⟨#[114, 101, 109]⟩, ⟨#[100, 105, 118]⟩, ⟨#[60, 60]⟩, ⟨#[62, 62]⟩]⟩
def grp8 : OpGroup := ⟨4, 900, [⟨#[92, 43]⟩]⟩
def grp9 : OpGroup := ⟨4, 200, [⟨#[45]⟩, ⟨#[92]⟩]⟩
def grp10 : OpGroup := ⟨5, 1200, [⟨#[58, 45]⟩]⟩
def opGroups : List OpGroup := [grp0, grp1, grp2, grp3, grp4, grp5, grp6, grp7, grp8, grp9, grp10]
def defaults : List Opv := opGroups.flatMap OpGroup.ops

/-- The same in lists of bytes. -/
def Opv.pl (x : Opv) : List UInt8 × Int × Int := (x.s.data.toList, x.p, x.t)
def badOpP (x : List UInt8 × Int × Int) : Bool :=
  decide (100 < x.1.length) || decide (x.2.1 < 1) || decide (1200 < x.2.1) || decide (x.2.2 < 1) || decide (5 < x.2.2) || decide (x.1 = [44]) || decide (x.1 = [124]) || decide (x.1 = [91, 93]) || decide (x.1 = [123, 125])
def clashP (x y : List UInt8 × Int × Int) : Bool := decide (x.1 = y.1) && (decide (x.2.2 ≤ 3) == decide (y.2.2 ≤ 3))
def badToP (l : List (List UInt8 × Int × Int)) : Nat → Bool
  | 0 => decide (200 < l.length)
  | k + 1 => badToP l k || match l[k]? with
    | none => false
    | some x => badOpP x || (l.take k).any (clashP · x)

theorem badOp_pl (x : Opv) : badOp x = badOpP x.pl := by
  simp only [badOp, badOpP, Opv.pl, ByteArray.toList_eq]
  rfl

theorem clash_pl (x y : Opv) : clash x y = clashP x.pl y.pl := by
  simp only [clash, clashP, Opv.pl, ByteArray.toList_eq]
  rfl

theorem badTo_pl (l : List Opv) (k : Nat) : badTo l k = badToP (l.map Opv.pl) k := by
  induction k with
  | zero => simp [badTo, badToP]
  | succ k ih =>
    rw [badTo, badToP, ih, List.getElem?_map, ← List.map_take]
    cases l[k]? with
    | none => rfl
    | some x =>
      have e : ((l.take k).map Opv.pl).any (clashP · x.pl) = (l.take k).any (clash · x) := by
        rw [List.any_map]
        congr 1
        funext y
        exact (clash_pl y x).symm
      simp only [Option.map_some]
      rw [e, badOp_pl]

theorem defaults_good : badTo defaults defaults.length = false := by
  rw [badTo_pl]
  kernel_rfl

theorem defaults_len : defaults.length = 39 := by kernel_rfl

theorem groups_small : ∀ g ∈ opGroups, (1 ≤ g.p ∧ g.p ≤ 1200) ∧ (1 ≤ g.t ∧ g.t ≤ 5) ∧ ∀ n ∈ g.l, n.size ≤ 3 := by
  intro g hg
  simp only [opGroups, List.mem_cons, List.mem_nil_iff, or_false] at hg
  rcases hg with rfl | rfl | rfl | rfl | rfl | rfl | rfl | rfl | rfl | rfl | rfl <;> exact ⟨by decide, by decide, by decide⟩

theorem defaults_small : ∀ y ∈ defaults, y.s.size ≤ 140737488351232 ∧ In64 y.p ∧ In64 y.t := by
  intro y hy
  obtain ⟨g, hg, hy⟩ := List.mem_flatMap.1 hy
  obtain ⟨n, hn, rfl⟩ := List.mem_map.1 hy
  obtain ⟨h1, h2, h3⟩ := groups_small g hg
  have := h3 n hn
  refine ⟨?_, ?_, ?_⟩
  · show n.size ≤ _
    omega
  · show In64 g.p
    unfold In64
    omega
  · show In64 g.t
    unfold In64
    omega

end Go.Proofs.YtgaijgadeodoeaaDoor
