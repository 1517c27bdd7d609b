/-
  Blocks of any type; new slices of one term and of two; append of nothing.
  hornkeep's own: a term in new memory, with spare room in which marks stand.
  A clause, as a term, makes the same clause (no program here).
  Which names are reserved, which builtins are allowed, which codes may run: plain.
  The order of terms: a total one (plain).
  Facts for the bases that the laws make (no program here).
  hornkeep.still: a term of one's own that is as it was.
  hornkeep.spoilt, spoilTerm: what is written over is one's own.
  hornkeep.twice: what is answered is the caller's.
  term.Map with a function that keeps nothing: what it makes lies whole, in new memory.
-/
import Derived.Test.YtcblmkhhhibddaaTS06
import Derived.Test.YtcblmkhhhibddaaTS07
import Derived.Test.YtcblmkhhhibddaaTS03
import Derived.Lib.AppendZeros
import Derived.Deep.LoopGhost
import Derived.Deep.CutRange
import Derived.Deep.CutBlock
import Derived.Deep.Light
import Derived.Test.YtcblmkhhhibddaaTS04
import Derived.Test.YtcblmkhhhibddaaTS05
namespace Go.Proofs.Ytcblmkhhhibddaa
open Go.RowKit Go.Maps Go.Lib

/-- A new slice of one term. -/
theorem one_new {t : Tm} {w w' : World} (ht : t.In w) (hg : Gr (w.alloc (.cells #[.int .i64 t.k, .int .i64 t.n, .string t.s, .slice t.p t.l.length t.c] 25)) w') : Tm.Sl w' (some ⟨w.heap.size, 0, none⟩) 1 [t] := by
  obtain ⟨⟨y0, y1, y2, y3⟩, _, _⟩ := ((Blk4.new w (.int .i64 t.k) (.int .i64 t.n) (.string t.s) (.slice t.p t.l.length t.c)).gr hg).parts
  exact one_row (Tm.In_below (below_step hg (by go_grown)) ht) y0 y1 y2 y3

theorem tm_val (k n : Int) (s : ByteArray) (p : Option Addr) (c : Nat) (l : List Tm) : (Tm.mk k n s p c l).val = .agg #[.int .i64 k, .int .i64 n, .string s, .slice p l.length c] := rfl

/-- A new slice of two terms. -/
theorem two_new {t u : Tm} {w w' : World} (ht : t.In w) (hu : u.In w)
    (hg : Gr (w.alloc (.cells #[.int .i64 t.k, .int .i64 t.n, .string t.s, .slice t.p t.l.length t.c, .int .i64 u.k, .int .i64 u.n, .string u.s, .slice u.p u.l.length u.c] 25)) w') : Tm.Sl w' (some ⟨w.heap.size, 0, none⟩) 2 [t, u] := by
  have hb : w'.heap[w.heap.size]? = some (.cells #[.int .i64 t.k, .int .i64 t.n, .string t.s, .slice t.p t.l.length t.c, .int .i64 u.k, .int .i64 u.n, .string u.s, .slice u.p u.l.length u.c] 25) :=
    (hg.block w.heap.size (by simp)).trans (heap_alloc_new w _)
  have hw : Gr w w' := below_step hg (by go_grown)
  exact two_row (Tm.In_below hw ht) (Tm.In_below hw hu) (cell_of_row _ _ 0 _ _ _ hb) (cell_of_row _ _ 1 _ _ _ hb) (cell_of_row _ _ 2 _ _ _ hb) (cell_of_row _ _ 3 _ _ _ hb) (cell_of_row _ _ 4 _ _ _ hb) (cell_of_row _ _ 5 _ _ _ hb) (cell_of_row _ _ 6 _ _ _ hb) (cell_of_row _ _ 7 _ _ _ hb)

theorem Blk4.set4 {w : World} {b : Nat} {v0 v1 v2 v3 : Value} (h : Blk4 w b v0 v1 v2 v3) (u0 u1 u2 u3 : Value) : Blk4 ((((w.setCell ⟨b, 0, none⟩ u0).setCell ⟨b, 1, none⟩ u1).setCell ⟨b, 2, none⟩ u2).setCell ⟨b, 3, none⟩ u3) b u0 u1 u2 u3 := by
  have h1 := heap_setCell_same _ b 0 _ _ u0 h
  have h2 := heap_setCell_same _ b 1 _ _ u1 h1
  have h3 := heap_setCell_same _ b 2 _ _ u2 h2
  have h4 := heap_setCell_same _ b 3 _ _ u3 h3
  exact h4

/-- A block that is just these cells. -/
def BlkT (w : World) (b : Nat) (t : TypeId) (vs : Array Value) : Prop := w.heap[b]? = some (.cells vs t)
section
variable {w w' : World} {b : Nat} {t : TypeId} {vs : Array Value}
theorem BlkT.lt (h : BlkT w b t vs) : b < w.heap.size := (Array.getElem?_eq_some_iff.1 h).1
theorem BlkT.gr (h : BlkT w b t vs) (hg : Gr w w') : BlkT w' b t vs := (hg.block b h.lt).trans h
theorem BlkT.kp {C : Nat → Prop} (h : BlkT w b t vs) (hg : Kp C w w') (hb : ¬ C b) : BlkT w' b t vs := (hg.block b h.lt hb).trans h
theorem BlkT.new (w : World) (t : TypeId) (vs : Array Value) : BlkT (w.alloc (.cells vs t)) w.heap.size t vs := heap_alloc_new w _
theorem BlkT.cell (h : BlkT w b t vs) (i : Nat) {v : Value} (hi : vs[i]? = some v) : w.cell? ⟨b, i, none⟩ = some v := by rw [cell_of_row w b i _ _ _ h, hi]
theorem BlkT.open_ (h : BlkT w b t vs) (i : Nat) : w.frozen? ⟨b, i, none⟩ = false := frozen_of_row w b i _ _ h
theorem BlkT.set (h : BlkT w b t vs) (i : Nat) (v : Value) : BlkT (w.setCell ⟨b, i, none⟩ v) b t (vs.setIfInBounds i v) := heap_setCell_same _ b i _ _ v h
end

/-- append of nothing. -/
theorem run_append_empty {P : Program} (w : World) (t ty e : TypeId) (i : TypeInfo) (ht : P.underlying t = some (.slice e)) (hi : P.info? e = some i) (q : Option Addr) (k cp : Nat) (p : Option Addr) (c : Nat) (hk : k ≤ cp) :
    (Builtin.append_ #[t, t] ty #[.slice q k cp, .slice p 0 c]).run P w = .ok (.slice q k cp) w := by
  have h0 : (Builtin.firstCells i.size 0 (.slice p 0 c)).run P w = .ok #[] w := by
    cases p with
    | none => exact run_firstCells_none w _ _ _ _
    | some a => exact run_firstCells_some w i.size 0 a 0 c [] (by simp) (by simp)
  cases q <;> simp [Builtin.append_, run_underlying ht, Go.sizeOf, typeInfo, hi, hk, h0, Builtin.lenOf, storeCells]
end Go.Proofs.Ytcblmkhhhibddaa

namespace Go.Proofs.Ytcblmkhhhibddaa
open Go.RowKit Go.Lib

mutual
/-- Behind all Args of the term there is room for three, in which marks stand. -/
def Tm.Roomy (w : World) : Tm → Prop
  | .mk _ _ _ p c l => (l = [] ∨ ∃ b, p = some ⟨b, 0, none⟩ ∧ c = l.length + 3 ∧ ∀ j, j < 12 → w.cell? ⟨b, l.length * 4 + j, none⟩ = marks[j]?) ∧ Tm.RoomyL w l
def Tm.RoomyL (w : World) : List Tm → Prop
  | [] => True
  | x :: xs => Tm.Roomy w x ∧ Tm.RoomyL w xs
end

mutual
theorem Tm.Roomy.same {w w' : World} {S : Nat → Prop} (hS : ∀ b, S b → ∀ o, w'.cell? ⟨b, o, none⟩ = w.cell? ⟨b, o, none⟩) : ∀ {t : Tm}, t.On S → t.Roomy w → t.Roomy w'
  | .mk k n s p c l, ho, h => by
    rw [Tm.On] at ho
    rw [Tm.Roomy] at h ⊢
    refine ⟨?_, Tm.RoomyL.same hS ho.2 h.2⟩
    rcases ho.1 with h1 | ⟨b, o, hp, hb⟩
    · exact .inl h1
    · refine h.1.imp id ?_
      rintro ⟨b', hp', hc, hm⟩
      rw [hp] at hp'
      cases hp'
      exact ⟨b, hp, hc, fun j hj => (hS b hb _).trans (hm j hj)⟩
theorem Tm.RoomyL.same {w w' : World} {S : Nat → Prop} (hS : ∀ b, S b → ∀ o, w'.cell? ⟨b, o, none⟩ = w.cell? ⟨b, o, none⟩) : ∀ {l : List Tm}, Tm.OnL S l → Tm.RoomyL w l → Tm.RoomyL w' l
  | [], _, _ => by rw [Tm.RoomyL]; trivial
  | x :: xs, ho, h => by
    rw [Tm.OnL] at ho
    rw [Tm.RoomyL] at h ⊢
    exact ⟨Tm.Roomy.same hS ho.1 h.1, Tm.RoomyL.same hS ho.2 h.2⟩
end
theorem Tm.Roomy.gr {w w' : World} {t : Tm} (h : t.Roomy w) (hi : t.In w) (hg : Gr w w') : t.Roomy w' :=
  Tm.Roomy.same (S := (· < w.heap.size)) (fun b hb _ => World.cell?_of_block (hg.block b hb)) hi.on h
end Go.Proofs.Ytcblmkhhhibddaa

namespace Go.Proofs.Ytcblmkhhhibddaa

/-- A renaming of variables. -/
def vf (g : Int → Int) (n : Int) : T := varT (g n)
theorem map_atom (f : Int → T) {k n : Int} {s : List UInt8} (h1 : k ≠ 1) (h4 : k ≠ 4) : T.map f (.mk k n s []) = .mk k n s [] := by rw [T.map, if_neg h1, if_neg h4]
theorem map_comp (f : Int → T) (n : Int) (s : List UInt8) (l : List T) : T.map f (.mk 4 n s l) = .mk 4 n s (T.mapL f l) := by rw [T.map, if_neg (by decide), if_pos rfl]

mutual
theorem vars_sub {V : List Int} : ∀ (t : T) (W : List Int), T.within V t → (∀ n ∈ W, n ∈ V) → ∀ n ∈ T.vars t W, n ∈ V
  | .mk k m s l, W, ht, hW => by
    rw [T.within] at ht
    rw [T.vars]
    by_cases h1 : k = 1
    · rw [if_pos h1]
      split
      · exact hW
      · intro n hn
        rcases List.mem_append.1 hn with h | h
        · exact hW n h
        · rw [List.mem_singleton.1 h]; exact ht.1 h1
    · rw [if_neg h1]; exact varsL_sub l W ht.2 hW
theorem varsL_sub {V : List Int} : ∀ (l : List T) (W : List Int), T.withinL V l → (∀ n ∈ W, n ∈ V) → ∀ n ∈ T.varsL l W, n ∈ V
  | [], W, _, hW => by rw [T.varsL]; exact hW
  | x :: xs, W, hl, hW => by
    rw [T.withinL] at hl
    rw [T.varsL]
    exact varsL_sub xs _ hl.2 (vars_sub x W hl.1 hW)
end

theorem mem_map_on {g : Int → Int} {V W : List Int} (hg : ∀ a ∈ V, ∀ b ∈ V, g a = g b → a = b) (hW : ∀ n ∈ W, n ∈ V) {n : Int} (hn : n ∈ V) : g n ∈ W.map g ↔ n ∈ W := by
  constructor
  · intro h
    obtain ⟨m, hm, e⟩ := List.mem_map.1 h
    rw [← hg m (hW m hm) n hn e]
    exact hm
  · exact List.mem_map_of_mem

mutual
theorem vars_mapped {g : Int → Int} {V : List Int} (hg : ∀ a ∈ V, ∀ b ∈ V, g a = g b → a = b) : ∀ (t : T) (W : List Int), t.formed = true → T.within V t → (∀ n ∈ W, n ∈ V) → T.vars (T.map (vf g) t) (W.map g) = (T.vars t W).map g
  | .mk k n s l, W, hf, ht, hW => by
    rw [T.within] at ht
    by_cases h1 : k = 1
    · subst h1
      rw [T.map, if_pos rfl, vf, varT, T.vars, if_pos rfl, T.vars, if_pos rfl]
      by_cases hn : n ∈ W
      · rw [if_pos hn, if_pos ((mem_map_on hg hW (ht.1 rfl)).2 hn)]
      · rw [if_neg hn, if_neg (fun h => hn ((mem_map_on hg hW (ht.1 rfl)).1 h)), List.map_append, List.map_cons, List.map_nil]
    · rcases formed_args hf with ⟨rfl, hl⟩ | ⟨h4, rfl⟩
      · rw [map_comp, T.vars, if_neg h1, T.vars, if_neg h1]
        exact varsL_mapped hg l W hl ht.2 hW
      · rw [map_atom _ h1 h4, T.vars, if_neg h1, T.vars, if_neg h1, T.varsL, T.varsL]
theorem varsL_mapped {g : Int → Int} {V : List Int} (hg : ∀ a ∈ V, ∀ b ∈ V, g a = g b → a = b) : ∀ (l : List T) (W : List Int), T.formedL l = true → T.withinL V l → (∀ n ∈ W, n ∈ V) → T.varsL (T.mapL (vf g) l) (W.map g) = (T.varsL l W).map g
  | [], W, _, _, _ => by rw [T.mapL, T.varsL, T.varsL]
  | x :: xs, W, hf, hl, hW => by
    rw [T.withinL] at hl
    rw [T.formedL, Bool.and_eq_true] at hf
    rw [T.mapL, T.varsL, T.varsL, vars_mapped hg x W hf.1 hl.1 hW]
    exact varsL_mapped hg xs _ hf.2 hl.2 (vars_sub x W hl.1 hW)
end


theorem idxOf_map_on {g : Int → Int} : ∀ (V W : List Int), (∀ a ∈ W, ∀ b ∈ W, g a = g b → a = b) → (∀ n ∈ V, n ∈ W) → ∀ n ∈ W, (V.map g).idxOf (g n) = V.idxOf n
  | [], _, _, _, _, _ => rfl
  | x :: xs, W, hg, hs, n, hn => by
    rw [List.map_cons, List.idxOf_cons, List.idxOf_cons]
    by_cases h : x = n
    · subst h; simp
    · have h2 : ¬ g x = g n := fun e => h (hg x (hs x (by simp)) n hn e)
      simp only [beq_eq_false_iff_ne.2 h, beq_eq_false_iff_ne.2 h2, cond_false]
      rw [idxOf_map_on xs W hg (fun m hm => hs m (by simp [hm])) n hn]

end Go.Proofs.Ytcblmkhhhibddaa

namespace Go.Proofs.Ytcblmkhhhibddaa
open Go.RowKit

def sCall : List UInt8 := [99, 97, 108, 108]
def resRow0 : List (List UInt8) := [[116, 114, 117, 101], [102, 97, 105, 108], [33], [110, 108]]
def resRow1 : List (List UInt8) := [[92, 43], [116, 104, 114, 111, 119], [118, 97, 114], [110, 111, 110, 118, 97, 114], [97, 116, 111, 109], [105, 110, 116, 101, 103, 101, 114], [97, 116, 111, 109, 105, 99], [99, 111, 109, 112, 111, 117, 110, 100], [99, 97, 108, 108, 97, 98, 108, 101], [103, 114, 111, 117, 110, 100], [97, 115, 115, 101, 114, 116, 122], [97, 115, 115, 101, 114, 116, 97], [114, 101, 116, 114, 97, 99, 116], [112, 114, 105, 110, 116], [58, 45]]
def resRow2 : List (List UInt8) := [[44], [59], [45, 62], [61], [92, 61], [61, 61], [92, 61, 61], [64, 60], [64, 62], [64, 61, 60], [64, 62, 61], [61, 46, 46], [99, 111, 112, 121, 95, 116, 101, 114, 109], [105, 115], [61, 58, 61], [61, 92, 61], [60], [62], [61, 60], [62, 61], [97, 116, 111, 109, 95, 108, 101, 110, 103, 116, 104], [97, 116, 111, 109, 95, 99, 104, 97, 114, 115], [108, 101, 110, 103, 116, 104], [115, 111, 114, 116], [58, 45], [45, 45, 62]]
def resRow3 : List (List UInt8) := [[99, 97, 116, 99, 104], [102, 105, 110, 100, 97, 108, 108], [99, 111, 109, 112, 97, 114, 101], [102, 117, 110, 99, 116, 111, 114], [97, 114, 103], [98, 101, 116, 119, 101, 101, 110]]
def notAllowed : List (List UInt8) := [[116, 114, 117, 101], [102, 97, 105, 108], [33], [44], [59], [45, 62], [92, 43], [99, 97, 108, 108], [99, 97, 116, 99, 104], [102, 105, 110, 100, 97, 108, 108], [98, 101, 116, 119, 101, 101, 110], [97, 115, 115, 101, 114, 116, 122], [97, 115, 115, 101, 114, 116, 97], [114, 101, 116, 114, 97, 99, 116], [58, 45], [45, 45, 62]]
def resRow : Nat → List (List UInt8)
  | 0 => resRow0
  | 1 => resRow1
  | 2 => resRow2
  | 3 => resRow3
  | _ => []

/-- Is a name with so many arguments reserved? -/
def reserved (s : List UInt8) (n : Int) : Bool :=
  if s = sCall then decide (1 ≤ n) && decide (n ≤ 8) else if n < 0 ∨ 3 < n then false else decide (s ∈ resRow n.toNat)

/-- Is a builtin allowed in code? -/
def allowed (s : List UInt8) (n : Int) : Bool := if s ∈ notAllowed then false else reserved s n
end Go.Proofs.Ytcblmkhhhibddaa

namespace Go.Proofs.Ytcblmkhhhibddaa

def lex (x y : Int) : Int := if x = 0 then y else x

/-- Three comparisons that fit. -/
structure Tri (x y z : Int) : Prop where
  le : x ≤ 0 → y ≤ 0 → z ≤ 0 ∧ (z = 0 → x = 0 ∧ y = 0)
  l : x = 0 → z = y
  r : y = 0 → z = x

theorem Tri.lex {x y z x' y' z' : Int} (h : Tri x y z) (h' : x = 0 → y = 0 → Tri x' y' z') : Tri (lex x x') (lex y y') (lex z z') := by
  unfold Go.Proofs.Ytcblmkhhhibddaa.lex
  by_cases hx : x = 0
  · have hz := h.l hx
    by_cases hy : y = 0
    · have hz0 : z = 0 := by omega
      rw [if_pos hx, if_pos hy, if_pos hz0]
      exact h' hx hy
    · rw [if_pos hx, if_neg hy, if_neg (by omega), hz]
      exact ⟨fun _ h2 => ⟨h2, fun h3 => absurd h3 hy⟩, fun _ => rfl, fun h2 => absurd h2 hy⟩
  · by_cases hy : y = 0
    · have hz := h.r hy
      rw [if_neg hx, if_pos hy, if_neg (by omega), hz]
      exact ⟨fun h1 _ => ⟨h1, fun h3 => absurd h3 hx⟩, fun h1 => absurd h1 hx, fun _ => rfl⟩
    · rw [if_neg hx, if_neg hy]
      refine ⟨fun h1 h2 => ?_, fun h1 => absurd h1 hx, fun h2 => absurd h2 hy⟩
      obtain ⟨h3, h4⟩ := h.le h1 h2
      have hz : z ≠ 0 := fun e => hx (h4 e).1
      rw [if_neg hz]
      exact ⟨h3, fun e => absurd e hz⟩

theorem cmpI_neg (a b : Int) : cmpI b a = -cmpI a b := by
  unfold cmpI
  split <;> split <;> (try split) <;> omega

theorem cmpI_range (a b : Int) : -1 ≤ cmpI a b ∧ cmpI a b ≤ 1 := by
  unfold cmpI
  split <;> (try split) <;> omega

theorem cmpI_zero {a b : Int} : cmpI a b = 0 ↔ a = b := by
  unfold cmpI
  constructor
  · intro h; split at h <;> (try split at h) <;> omega
  · rintro rfl; simp

def cb1 (a b : UInt8) : Int := if a < b then -1 else if b < a then 1 else 0
theorem cb1_eq (a b : UInt8) : cb1 a b = cmpI a.toNat b.toNat := by
  unfold cb1 cmpI
  simp only [UInt8.lt_iff_toNat_lt]
  split <;> split <;> (try split) <;> (try split) <;> omega

theorem cb_cons (a b : UInt8) (x y : List UInt8) : Lib.compareBytes (a :: x) (b :: y) = lex (cb1 a b) (Lib.compareBytes x y) := by
  rw [Lib.compareBytes, lex, cb1]
  split
  · rfl
  · split <;> rfl

theorem lex_neg {x y x' y' : Int} (h : y = -x) (h' : y' = -x') : lex y y' = -lex x x' := by
  unfold lex
  split <;> split <;> omega

theorem lex_range {x y : Int} (h : -1 ≤ x ∧ x ≤ 1) (h' : -1 ≤ y ∧ y ≤ 1) : -1 ≤ lex x y ∧ lex x y ≤ 1 := by
  unfold lex
  split <;> assumption

theorem lex_zero {x y : Int} : lex x y = 0 ↔ x = 0 ∧ y = 0 := by
  unfold lex
  split <;> constructor <;> omega

theorem cb_neg : ∀ a b : List UInt8, Lib.compareBytes b a = -Lib.compareBytes a b
  | [], [] => by simp [Lib.compareBytes]
  | [], _ :: _ => by simp [Lib.compareBytes]
  | _ :: _, [] => by simp [Lib.compareBytes]
  | a :: x, b :: y => by
    rw [cb_cons, cb_cons]
    exact lex_neg (by rw [cb1_eq, cb1_eq, cmpI_neg]) (cb_neg x y)

theorem cb_range : ∀ a b : List UInt8, -1 ≤ Lib.compareBytes a b ∧ Lib.compareBytes a b ≤ 1
  | [], [] => by simp [Lib.compareBytes]
  | [], _ :: _ => by simp [Lib.compareBytes]
  | _ :: _, [] => by simp [Lib.compareBytes]
  | a :: x, b :: y => by
    rw [cb_cons]
    exact lex_range (by rw [cb1_eq]; exact cmpI_range _ _) (cb_range x y)

theorem cb_zero : ∀ a b : List UInt8, Lib.compareBytes a b = 0 ↔ a = b
  | [], [] => by simp [Lib.compareBytes]
  | [], _ :: _ => by simp [Lib.compareBytes]
  | _ :: _, [] => by simp [Lib.compareBytes]
  | a :: x, b :: y => by
    rw [cb_cons, lex_zero, cb1_eq, cmpI_zero, cb_zero x y, List.cons.injEq]
    constructor
    · rintro ⟨h1, h2⟩; exact ⟨by rw [← UInt8.toNat_inj]; omega, h2⟩
    · rintro ⟨h1, h2⟩; exact ⟨by rw [h1], h2⟩

theorem order_eq (k n : Int) (s : List UInt8) (l : List T) (k' n' : Int) (s' : List UInt8) (l' : List T) :
    T.order (.mk k n s l) (.mk k' n' s' l') = lex (cmpI k k') (if k = 3 then Lib.compareBytes s s' else if k = 4 then lex (lex (cmpI l.length l'.length) (Lib.compareBytes s s')) (T.orderL l l') else cmpI n n') := by
  rw [T.order]
  unfold lex
  by_cases h : k = k'
  · rw [if_pos h, if_pos (cmpI_zero.2 h)]
  · rw [if_neg h, if_neg (fun e => h (cmpI_zero.1 e))]


mutual
theorem order_neg : ∀ a b : T, T.order b a = -T.order a b
  | .mk k n s l, .mk k' n' s' l' => by
    rw [order_eq, order_eq]
    by_cases h : k = k'
    · subst h
      refine lex_neg (cmpI_neg _ _) ?_
      by_cases h3 : k = 3
      · simp only [if_pos h3]; exact cb_neg _ _
      simp only [if_neg h3]
      by_cases h4 : k = 4
      · simp only [if_pos h4]
        exact lex_neg (lex_neg (cmpI_neg _ _) (cb_neg _ _)) (orderL_neg l l')
      · simp only [if_neg h4]; exact cmpI_neg _ _
    · unfold lex
      rw [if_neg (fun e => h (cmpI_zero.1 e)), if_neg (fun e => h (cmpI_zero.1 e).symm), cmpI_neg]
theorem orderL_neg : ∀ a b : List T, T.orderL b a = -T.orderL a b
  | [], [] => by simp [T.orderL]
  | [], _ :: _ => by simp [T.orderL]
  | _ :: _, [] => by simp [T.orderL]
  | a :: x, b :: y => by
    have h := lex_neg (order_neg a b) (orderL_neg x y)
    simp only [T.orderL]
    exact h
end

mutual
theorem order_range : ∀ a b : T, -1 ≤ T.order a b ∧ T.order a b ≤ 1
  | .mk k n s l, .mk k' n' s' l' => by
    rw [order_eq]
    refine lex_range (cmpI_range _ _) ?_
    by_cases h3 : k = 3
    · simp only [if_pos h3]; exact cb_range _ _
    simp only [if_neg h3]
    by_cases h4 : k = 4
    · simp only [if_pos h4]; exact lex_range (lex_range (cmpI_range _ _) (cb_range _ _)) (orderL_range l l')
    · simp only [if_neg h4]; exact cmpI_range _ _
theorem orderL_range : ∀ a b : List T, -1 ≤ T.orderL a b ∧ T.orderL a b ≤ 1
  | [], [] => by simp [T.orderL]
  | [], _ :: _ => by simp [T.orderL]
  | _ :: _, [] => by simp [T.orderL]
  | a :: x, b :: y => by
    have h := lex_range (order_range a b) (orderL_range x y)
    simp only [T.orderL]
    exact h
end

mutual
theorem same_iff : ∀ a b : T, T.same a b = true ↔ a = b
  | .mk k n s l, .mk k' n' s' l' => by
    rw [T.same]
    simp only [Bool.and_eq_true, decide_eq_true_eq, T.mk.injEq]
    constructor
    · rintro ⟨⟨⟨⟨h1, h2⟩, h3⟩, h4⟩, h5⟩; exact ⟨h1, h2, h3, (sameL_iff l l' h4).1 h5⟩
    · rintro ⟨h1, h2, h3, h4⟩; exact ⟨⟨⟨⟨h1, h2⟩, h3⟩, by rw [h4]⟩, (sameL_iff l l' (by rw [h4])).2 h4⟩
theorem sameL_iff : ∀ a b : List T, a.length = b.length → (T.sameL a b = true ↔ a = b)
  | [], [], _ => by simp [T.sameL]
  | [], _ :: _, h => by simp at h
  | _ :: _, [], h => by simp at h
  | a :: x, b :: y, h => by
    rw [T.sameL, Bool.and_eq_true, same_iff a b, sameL_iff x y (by simpa using h), List.cons.injEq]
end

mutual
theorem order_zero : ∀ a b : T, a.formed = true → b.formed = true → (T.order a b = 0 ↔ a = b)
  | .mk k n s l, .mk k' n' s' l', ha, hb => by
    rw [order_eq, lex_zero, cmpI_zero, T.mk.injEq]
    by_cases hk : k = k'
    · subst hk
      rw [T.formed] at ha hb
      by_cases h1 : k = 1
      · subst h1
        simp at ha hb
        simp [cmpI_zero, ha, hb]
      by_cases h2 : k = 2
      · subst h2
        simp at ha hb
        simp [cmpI_zero, ha, hb]
      by_cases h3 : k = 3
      · subst h3
        simp at ha hb
        simp [cb_zero, ha, hb]
      by_cases h4 : k = 4
      · subst h4
        simp at ha hb
        simp only [show ¬ (4 : Int) = 3 by decide, if_false, if_true, lex_zero, cmpI_zero, cb_zero, true_and]
        constructor
        · rintro ⟨⟨e1, e2⟩, e3⟩
          exact ⟨by rw [ha.1.1.1.1, hb.1.1.1.1], e2, (orderL_zero l l' ha.2 hb.2).1 e3⟩
        · rintro ⟨e1, e2, e3⟩
          exact ⟨⟨by rw [e3], e2⟩, (orderL_zero l l' ha.2 hb.2).2 e3⟩
      · simp [h1, h2, h3, h4] at ha
    · constructor
      · rintro ⟨e, _⟩; exact absurd e hk
      · rintro ⟨e, _⟩; exact absurd e hk
theorem orderL_zero : ∀ a b : List T, T.formedL a = true → T.formedL b = true → (T.orderL a b = 0 ↔ a = b)
  | [], [], _, _ => by simp [T.orderL]
  | [], _ :: _, _, _ => by simp [T.orderL]
  | _ :: _, [], _, _ => by simp [T.orderL]
  | a :: x, b :: y, ha, hb => by
    rw [T.formedL, Bool.and_eq_true] at ha hb
    have h1 := order_zero a b ha.1 hb.1
    have h2 := orderL_zero x y ha.2 hb.2
    have h : T.orderL (a :: x) (b :: y) = lex (T.order a b) (T.orderL x y) := by simp only [T.orderL]; rfl
    rw [h, lex_zero, h1, h2, List.cons.injEq]
end
end Go.Proofs.Ytcblmkhhhibddaa

namespace Go.Proofs.Ytcblmkhhhibddaa

end Go.Proofs.Ytcblmkhhhibddaa

namespace Go.Proofs.Ytcblmkhhhibddaa
open Go.RowKit Go.Lib

end Go.Proofs.Ytcblmkhhhibddaa

namespace Go.Proofs.Ytcblmkhhhibddaa
open Go.RowKit Go.Lib

/-- Each of the n terms is as it was, or a mark. -/
def SameOrMark (n : Nat) (cur cur' : Array Value) : Prop :=
  cur'.size = cur.size ∧ ∀ i, i < n → (∀ j, j < 4 → cur'[i * 4 + j]? = cur[i * 4 + j]?) ∨ (∀ j, j < 4 → cur'[i * 4 + j]? = markTm.cells[j]?)
theorem SameOrMark.refl (n : Nat) (cur : Array Value) : SameOrMark n cur cur := ⟨rfl, fun _ _ => .inl fun _ _ => rfl⟩
theorem SameOrMark.trans {n : Nat} {a b c : Array Value} (h : SameOrMark n a b) (k : SameOrMark n b c) : SameOrMark n a c := by
  refine ⟨k.1.trans h.1, fun i hi => ?_⟩
  rcases k.2 i hi with k2 | k2
  · rcases h.2 i hi with h2 | h2
    · exact .inl fun j hj => (k2 j hj).trans (h2 j hj)
    · exact .inr fun j hj => (k2 j hj).trans (h2 j hj)
  · exact .inr k2

/-- From w to w' only blocks of S have turned, and there terms have been written over by marks alone. -/
structure Spoil (S : Nat → Prop) (w w' : World) : Prop where
  kp : Kp S w w'
  keep : ∀ (b : Nat) (cur : Array Value) (n : Nat), S b → w.heap[b]? = some (.cells cur 25) → cur.size = n * 4 → ∃ cur', w'.heap[b]? = some (.cells cur' 25) ∧ SameOrMark n cur cur'
theorem Spoil.of_gr {S : Nat → Prop} {w w' : World} (h : Gr w w') : Spoil S w w' :=
  ⟨Kp.of_gr h, fun b cur _ _ hb _ => ⟨cur, (h.block b (Array.getElem?_eq_some_iff.1 hb).1).trans hb, SameOrMark.refl _ _⟩⟩
theorem Spoil.trans {S : Nat → Prop} {w w' w'' : World} (h : Spoil S w w') (k : Spoil S w' w'') : Spoil S w w'' := by
  refine ⟨h.kp.trans k.kp, fun b cur n hb hc hn => ?_⟩
  obtain ⟨c1, h1, h2⟩ := h.keep b cur n hb hc hn
  obtain ⟨c2, h3, h4⟩ := k.keep b c1 n hb h1 (h2.1.trans hn)
  exact ⟨c2, h3, h2.trans h4⟩

end Go.Proofs.Ytcblmkhhhibddaa

namespace Go.Proofs.Ytcblmkhhhibddaa
open Go.RowKit Go.Lib

mutual
/-- All Args of the term lie on whole blocks of their own length. -/
def Tm.Whole (w : World) : Tm → Prop
  | .mk _ _ _ p c l => ((l = [] ∧ p = none ∧ c = 0) ∨ (l ≠ [] ∧ ∃ (b : Nat) (cur : Array Value), p = some ⟨b, 0, none⟩ ∧ c = l.length ∧ w.heap[b]? = some (.cells cur 25) ∧ cur.size = l.length * 4)) ∧ Tm.WholeL w l
def Tm.WholeL (w : World) : List Tm → Prop
  | [] => True
  | x :: xs => Tm.Whole w x ∧ Tm.WholeL w xs
end
mutual
theorem Tm.Whole.same {w w' : World} {S : Nat → Prop} (hS : ∀ b, S b → w'.heap[b]? = w.heap[b]?) : ∀ {t : Tm}, t.On S → t.Whole w → t.Whole w'
  | .mk k n s p c l, ho, h => by
    rw [Tm.On] at ho
    rw [Tm.Whole] at h ⊢
    refine ⟨?_, Tm.WholeL.same hS ho.2 h.2⟩
    refine h.1.imp id ?_
    rintro ⟨hl, b, cur, hp, hc, hb, hn⟩
    rcases ho.1 with h1 | ⟨b', o, hp', hb'⟩
    · exact absurd h1 hl
    · rw [hp] at hp'
      cases hp'
      exact ⟨hl, b, cur, hp, hc, (hS b hb').trans hb, hn⟩
theorem Tm.WholeL.same {w w' : World} {S : Nat → Prop} (hS : ∀ b, S b → w'.heap[b]? = w.heap[b]?) : ∀ {l : List Tm}, Tm.OnL S l → Tm.WholeL w l → Tm.WholeL w' l
  | [], _, _ => by rw [Tm.WholeL]; trivial
  | x :: xs, ho, h => by
    rw [Tm.OnL] at ho
    rw [Tm.WholeL] at h ⊢
    exact ⟨Tm.Whole.same hS ho.1 h.1, Tm.WholeL.same hS ho.2 h.2⟩
end
theorem Tm.WholeL_mem {w : World} : ∀ {l : List Tm}, Tm.WholeL w l → ∀ x ∈ l, Tm.Whole w x
  | _ :: _, h, x, hx => by
    rw [Tm.WholeL] at h
    rcases List.mem_cons.1 hx with rfl | hx
    · exact h.1
    · exact Tm.WholeL_mem h.2 x hx
theorem Tm.WholeL_append {w : World} : ∀ {l l' : List Tm}, Tm.WholeL w l → Tm.WholeL w l' → Tm.WholeL w (l ++ l')
  | [], _, _, h => h
  | x :: xs, _, h, h' => by
    rw [Tm.WholeL] at h
    rw [List.cons_append, Tm.WholeL]
    exact ⟨h.1, Tm.WholeL_append h.2 h'⟩
theorem Tm.Whole.gr {w w' : World} {t : Tm} (h : t.Whole w) (hi : t.In w) (hg : Gr w w') : t.Whole w' :=
  Tm.Whole.same (S := (· < w.heap.size)) (fun b hb => hg.block b hb) hi.on h
end Go.Proofs.Ytcblmkhhhibddaa

namespace Go.Proofs.Ytcblmkhhhibddaa
open Go.RowKit

/-- A term in memory is handed back, that lies whole. -/
def RetTmW (S : Nat → Prop) (t : T) (w : World) (e : Ending) (w' : World) : Prop := ∃ b : Tm, b.In w' ∧ b.erase = t ∧ e = .returned b.val ∧ Gr w w' ∧ b.On S ∧ b.Whole w'
/-- A function value that may be called: what it makes of a variable, whatever has grown since. -/
def MapFnW (fv : Value) (f : Int → T) (w0 : World) : Prop :=
  ∃ (fid : FuncId) (cap : Array Value), fv = .func (.func fid) #[] cap ∧ (∀ (n : Int) (w : World), (callFunc fid (#[.int .i64 n] ++ cap)).run Try.prog w = .ok (.enter fid (#[.int .i64 n] ++ cap)) w) ∧
    ∀ (n : Int) (w : World), Gr w0 w → In64 n → Calls Try.prog fid (#[.int .i64 n] ++ cap) w (RetTmW (w.heap.size ≤ ·) (f n) w)
theorem MapFnW.gr {fv : Value} {f : Int → T} {w0 w1 : World} (h : MapFnW fv f w0) (hg : Gr w0 w1) : MapFnW fv f w1 := by
  obtain ⟨fid, cap, h1, h2, h3⟩ := h
  exact ⟨fid, cap, h1, h2, fun n w hw hn => h3 n w (hg.trans hw) hn⟩

end Go.Proofs.Ytcblmkhhhibddaa
