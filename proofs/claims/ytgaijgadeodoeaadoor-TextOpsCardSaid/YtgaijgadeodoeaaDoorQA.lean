/-
  hornref.Default
-/
import Derived.Test.YtgaijgadeodoeaaDoorQ9
import Derived.Test.YtgaijgadeodoeaaDoorShelf
namespace Go.Proofs.YtgaijgadeodoeaaDoor
open Go.RowKit

/-- A row of the table: a kind, a priority, names with a blank between. -/
structure OpRow where
  t : Int
  p : Int
  s : ByteArray

def OpRow.cells (x : OpRow) : List Value := [.int .i64 x.t, .int .i64 x.p, .string x.s]
def blankB : ByteArray := ⟨#[32]⟩
def OpRow.pieces (x : OpRow) : List ByteArray := Lib.splitB blankB 0 (Lib.countB x.s blankB) x.s

def opRows : List OpRow := [⟨1, 1200, ⟨#[58, 45, 32, 45, 45, 62]⟩⟩, ⟨1, 700, ⟨#[61, 32, 92, 61, 32, 61, 61, 32, 92, 61, 61, 32, 64, 60, 32, 64, 62, 32, 64, 61, 60, 32, 64, 62, 61, 32, 61, 46, 46, 32, 105, 115, 32, 61, 58, 61, 32, 61, 92, 61, 32, 60, 32, 62, 32, 61, 60, 32, 62, 61]⟩⟩, ⟨1, 200, ⟨#[42, 42]⟩⟩, ⟨2, 1100, ⟨#[59]⟩⟩, ⟨2, 1050, ⟨#[45, 62]⟩⟩, ⟨2, 200, ⟨#[94]⟩⟩, ⟨3, 500, ⟨#[43, 32, 45, 32, 47, 92, 32, 92, 47, 32, 120, 111, 114]⟩⟩, ⟨3, 400, ⟨#[42, 32, 47, 32, 47, 47, 32, 109, 111, 100, 32, 114, 101, 109, 32, 100, 105, 118, 32, 60, 60, 32, 62, 62]⟩⟩, ⟨4, 900, ⟨#[92, 43]⟩⟩, ⟨4, 200, ⟨#[45, 32, 92]⟩⟩, ⟨5, 1200, ⟨#[58, 45]⟩⟩]

theorem opRows_pieces : opRows.map OpRow.pieces = opGroups.map OpGroup.l := by kernel_rfl
theorem opRows_nums : opRows.map (fun x => (x.t, x.p)) = opGroups.map (fun g => (g.t, g.p)) := by kernel_rfl
theorem opRows_small : opRows.all (fun x => decide (x.s.size ≤ 100)) = true := by kernel_rfl
theorem opGroups_small : opGroups.all (fun x => decide (x.l.length ≤ 100)) = true := by kernel_rfl

theorem rowcells_at : ∀ {l : List OpRow} {i : Nat} {x : OpRow}, l[i]? = some x → ∀ j, j < 3 → (l.flatMap OpRow.cells)[i * 3 + j]? = x.cells[j]?
  | y :: ys, 0, x, h, j, hj => by
    simp only [List.getElem?_cons_zero, Option.some.injEq] at h
    subst h
    rw [List.flatMap_cons, Nat.zero_mul, Nat.zero_add, List.getElem?_append_left (by simp [OpRow.cells]; omega)]
  | y :: ys, i + 1, x, h, j, hj => by
    simp only [List.getElem?_cons_succ] at h
    rw [List.flatMap_cons, List.getElem?_append_right (by simp [OpRow.cells]; omega), ← rowcells_at h j hj]
    congr 1
    simp [OpRow.cells]
    omega

/-- The table in memory. -/
def TableAt (w : World) (b : Nat) : Prop := ∀ (i : Nat) (x : OpRow), opRows[i]? = some x → w.cell? ⟨b, i * 3, none⟩ = some (.int .i64 x.t) ∧ w.cell? ⟨b, i * 3 + 1, none⟩ = some (.int .i64 x.p) ∧ w.cell? ⟨b, i * 3 + 2, none⟩ = some (.string x.s)

theorem TableAt.lt {w : World} {b : Nat} (h : TableAt w b) : b < w.heap.size := World.block_lt_of_cell? _ _ (h 0 _ rfl).1

theorem TableAt.gr {w w' : World} {b : Nat} (h : TableAt w b) (hg : Gr w w') : TableAt w' b := fun i x hx => by
  obtain ⟨h1, h2, h3⟩ := h i x hx
  exact ⟨hg.at h1, hg.at h2, hg.at h3⟩

theorem table_new (w : World) (t : TypeId) : TableAt (w.alloc (.cells (opRows.flatMap OpRow.cells).toArray t)) w.heap.size := by
  have h0 : ∀ (i : Nat) (x : OpRow), opRows[i]? = some x → ∀ j, j < 3 → (w.alloc (.cells (opRows.flatMap OpRow.cells).toArray t)).cell? ⟨w.heap.size, i * 3 + j, none⟩ = x.cells[j]? := by
    intro i x hx j hj
    rw [World.cell?_alloc_at _ _ _ _ rfl, List.getElem?_toArray]
    exact rowcells_at hx j hj
  exact fun i x hx => ⟨h0 i x hx 0 (by omega), h0 i x hx 1 (by omega), h0 i x hx 2 (by omega)⟩

/-- A row and its group. -/
theorem row_group {k : Nat} (hk : k < 11) : ∃ (x : OpRow) (g : OpGroup), opRows[k]? = some x ∧ opGroups[k]? = some g ∧ x.t = g.t ∧ x.p = g.p ∧ x.pieces = g.l ∧ x.s.size ≤ 100 ∧ g.l.length ≤ 100 := by
  have h1 : k < opRows.length := hk
  have h2 : k < opGroups.length := hk
  have e1 := congrArg (·[k]?) opRows_pieces
  have e2 := congrArg (·[k]?) opRows_nums
  simp only [List.getElem?_map, List.getElem?_eq_getElem h1, List.getElem?_eq_getElem h2, Option.map_some, Option.some.injEq, Prod.mk.injEq] at e1 e2
  have e3 := List.all_eq_true.1 opRows_small _ (List.getElem_mem h1)
  have e4 := List.all_eq_true.1 opGroups_small _ (List.getElem_mem h2)
  exact ⟨_, _, List.getElem?_eq_getElem h1, List.getElem?_eq_getElem h2, e2.1, e2.2, e1, of_decide_eq_true e3, of_decide_eq_true e4⟩

theorem ops_snoc {k : Nat} {g : OpGroup} (hg : opGroups[k]? = some g) : (opGroups.take (k + 1)).flatMap OpGroup.ops = (opGroups.take k).flatMap OpGroup.ops ++ g.ops := by
  obtain ⟨h, rfl⟩ := List.getElem?_eq_some_iff.1 hg
  rw [List.take_succ_eq_append_getElem h, List.flatMap_append, List.flatMap_cons, List.flatMap_nil, List.append_nil]

theorem BuiltOps.down {w : World} {B B' : Nat} {v : Value} {l : List Opv} (h : BuiltOps w B v l) (hB : B' ≤ B) : BuiltOps w B' v l := by
  refine ⟨h.1, h.2.imp id ?_⟩
  rintro ⟨g, cap, cur, rfl, h2, h3⟩
  exact ⟨g, cap, cur, rfl, Nat.le_trans hB h2, h3⟩

theorem own_ne {v v' : Value} {n R : Nat} (h : v'.ownBlock = v.ownBlock ∨ v'.ownBlock = some n) (hv : v.ownBlock ≠ some R) (hR : R < n) : v'.ownBlock ≠ some R := by
  rcases h with h | h
  · rw [h]; exact hv
  · rw [h]; intro e; cases e; omega

theorem keep_own {w w' : World} {R o : Nat} {u v : Value} (hg : w.grownBy w' u.ownBlock) (hR : R < w.heap.size) (hne : u.ownBlock ≠ some R) (h : w.cell? ⟨R, o, none⟩ = some v) : w'.cell? ⟨R, o, none⟩ = some v :=
  (World.cell?_of_block (hg.block R hR (Ne.symm hne))).trans h

set_option maxHeartbeats 1000000 in
set_option maxRecDepth 100000 in
theorem rdefault_calls (w : World) (m : Int) (hm : w.cell? ⟨0, 0, none⟩ = some (.int .i64 m)) : Calls Tryd.prog 7 #[] w (RetOps defaults w) := by
  go_enter Tryd.func7, Tryd.ntmps7
  try simp only [List.append_eq, List.cons_append, List.nil_append]
  go_upto_region 3 with fail
  have tab := table_new w 55
  have gA : Gr w (w.alloc (.cells (opRows.flatMap OpRow.cells).toArray 55)) := by go_grown
  change Code.wp _ _ _ _ (w.alloc (.cells (opRows.flatMap OpRow.cells).toArray 55))
  have hmA := gA.at hm
  have hRB : w.heap.size < (w.alloc (.cells (opRows.flatMap OpRow.cells).toArray 55)).heap.size := tab.lt
  generalize w.alloc (.cells (opRows.flatMap OpRow.cells).toArray 55) = wA at *
  go_wp2_with fail
  go_loopg [1, 22] 11 (fun n v i wr => ∃ k : Nat, k ≤ 11 ∧ n = 11 - k ∧ i = .int .i64 k ∧ Gr wA wr ∧ BuiltOps wr wA.heap.size v ((opGroups.take k).flatMap OpGroup.ops))
  case atStart => exact ⟨0, Nat.zero_le _, rfl, rfl, Gr.rfl' _, BuiltOps.nil _ _⟩
  case round =>
    obtain ⟨k, hk, rfl, rfl, gr, hb⟩ := hrel
    by_cases hlt : k < 11
    · obtain ⟨x, g, hx, hg, ext, exp, exl, hxs, hgl⟩ := row_group hlt
      obtain ⟨c0, c1, c2⟩ := (tab.gr gr) k x hx
      have hmr := gr.at hmA
      have Hsn := Lib.hid (ops_snoc hg)
      have hlen : ((opGroups.take k).flatMap OpGroup.ops).length ≤ 39 := by
        rw [← defaults_len, defaults, ← List.take_append_drop k opGroups, List.flatMap_append, List.length_append]
        simp
      have hbl := hb.block
      have hbt := hb.blt
      have hform := hb.form
      generalize (opGroups.take k).flatMap OpGroup.ops = acc at *
      obtain ⟨p0, c0', rfl⟩ := hform
      clear hx hg tab
      obtain ⟨t, p, s⟩ := x
      simp only at *
      subst ext exp
      have gsz := gr.size
      have hsp : Hid (∀ wq : World, Gr wr wq → Calls Tryd.prog 26 #[.string s, .string blankB] wq fun e w' => e = .returned (.slice (some ⟨wq.heap.size, 0, none⟩) g.l.length g.l.length) ∧ w' = wq.alloc (.cells (g.l.map Value.string).toArray 9)) := by
        intro wq hq
        have hcn := Lib.splitB_all blankB (by decide) 0 _ s rfl
        have e : g.l.length = Lib.countB s blankB + 1 := by rw [← exl]; exact hcn
        rw [e, ← exl]
        exact Tryd.strings_Split s blankB m wq (by omega) (hq.at hmr) (by decide)
      clear exl
      go_upto_region 6 with fail
      have gB : Gr wr (wr.alloc (.cells #[.int .i64 g.t, .int .i64 g.p, .string s] 55)) := by go_grown
      obtain ⟨d0, d1, d2⟩ := cells3 wr (.int .i64 g.t) (.int .i64 g.p) (.string s) 55
      have hSB : wr.heap.size < (wr.alloc (.cells #[.int .i64 g.t, .int .i64 g.p, .string s] 55)).heap.size := World.block_lt_of_cell? _ _ d0
      have hspl := Lib.hid (hsp.out _ gB)
      have hb1 := hb.gr gB
      have g1 := gr.trans gB
      clear hsp
      generalize wr.alloc (.cells #[.int .i64 g.t, .int .i64 g.p, .string s] 55) = wB at *
      go_upto_region 7 with (first | (go_at_call 26; refine hspl.out.mono ?_; rintro e w' ⟨rfl, rfl⟩) | fail)
      have gC : Gr wB (wB.alloc (.cells (g.l.map Value.string).toArray 9)) := by go_grown
      have hrow : StrRow (wB.alloc (.cells (g.l.map Value.string).toArray 9)) wB.heap.size g.l := by
        intro i x hx
        rw [World.cell?_alloc_at _ _ _ _ rfl, List.getElem?_toArray, List.getElem?_map, hx]
        rfl
      have hPB : wB.heap.size < (wB.alloc (.cells (g.l.map Value.string).toArray 9)).heap.size := by simp
      have hb2 := hb1.gr gC
      have g2 := g1.trans gC
      replace d0 := gC.at d0
      replace d1 := gC.at d1
      clear d2 hspl hb hb1 c0 c1 c2 hmr
      generalize wB.alloc (.cells (g.l.map Value.string).toArray 9) = wC at *
      go_wp2_with fail
      go_loopg [1, 31] g.l.length (fun n v i wl => ∃ j : Nat, j ≤ g.l.length ∧ n = g.l.length - j ∧ i = .int .i64 j ∧ Gr wA wl ∧ BuiltOps wl wA.heap.size v (acc ++ (g.l.take j).map fun n => ⟨n, g.p, g.t⟩) ∧ StrRow wl wB.heap.size g.l ∧ wl.cell? ⟨wr.heap.size, 0, none⟩ = some (.int .i64 g.t) ∧ wl.cell? ⟨wr.heap.size, 1, none⟩ = some (.int .i64 g.p) ∧ v.ownBlock ≠ some wB.heap.size ∧ v.ownBlock ≠ some wr.heap.size ∧ wB.heap.size < wl.heap.size)
      case atStart => exact ⟨0, Nat.zero_le _, rfl, rfl, g2, by simpa using hb2, hrow, d0, d1, fun e => by have := hbt _ e; omega, fun e => by have := hbt _ e; omega, hPB⟩
      case round =>
        clear hb2 hrow d0 d1 g2 hbt hbl
        obtain ⟨j, hj, rfl, rfl, g3, hv, hrow, d0, d1, hvP, hvS, hPl⟩ := hrel
        by_cases hjl : j < g.l.length
        · have hx := hrow j g.l[j] (List.getElem?_eq_getElem hjl)
          have Hap : Hid (∀ y, (acc ++ (g.l.take j).map fun n => ⟨n, g.p, g.t⟩) ++ [(⟨g.l[j], g.p, g.t⟩ : Opv)] = y → (acc ++ (g.l.take (j + 1)).map fun n => ⟨n, g.p, g.t⟩) = y) := by
            rintro y rfl
            rw [List.take_succ_eq_append_getElem hjl, List.map_append, List.append_assoc]
            rfl
          have hlen2 : ((acc ++ (g.l.take j).map fun n => (⟨n, g.p, g.t⟩ : Opv)).length + 1) * 32 ≤ 140737488351232 := by
            rw [List.length_append, List.length_map, List.length_take]
            omega
          generalize g.l[j] = y at *
          generalize (acc ++ (g.l.take j).map fun n => (⟨n, g.p, g.t⟩ : Opv)) = lk at *
          have hblk := hv.block
          have hgsz := g3.size
          obtain ⟨p1, c1', rfl⟩ := hv.form
          go_wp2_with (first | (at_builtin; go_loud (refine wpList_append_op rfl _ _ rfl rfl wA.heap.size (.slice p1 lk.length c1') lk ⟨y, g.p, g.t⟩ wr.heap.size 1 rfl rfl (hv.gr (by go_grown)) (by simp; omega) hlen2 (cells3 _ _ _ _ _).1 (cells3 _ _ _ _ _).2.1 (cells3 _ _ _ _ _).2.2 ?_; intro v' w1 hb1 hg1 hv1; obtain ⟨p', c', rfl⟩ := hb1.form; generalize hln : (lk ++ [(⟨y, g.p, g.t⟩ : Opv)]).length = ln at hb1 hv1 ⊢; clear hln)) | fail)
          have g4 : Gr wA w1 := Below.grown (Below.alloc g3 hgsz _) hg1 (by simp; omega) hblk
          have hd0 := World.block_lt_of_cell? _ _ d0
          simp only at hd0
          have hvP' := own_ne hv1 hvP (by simp; omega)
          have hvS' := own_ne hv1 hvS (by simp; omega)
          rw [← Hap.out _ rfl] at hb1
          go_roundg (g.l.length - (j + 1))
          case measure => omega
          case rel =>
            refine ⟨j + 1, by omega, rfl, by go_num, g4, hb1, fun i z hz => keep_own hg1 (by simp; omega) hvP (Gr.at (by go_grown) (hrow i z hz)), keep_own hg1 (by simp; omega) hvS (Gr.at (by go_grown) d0), keep_own hg1 (by simp; omega) hvS (Gr.at (by go_grown) d1), hvP', hvS', Nat.lt_of_lt_of_le hPl (Nat.le_trans (by simp) hg1.size)⟩
        · obtain rfl : j = g.l.length := by omega
          rw [List.take_length] at hv
          change BuiltOps _ _ _ (acc ++ g.ops) at hv
          rw [← Hsn.out] at hv
          clear hrow d0 d1 hvP hvS
          go_wp2_with fail
          go_roundg (11 - (k + 1))
          case measure => omega
          case rel => exact ⟨k + 1, by omega, rfl, by go_num, g3, hv⟩
    · obtain rfl : k = 11 := by omega
      go_wp2_with fail
      go_ret
      exact ⟨_, rfl, hb.down gA.size, gA.trans gr⟩
end Go.Proofs.YtgaijgadeodoeaaDoor
