/-
  A term put at a place of a tree: plain, and in memory.
  term.Put: a term put at a place.
-/
import Derived.Test.YthncdmijledpnaaTM25
import Derived.Test.YthncdmijledpnaaTM21
namespace Go.Proofs.Ythncdmijledpnaa
open Go.RowKit Go.Maps Go.Lib

def T.put : T → List Int → T → T
  | _, [], u => u
  | .mk k n s l, i :: is, u => match l[i.toNat]? with
    | none => .mk k n s l
    | some x => .mk k n s (l.set i.toNat (T.put x is u))
def Tm.put : Tm → List Int → Tm → Tm
  | _, [], u => u
  | .mk k n s p c l, i :: is, u => match l[i.toNat]? with
    | none => .mk k n s p c l
    | some x => .mk k n s p c (l.set i.toNat (Tm.put x is u))
theorem put_erase : ∀ (L : List Int) (t u : Tm), (Tm.put t L u).erase = T.put t.erase L u.erase
  | [], t, u => by rw [Tm.put, T.put]
  | i :: is, .mk k n s p c l, u => by
    rw [Tm.put, Tm.erase, T.put, eraseL_map, List.getElem?_map]
    cases h : l[i.toNat]? with
    | none => simp only [Option.map_none]; rw [Tm.erase, eraseL_map]
    | some x => simp only [Option.map_some]; rw [Tm.erase, eraseL_map, List.map_set, put_erase is x u]
/-- Where the part lies: its block and its first cell. -/
def Tm.spot : Nat → Nat → Tm → List Int → Nat × Nat
  | b, o, _, [] => (b, o)
  | b, o, t, i :: is => match t.p, t.l[i.toNat]? with
    | some a, some x => Tm.spot a.block (a.off + i.toNat * 4) x is
    | _, _ => (b, o)
theorem spot_step {b o : Nat} {t : Tm} {a : Addr} {j : Nat} {is : List Int} (hp : t.p = some a) (h : j < t.l.length) : Tm.spot b o t ((j : Int) :: is) = Tm.spot a.block (a.off + j * 4) t.l[j] is := by
  rw [Tm.spot, hp, Int.toNat_natCast, List.getElem?_eq_getElem h]

mutual
theorem tree_on : ∀ {t : Tm} {lo hi : Nat}, t.Tree lo hi → t.On (fun b => lo ≤ b ∧ b < hi)
  | .mk _ _ _ p _ l, lo, hi, h => by
    rw [Tm.Tree] at h
    rw [Tm.On]
    rcases h with h | ⟨b, hp, h1, h2, h3⟩
    · subst h
      exact ⟨.inl rfl, by rw [Tm.OnL]; trivial⟩
    · exact ⟨.inr ⟨b, 0, hp, h1, h2⟩, (treeL_on h3).mono fun x hx => ⟨by omega, hx.2⟩⟩
theorem treeL_on : ∀ {l : List Tm} {lo hi : Nat}, Tm.TreeL lo hi l → Tm.OnL (fun b => lo ≤ b ∧ b < hi) l
  | [], _, _, _ => by rw [Tm.OnL]; trivial
  | x :: xs, lo, hi, h => by
    rw [Tm.TreeL] at h
    obtain ⟨mid, h1, h2, h3, h4⟩ := h
    rw [Tm.OnL]
    exact ⟨(tree_on h3).mono fun b hb => ⟨hb.1, by omega⟩, (treeL_on h4).mono fun b hb => ⟨by omega, hb.2⟩⟩
end
/-- One of a row lies apart from the others. -/
theorem treeL_at : ∀ {l : List Tm} {lo hi : Nat} (i : Nat) (h : i < l.length), Tm.TreeL lo hi l → ∃ lo' hi', lo ≤ lo' ∧ lo' ≤ hi' ∧ hi' ≤ hi ∧ l[i].Tree lo' hi' ∧ ∀ (j : Nat) (h' : j < l.length), j ≠ i → l[j].On (fun b => lo ≤ b ∧ b < hi ∧ ¬ (lo' ≤ b ∧ b < hi'))
  | x :: xs, lo, hi, 0, _, h => by
    rw [Tm.TreeL] at h
    obtain ⟨mid, h1, h2, h3, h4⟩ := h
    refine ⟨lo, mid, Nat.le_refl _, h1, h2, h3, fun j h' hj => ?_⟩
    match j, h', hj with
    | 0, _, hj => exact absurd rfl hj
    | j + 1, h', _ =>
      have := Tm.OnL_mem (treeL_on h4) (xs[j]'(by simpa using h')) (List.getElem_mem _)
      exact this.mono fun b hb => ⟨by omega, hb.2, by omega⟩
  | x :: xs, lo, hi, i + 1, hi', h => by
    rw [Tm.TreeL] at h
    obtain ⟨mid, h1, h2, h3, h4⟩ := h
    obtain ⟨a, b, e1, e2, e3, e4, e5⟩ := treeL_at i (by simpa using hi') h4
    refine ⟨a, b, by omega, e2, e3, e4, fun j h' hj => ?_⟩
    match j, h', hj with
    | 0, _, _ => exact (tree_on h3).mono fun c hc => ⟨hc.1, by omega, by omega⟩
    | j + 1, h', hj => exact (e5 j (by simpa using h') (fun e => hj (by omega))).mono fun c hc => ⟨by omega, hc.2⟩

/-- The four cells of a term stored. -/
def st4 (w : World) (b o : Nat) (y : Tm) : World := (((w.setCell ⟨b, o, none⟩ (.int .i64 y.k)).setCell ⟨b, o + 1, none⟩ (.int .i64 y.n)).setCell ⟨b, o + 2, none⟩ (.string y.s)).setCell ⟨b, o + 3, none⟩ (.slice y.p y.l.length y.c)
theorem st4_kp (w : World) (b o : Nat) (y : Tm) : Kp (· = b) w (st4 w b o y) := (((Kp.set (C := (· = b)) rfl).trans (Kp.set rfl)).trans (Kp.set rfl)).trans (Kp.set rfl)
theorem st4_row {w : World} {b o : Nat} {y : Tm} {cur : Array Value} {t : TypeId} (h : w.heap[b]? = some (.cells cur t)) :
    (st4 w b o y).heap[b]? = some (.cells ((((cur.setIfInBounds o (.int .i64 y.k)).setIfInBounds (o + 1) (.int .i64 y.n)).setIfInBounds (o + 2) (.string y.s)).setIfInBounds (o + 3) (.slice y.p y.l.length y.c)) t) :=
  heap_setCell_same _ b _ _ _ _ (heap_setCell_same _ b _ _ _ _ (heap_setCell_same _ b _ _ _ _ (heap_setCell_same _ b _ _ _ _ h)))
theorem st4_cells {w : World} {b o : Nat} {y : Tm} {cur : Array Value} {t : TypeId} (h : w.heap[b]? = some (.cells cur t)) (ho : o + 3 < cur.size) :
    (st4 w b o y).cell? ⟨b, o, none⟩ = some (.int .i64 y.k) ∧ (st4 w b o y).cell? ⟨b, o + 1, none⟩ = some (.int .i64 y.n) ∧ (st4 w b o y).cell? ⟨b, o + 2, none⟩ = some (.string y.s) ∧ (st4 w b o y).cell? ⟨b, o + 3, none⟩ = some (.slice y.p y.l.length y.c) := by
  have hr := st4_row (o := o) (y := y) h
  refine ⟨?_, ?_, ?_, ?_⟩
  · rw [cell_of_row _ _ _ _ _ _ hr]
    simp [Array.getElem?_setIfInBounds]
    omega
  · rw [cell_of_row _ _ _ _ _ _ hr]
    simp [Array.getElem?_setIfInBounds]
    omega
  · rw [cell_of_row _ _ _ _ _ _ hr]
    simp [Array.getElem?_setIfInBounds]
    omega
  · rw [cell_of_row _ _ _ _ _ _ hr]
    simp [Array.getElem?_setIfInBounds]
    omega
theorem st4_other {w : World} {b o j : Nat} {y : Tm} {cur : Array Value} {t : TypeId} (h : w.heap[b]? = some (.cells cur t)) (hj : j < o ∨ o + 3 < j) : (st4 w b o y).cell? ⟨b, j, none⟩ = w.cell? ⟨b, j, none⟩ := by
  have hr := st4_row (o := o) (y := y) h
  rw [cell_of_row _ _ _ _ _ _ hr, cell_of_row _ _ _ _ _ _ h]
  simp only [Array.getElem?_setIfInBounds]
  rw [if_neg (by omega), if_neg (by omega), if_neg (by omega), if_neg (by omega)]
theorem set_nth {l : List Tm} {i j : Nat} {y x : Tm} (h : (l.set i y)[j]? = some x) : (j = i ∧ x = y ∧ i < l.length) ∨ (j ≠ i ∧ l[j]? = some x) := by
  rw [List.getElem?_set] at h
  by_cases e : i = j
  · subst e
    rw [if_pos rfl] at h
    by_cases hl : i < l.length
    · rw [if_pos hl] at h
      cases h
      exact .inl ⟨rfl, rfl, hl⟩
    · rw [if_neg hl] at h; cases h
  · rw [if_neg e] at h
    exact .inr ⟨fun e' => e e'.symm, h⟩
theorem put_head : ∀ (L : List Int) (t y : Tm), L ≠ [] → (Tm.put t L y).k = t.k ∧ (Tm.put t L y).n = t.n ∧ (Tm.put t L y).s = t.s ∧ (Tm.put t L y).p = t.p ∧ (Tm.put t L y).c = t.c ∧ (Tm.put t L y).l.length = t.l.length
  | [], _, _, h => absurd rfl h
  | i :: is, .mk k n s p c l, y, _ => by
    rw [Tm.put]
    cases l[i.toNat]? with
    | none => exact ⟨rfl, rfl, rfl, rfl, rfl, rfl⟩
    | some x => exact ⟨rfl, rfl, rfl, rfl, rfl, by simp [Tm.l]⟩
theorem on_set {S : Nat → Prop} {l : List Tm} {j : Nat} {z : Tm} (h : ∀ (m : Nat) (hm : m < l.length), m ≠ j → l[m].On S) (hz : z.On S) : Tm.OnL S (l.set j z) := Tm.OnL_of fun x hx => by
  obtain ⟨m, hm⟩ := List.mem_iff_getElem?.1 hx
  rcases set_nth hm with ⟨_, rfl, _⟩ | ⟨h1, h2⟩
  · exact hz
  · obtain ⟨h3, rfl⟩ := List.getElem?_eq_some_iff.1 h2
    exact h m h3 h1
theorem in_set {w : World} {l : List Tm} {j : Nat} {z : Tm} (h : ∀ (m : Nat) (hm : m < l.length), m ≠ j → l[m].In w) (hz : z.In w) : Tm.InL w (l.set j z) := Tm.InL_of fun x hx => by
  obtain ⟨m, hm⟩ := List.mem_iff_getElem?.1 hx
  rcases set_nth hm with ⟨_, rfl, _⟩ | ⟨h1, h2⟩
  · exact hz
  · obtain ⟨h3, rfl⟩ := List.getElem?_eq_some_iff.1 h2
    exact h m h3 h1
theorem wholeL_of {w : World} : ∀ {l : List Tm}, (∀ x ∈ l, Tm.Whole w x) → Tm.WholeL w l
  | [], _ => by rw [Tm.WholeL]; trivial
  | x :: xs, h => by rw [Tm.WholeL]; exact ⟨h x (List.mem_cons_self ..), wholeL_of fun y hy => h y (List.mem_cons_of_mem _ hy)⟩
theorem whole_set {w : World} {l : List Tm} {j : Nat} {z : Tm} (h : ∀ (m : Nat) (hm : m < l.length), m ≠ j → l[m].Whole w) (hz : z.Whole w) : Tm.WholeL w (l.set j z) := wholeL_of fun x hx => by
  obtain ⟨m, hm⟩ := List.mem_iff_getElem?.1 hx
  rcases set_nth hm with ⟨_, rfl, _⟩ | ⟨h1, h2⟩
  · exact hz
  · obtain ⟨h3, rfl⟩ := List.getElem?_eq_some_iff.1 h2
    exact h m h3 h1
/-- A row one of whose terms is another now: the other cells stand, the blocks of the other terms stand. -/
theorem put_row {w w' : World} {k n : Int} {s : ByteArray} {bt c : Nat} {l : List Tm} {j lo hi lo' hi' : Nat} {z : Tm} {cur' : Array Value} (hj : j < l.length) (hin : (Tm.mk k n s (some ⟨bt, 0, none⟩) c l).In w) (hwh : Tm.WholeL w l)
    (hct : w'.heap[bt]? = some (.cells cur' 25)) (hcz : cur'.size = l.length * 4) (hc : c = l.length)
    (hoth : ∀ (m : Nat) (h' : m < l.length), m ≠ j → l[m].On (fun b => bt + 1 ≤ b ∧ b < hi ∧ ¬ (lo' ≤ b ∧ b < hi'))) (hlo : lo ≤ bt) (_ : bt < hi) (_ : bt < lo')
    (hk : ∀ b, b < w.heap.size → bt + 1 ≤ b → ¬ (lo' ≤ b ∧ b < hi') → b < hi → w'.heap[b]? = w.heap[b]?)
    (hrow : ∀ m r, m < l.length → r < 4 → m ≠ j → w'.cell? ⟨bt, m * 4 + r, none⟩ = w.cell? ⟨bt, m * 4 + r, none⟩)
    (hz0 : w'.cell? ⟨bt, j * 4, none⟩ = some (.int .i64 z.k)) (hz1 : w'.cell? ⟨bt, j * 4 + 1, none⟩ = some (.int .i64 z.n)) (hz2 : w'.cell? ⟨bt, j * 4 + 2, none⟩ = some (.string z.s)) (hz3 : w'.cell? ⟨bt, j * 4 + 3, none⟩ = some (.slice z.p z.l.length z.c))
    (zin : z.In w') (zwh : z.Whole w') (zon : z.On (lo ≤ ·)) :
    (Tm.mk k n s (some ⟨bt, 0, none⟩) c (l.set j z)).In w' ∧ (Tm.mk k n s (some ⟨bt, 0, none⟩) c (l.set j z)).Whole w' ∧ (Tm.mk k n s (some ⟨bt, 0, none⟩) c (l.set j z)).On (lo ≤ ·) := by
  rw [Tm.In] at hin ⊢
  obtain ⟨i1, i2, i3, i4, i5, i6, i7⟩ := hin
  have hln : l ≠ [] := by rintro rfl; simp at hj
  have hr : Tm.row w bt 0 l := by
    rcases i6 with h | ⟨b', o', he, h⟩
    · exact absurd h hln
    · cases he; exact h
  have hmem : ∀ (m : Nat) (h' : m < l.length), l[m].In w := fun m h' => Tm.InL_mem i7 _ (List.getElem_mem h')
  have hblk : ∀ (m : Nat) (h' : m < l.length), m ≠ j → l[m].On (fun b => w'.heap[b]? = w.heap[b]?) := fun m h' hm =>
    (Tm.On.and (hoth m h' hm) (hmem m h').on).mono fun b hb => hk b hb.2 hb.1.1 hb.1.2.2 hb.1.2.1
  refine ⟨⟨i1, i2, i3, by rw [List.length_set]; exact i4, by rw [List.length_set]; exact i5, .inr ⟨bt, 0, rfl, fun m x hx => ?_⟩, in_set (fun m h' hm => Tm.In.same (S := fun b => w'.heap[b]? = w.heap[b]?) (fun b hb o => World.cell?_of_block hb) (hmem m h') (hblk m h' hm)) zin⟩, ?_, ?_⟩
  · rw [Nat.zero_add]
    rcases set_nth hx with ⟨rfl, rfl, _⟩ | ⟨h1, h2⟩
    · exact ⟨hz0, hz1, hz2, hz3⟩
    · obtain ⟨h3, rfl⟩ := List.getElem?_eq_some_iff.1 h2
      have h4 := hr m _ h2
      rw [Nat.zero_add] at h4
      exact ⟨(hrow m 0 h3 (by omega) h1).trans h4.1, (hrow m 1 h3 (by omega) h1).trans h4.2.1, (hrow m 2 h3 (by omega) h1).trans h4.2.2.1, (hrow m 3 h3 (by omega) h1).trans h4.2.2.2⟩
  · rw [Tm.Whole]
    refine ⟨.inr ⟨fun e => ?_, bt, cur', rfl, by rw [List.length_set]; exact hc, hct, by rw [List.length_set]; exact hcz⟩, whole_set (fun m h' hm => Tm.Whole.same (S := fun b => w'.heap[b]? = w.heap[b]?) (fun b hb => hb) (hblk m h' hm) (Tm.WholeL_mem hwh _ (List.getElem_mem h'))) zwh⟩
    have := congrArg List.length e
    rw [List.length_set] at this
    simp at this
    exact hln this
  · rw [Tm.On]
    exact ⟨.inr ⟨bt, 0, rfl, hlo⟩, on_set (fun m h' hm => (hoth m h' hm).mono fun b hb => by omega) zon⟩

theorem put_store {w : World} {y : Tm} : ∀ (L : List Int) (t x : Tm) (lo hi b0 o0 : Nat), L ≠ [] → t.In w → t.Whole w → t.Tree lo hi → Tm.at t L = some x → y.In w → y.Whole w → y.On (hi ≤ ·) →
    ∃ b o cur, Tm.spot b0 o0 t L = (b, o) ∧ lo ≤ b ∧ b < hi ∧ w.heap[b]? = some (.cells cur 25) ∧ o + 3 < cur.size ∧
      (Tm.put t L y).In (st4 w b o y) ∧ (Tm.put t L y).Whole (st4 w b o y) ∧ (Tm.put t L y).On (lo ≤ ·)
  | [], _, _, _, _, _, _, h, _, _, _, _, _, _, _ => absurd rfl h
  | i :: is, .mk k n s p c l, x, lo, hi, b0, o0, _, hin, hwh, htr, hat, yin, ywh, yon => by
    rw [Tm.at] at hat
    by_cases hi0 : 0 ≤ i
    · rw [if_pos hi0] at hat
      obtain ⟨j, rfl⟩ : ∃ j : Nat, i = j := ⟨i.toNat, by omega⟩
      rw [Int.toNat_natCast] at hat
      cases hx1 : (Tm.mk k n s p c l).l[j]? with
      | none => rw [hx1] at hat; cases hat
      | some x1 =>
        rw [hx1] at hat
        replace hat : Tm.at x1 is = some x := hat
        replace hx1 : l[j]? = some x1 := hx1
        obtain ⟨hj, hxe⟩ := List.getElem?_eq_some_iff.1 hx1
        have hln : l ≠ [] := by rintro rfl; simp at hj
        rw [Tm.Tree] at htr
        obtain ⟨bt, rfl, h1, h2, h3⟩ := htr.resolve_left hln
        rw [Tm.Whole] at hwh
        obtain ⟨⟨_, bw, cur, hp, hc, hcur, hcs⟩, hwl⟩ := And.intro (hwh.1.resolve_left fun e => hln e.1) hwh.2
        cases hp
        obtain ⟨lo', hi', e1, e2, e3, e4, e5⟩ := treeL_at j hj h3
        have hsp := spot_step (b := b0) (o := o0) (is := is) (t := .mk k n s (some ⟨bt, 0, none⟩) c l) (a := ⟨bt, 0, none⟩) rfl hj
        have hput : Tm.put (.mk k n s (some ⟨bt, 0, none⟩) c l) ((j : Int) :: is) y = .mk k n s (some ⟨bt, 0, none⟩) c (l.set j (Tm.put x1 is y)) := by
          rw [Tm.put, Int.toNat_natCast, hx1]
        rw [hput, hsp]
        have hsp2 : (Tm.mk k n s (some ⟨bt, 0, none⟩) c l).l[j] = x1 := hxe
        rw [hsp2]
        simp only [Nat.zero_add]
        rw [hxe] at e4
        by_cases his : is = []
        · subst his
          have hk := st4_kp w bt (j * 4) y
          refine ⟨bt, j * 4, cur, by rw [Tm.spot], h1, h2, hcur, by omega, ?_⟩
          have hc4 := st4_cells (y := y) (o := j * 4) hcur (by omega)
          rw [Tm.put]
          exact put_row (lo := lo) (hi := hi) (lo' := lo') (hi' := hi') hj hin hwl (st4_row hcur) (by simp; exact hcs) hc e5 h1 h2 (by omega) (fun b hb hb1 _ _ => hk.block b hb (by omega))
            (fun m r hm hr hmj => st4_other hcur (by rcases Nat.lt_or_gt_of_ne hmj with h | h <;> omega)) hc4.1 hc4.2.1 hc4.2.2.1 hc4.2.2.2
            (kp_in yin yon (fun b hb e => by have hb' : hi ≤ b := hb; omega) hk)
            (Tm.Whole.same (S := fun b => hi ≤ b ∧ b < w.heap.size) (fun b hb => hk.block b hb.2 (by omega)) (Tm.On.and yon yin.on) ywh) (yon.mono fun b hb => by have hb' : hi ≤ b := hb; omega)
        · have x1in : x1.In w := by
            rw [Tm.In] at hin
            exact Tm.InL_mem hin.2.2.2.2.2.2 _ (List.mem_of_getElem? hx1)
          obtain ⟨b, o, cur2, f1, f2, f3, f4, f5, f6, f7, f8⟩ := put_store is x1 x lo' hi' bt (j * 4) his x1in (Tm.WholeL_mem hwl _ (List.mem_of_getElem? hx1)) e4 hat yin ywh (yon.mono fun b hb => Nat.le_trans e3 hb)
          have hk := st4_kp w b o y
          have hbt : bt < w.heap.size := (Array.getElem?_eq_some_iff.1 hcur).1
          have hbe : (st4 w b o y).heap[bt]? = w.heap[bt]? := hk.block bt hbt (by omega)
          have hce : ∀ q, (st4 w b o y).cell? ⟨bt, q, none⟩ = w.cell? ⟨bt, q, none⟩ := fun q => World.cell?_of_block hbe
          obtain ⟨g1, g2, g3, g4, g5, g6⟩ := put_head is x1 y his
          have hr : Tm.row w bt 0 l := by
            rw [Tm.In] at hin
            rcases hin.2.2.2.2.2.1 with h | ⟨b', o', he, h⟩
            · exact absurd h hln
            · cases he; exact h
          have hrj := hr j x1 hx1
          rw [Nat.zero_add] at hrj
          refine ⟨b, o, cur2, f1, by omega, by omega, f4, f5, ?_⟩
          exact put_row (lo := lo) (hi := hi) (lo' := lo') (hi' := hi') hj hin hwl (hbe.trans hcur) hcs hc e5 h1 h2 (by omega) (fun b' hb' _ hb2 _ => hk.block b' hb' (by omega))
            (fun m r hm hr hmj => hce _) (by rw [hce, g1]; exact hrj.1) (by rw [hce, g2]; exact hrj.2.1) (by rw [hce, g3]; exact hrj.2.2.1) (by rw [hce, g4, g5, g6]; exact hrj.2.2.2)
            f6 f7 (f8.mono fun b hb => by have hb' : lo' ≤ b := hb; omega)
    · rw [if_neg hi0] at hat; cases hat
end Go.Proofs.Ythncdmijledpnaa

namespace Go.Proofs.Ythncdmijledpnaa
open Go.RowKit Go.Maps Go.Lib

/-- Put's answer. -/
def RetPut (t : T) (L : List Int) (u : T) (w : World) (e : Ending) (w' : World) : Prop := Gr w w' ∧
  (((t.formed && u.formed) = false ∧ e = .returned (.tuple #[zeroTm.val, .int .i64 2])) ∨
   ((t.formed && u.formed) = true ∧ T.at t L = none ∧ e = .returned (.tuple #[zeroTm.val, .int .i64 8])) ∨
   ((t.formed && u.formed) = true ∧ (T.at t L).isSome = true ∧ ∃ g : Tm, e = .returned (.tuple #[g.val, .int .i64 0]) ∧ g.In w' ∧ g.erase = T.put t L u ∧ g.On (w.heap.size ≤ ·) ∧ g.Whole w'))

set_option maxHeartbeats 4000000 in
set_option maxRecDepth 100000 in
theorem put_calls (t : Tm) (p : Option Addr) (c : Nat) (L : List Int) (u : Tm) (w : World) (it : t.In w) (hL : IntSl w p c L) (iu : u.In w) : Calls Try.prog 45 #[t.val, .slice p L.length c, u.val] w (RetPut t.erase L u.erase w) := by
  have It := Lib.hid it
  have Iu := Lib.hid iu
  have HL := Lib.hid hL
  have hLc := hL.1
  have hLc2 := hL.2.1
  have hall : ∀ (w0 w' : World), Gr w w0 → Gr (w0.alloc (.cells #[.int .i64 t.k, .int .i64 t.n, .string t.s, .slice t.p t.l.length t.c, .int .i64 u.k, .int .i64 u.n, .string u.s, .slice u.p u.l.length u.c] 25)) w' → Calls Try.prog 80 #[.slice (some ⟨w0.heap.size, 0, none⟩) 2 2] w' (Ret (.bool (t.erase.formed && u.erase.formed)) w') := fun w0 w' h0 h1 => by
    have h2 := all_calls (two_new (Tm.In_below h0 it) (Tm.In_below h0 iu) h1)
    rw [show T.formedL (Tm.eraseL [t, u]) = (t.erase.formed && u.erase.formed) by simp [Tm.eraseL, T.formedL]] at h2
    exact h2
  have Hall := Lib.hid hall
  have Hat := Lib.hid (fun (w' : World) (g : Gr w w') => show Calls Try.prog 43 #[.agg #[.int .i64 t.k, .int .i64 t.n, .string t.s, .slice t.p t.l.length t.c], .slice p L.length c] w' _ from at_calls t p c L w' (Tm.In_below g it) (hL.mono g))
  have Hcopy := Lib.hid (fun (hf : t.erase.formed = true) (w' : World) (g : Gr w w') => show Calls Try.prog 82 #[.agg #[.int .i64 t.k, .int .i64 t.n, .string t.s, .slice t.p t.l.length t.c]] w' _ from copyT_calls (t := t) (Tm.In_below g it) hf)
  have Hcopu := Lib.hid (fun (hf : u.erase.formed = true) (w' : World) (g : Gr w w') => show Calls Try.prog 82 #[.agg #[.int .i64 u.k, .int .i64 u.n, .string u.s, .slice u.p u.l.length u.c]] w' _ from copyT_calls (t := u) (Tm.In_below g iu) hf)
  have hR1 : Hid (∀ w', (t.erase.formed && u.erase.formed) = false → Gr w w' → RetPut t.erase L u.erase w (.returned (.tuple #[.agg #[.int .i64 0, .int .i64 0, .string ⟨#[]⟩, .slice none 0 0], .int .i64 2])) w') := fun w' h1 h2 => ⟨h2, .inl ⟨h1, rfl⟩⟩
  have hR2 : Hid (∀ w', (t.erase.formed && u.erase.formed) = true → T.at t.erase L = none → Gr w w' → RetPut t.erase L u.erase w (.returned (.tuple #[.agg #[.int .i64 0, .int .i64 0, .string ⟨#[]⟩, .slice none 0 0], .int .i64 8])) w') := fun w' h1 h3 h2 => ⟨h2, .inr (.inl ⟨h1, h3, rfl⟩)⟩
  have hR3 : Hid (∀ (g : Tm) w', (t.erase.formed && u.erase.formed) = true → (T.at t.erase L).isSome = true → Gr w w' → g.In w' → g.erase = T.put t.erase L u.erase → g.On (w.heap.size ≤ ·) → g.Whole w' → RetPut t.erase L u.erase w (.returned (.tuple #[.agg #[.int .i64 g.k, .int .i64 g.n, .string g.s, .slice g.p g.l.length g.c], .int .i64 0])) w') := fun g w' h1 h3 h2 h4 h5 h6 h7 => ⟨h2, .inr (.inr ⟨h1, h3, g, rfl, h4, h5, h6, h7⟩)⟩
  generalize RetPut t.erase L u.erase w = Q at hR1 hR2 hR3 ⊢
  have HR1 := hR1
  have HR2 := hR2
  have HR3 := hR3
  clear it hL iu hall hR1 hR2 hR3
  rw [show t.val = .agg #[.int .i64 t.k, .int .i64 t.n, .string t.s, .slice t.p t.l.length t.c] from rfl, show u.val = .agg #[.int .i64 u.k, .int .i64 u.n, .string u.s, .slice u.p u.l.length u.c] from rfl]
  go_enter Try.func45, Try.ntmps45
  try simp only [List.append_eq, List.cons_append, List.nil_append]
  go_upto_region 1 with fail
  obtain ⟨h3, h4, h5, gA⟩ := three_blocks w (.int .i64 t.k) (.int .i64 t.n) (.string t.s) (.slice t.p t.l.length t.c) (.int .i64 u.k) (.int .i64 u.n) (.string u.s) (.slice u.p u.l.length u.c) (.int .i64 0) (.int .i64 0) (.string ⟨#[]⟩) (.slice none 0 0)
  have sA : (((w.alloc (.cells #[.int .i64 t.k, .int .i64 t.n, .string t.s, .slice t.p t.l.length t.c] 25)).alloc (.cells #[.int .i64 u.k, .int .i64 u.n, .string u.s, .slice u.p u.l.length u.c] 25)).alloc (.cells #[.int .i64 0, .int .i64 0, .string ⟨#[]⟩, .slice none 0 0] 25)).heap.size = w.heap.size + 3 := by simp
  generalize (((w.alloc (.cells #[.int .i64 t.k, .int .i64 t.n, .string t.s, .slice t.p t.l.length t.c] 25)).alloc (.cells #[.int .i64 u.k, .int .i64 u.n, .string u.s, .slice u.p u.l.length u.c] 25)).alloc (.cells #[.int .i64 0, .int .i64 0, .string ⟨#[]⟩, .slice none 0 0] 25)) = wA at *
  have SA := Lib.hid sA
  clear sA
  obtain ⟨⟨x0, x1, x2, x3⟩, _, _⟩ := h3.out.parts
  obtain ⟨⟨y0, y1, y2, y3⟩, _, _⟩ := h4.out.parts
  go_wp2_with fail
  refine (Hall.out _ _ gA (Gr.rfl' _)).mono ?_
  rintro e w1 ⟨rfl, g1⟩
  have gA1 : Gr wA w1 := Gr.trans (show Gr wA _ by go_grown) g1
  have gw1 : Gr w w1 := gA.trans gA1
  clear x0 x1 x2 x3 y0 y1 y2 y3 g1 Hall
  have hs1 : w.heap.size + 3 ≤ w1.heap.size := by have := gA1.size; have := SA.out; omega
  by_cases hf : (t.erase.formed && u.erase.formed) = true
  · have Hf := Lib.hid hf
    rewrite [hf]
    rw [Bool.and_eq_true] at hf
    obtain ⟨hft, hfu⟩ := hf
    have Hft := Lib.hid hft
    have Hfu := Lib.hid hfu
    clear hft hfu
    obtain ⟨⟨x0, x1, x2, x3⟩, _, _⟩ := (h3.out.gr gA1).parts
    have Hat2 := Lib.hid (Hat.out w1 gw1)
    go_wp2_with fail
    refine Hat2.out.mono ?_
    rintro e w2 ⟨g2, hcase⟩
    have gw2 : Gr w w2 := gw1.trans g2
    have hs2 : w1.heap.size ≤ w2.heap.size := g2.size
    clear x0 x1 x2 x3 Hat Hat2
    rcases hcase with ⟨h, -⟩ | ⟨-, hn, rfl⟩ | ⟨-, x, g0, hsome, rfl, -, -, -, -, -⟩
    · rw [Hft.out] at h; cases h
    · rw [show zeroTm.val = .agg #[.int .i64 0, .int .i64 0, .string ⟨#[]⟩, .slice none 0 0] from rfl]
      have Hn := Lib.hid hn
      clear hn
      go_upto_region 5 with fail
      have gB : Gr w2 (w2.alloc (.cells #[.int .i64 0, .int .i64 0, .string ⟨#[]⟩, .slice none 0 0] 25)) := by go_grown
      generalize w2.alloc (.cells #[.int .i64 0, .int .i64 0, .string ⟨#[]⟩, .slice none 0 0] 25) = w3 at *
      obtain ⟨⟨z0, z1, z2, z3⟩, ⟨r0, r1, r2, r3⟩, _⟩ := (h5.out.gr (gA1.trans (g2.trans gB))).parts
      have gw3 : Gr w w3 := gw2.trans gB
      have kk := Kp.sets (C := (· = w.heap.size + 2)) (w := w3) (b := w.heap.size + 2) rfl (.int .i64 0) (.int .i64 0) (.string ⟨#[]⟩) (.slice none 0 0)
      have Hb := Lib.hid (HR2.out _ Hf.out Hn.out (Below.trans gw3 (kk.below (B := w.heap.size) (fun b hb => by omega) gw3.size)))
      clear kk
      go_wp2_with fail
      exact bodyPost_ret (v := .tuple #[.agg #[.int .i64 0, .int .i64 0, .string ⟨#[]⟩, .slice none 0 0], .int .i64 8]) (by simp (maxDischargeDepth := 9) [results, Try.results45, go_sem, z0, z1, z2, z3]) rfl Hb.out
    · rw [show g0.val = .agg #[.int .i64 g0.k, .int .i64 g0.n, .string g0.s, .slice g0.p g0.l.length g0.c] from rfl]
      go_upto_region 6 with fail
      have gB : Gr w2 (w2.alloc (.cells #[.int .i64 g0.k, .int .i64 g0.n, .string g0.s, .slice g0.p g0.l.length g0.c] 25)) := by go_grown
      generalize w2.alloc (.cells #[.int .i64 g0.k, .int .i64 g0.n, .string g0.s, .slice g0.p g0.l.length g0.c] 25) = w3 at *
      have gA3 : Gr wA w3 := gA1.trans (g2.trans gB)
      have gw3 : Gr w w3 := gA.trans gA3
      have hs3 : w2.heap.size ≤ w3.heap.size := gB.size
      obtain ⟨⟨x0, x1, x2, x3⟩, _, _⟩ := (h3.out.gr gA3).parts
      have Hc := Lib.hid (Hcopy.out Hft.out w3 gw3)
      go_wp2_with fail
      refine Hc.out.mono ?_
      rintro e w4 ⟨g, gin, ge, rfl, g4, gon, gwh, gtr⟩
      clear x0 x1 x2 x3 Hc Hcopy
      rw [show g.val = .agg #[.int .i64 g.k, .int .i64 g.n, .string g.s, .slice g.p g.l.length g.c] from rfl]
      go_upto_region 7 with fail
      have hG := Blk4.new w4 (.int .i64 g.k) (.int .i64 g.n) (.string g.s) (.slice g.p g.l.length g.c)
      have gC : Gr w4 (w4.alloc (.cells #[.int .i64 g.k, .int .i64 g.n, .string g.s, .slice g.p g.l.length g.c] 25)) := by go_grown
      generalize w4.alloc (.cells #[.int .i64 g.k, .int .i64 g.n, .string g.s, .slice g.p g.l.length g.c] 25) = w5 at *
      have hs4 : w3.heap.size ≤ w4.heap.size := g4.size
      have gA5 : Gr wA w5 := gA3.trans (g4.trans gC)
      have gw5 : Gr w w5 := gA.trans gA5
      have HG := Lib.hid hG
      have Gin := Lib.hid (Tm.In_below gC gin)
      have Gwh := Lib.hid (gwh.gr gin gC)
      have Gon := Lib.hid gon
      have Gtr := Lib.hid gtr
      have Ge := Lib.hid ge
      have hat0 : (Tm.at g L).isSome = true := by
        have h1 := tmat_erase L g
        rw [ge, hsome] at h1
        cases h2 : Tm.at g L with
        | none => rw [h2] at h1; cases h1
        | some y => rfl
      have Hsome := Lib.hid (show (T.at t.erase L).isSome = true by rw [hsome]; rfl)
      have Hat0 := Lib.hid hat0
      clear hG gin gwh gon gtr ge hsome hat0
      go_wp2_with fail
      go_loopg [11, 34] L.length (fun m v11 i wr => ∃ (k : Nat) (x : Tm) (b o : Nat), k ≤ L.length ∧ m = L.length - k ∧ v11 = .pointer (some ⟨b, o, none⟩) ∧ i = .int .i64 k ∧ w5 = wr ∧ Hid (Tm.spot w4.heap.size 0 g L = Tm.spot b o x (L.drop k) ∧ Tm.at g L = Tm.at x (L.drop k) ∧ x.In w5) ∧
        w5.cell? ⟨b, o, none⟩ = some (.int .i64 x.k) ∧ w5.cell? ⟨b, o + 1, none⟩ = some (.int .i64 x.n) ∧ w5.cell? ⟨b, o + 2, none⟩ = some (.string x.s) ∧ w5.cell? ⟨b, o + 3, none⟩ = some (.slice x.p x.l.length x.c))
      case atStart => exact ⟨0, g, w4.heap.size, 0, Nat.zero_le _, rfl, rfl, rfl, rfl, ⟨rfl, rfl, Gin.out⟩, HG.out.parts.1.1, HG.out.parts.1.2.1, HG.out.parts.1.2.2.1, HG.out.parts.1.2.2.2⟩
      case round =>
        obtain ⟨k, x, b, o, hk, rfl, rfl, rfl, rfl, hx, e0, e1, e2, e3⟩ := hrel
        by_cases hlt : k < L.length
        · obtain ⟨b0, o0, rfl, hbl, hcells⟩ := HL.out.ptr (by omega)
          have hc := Gr.at gw5 (hcells k _ (List.getElem?_eq_getElem hlt))
          have hni : In64 L[k] := HL.out.2.2.1 _ (List.getElem_mem hlt)
          have hdr : L.drop k = L[k] :: L.drop (k + 1) := List.drop_eq_getElem_cons hlt
          have hx2 := hx.out
          rw [hdr] at hx2
          clear hx hdr
          generalize L[k] = n at *
          have hin : 0 ≤ n ∧ n < x.l.length := by
            refine Classical.byContradiction fun h => ?_
            have h1 := hx2.2.1
            rw [tmat_out h] at h1
            have h2 := Hat0.out
            rw [h1] at h2
            cases h2
          obtain ⟨hn0, hn1⟩ := hin
          obtain ⟨j, rfl⟩ : ∃ j : Nat, n = j := ⟨n.toNat, by omega⟩
          have hnl : j < x.l.length := by omega
          obtain ⟨hsp, hta, hxi⟩ := hx2
          obtain ⟨xk, xn, xs, xp, xc, xl⟩ := x
          simp only [Tm.k, Tm.n, Tm.s, Tm.p, Tm.c, Tm.l] at hnl hn1 e0 e1 e2 e3
          obtain ⟨b2, o2, rfl⟩ := hxi.sl.ptr (by omega)
          obtain ⟨⟨c0, c1, c2, c3⟩, hyi, _⟩ := hxi.sl.elem j hnl
          have hxlc := hxi.sl.1
          have hxlb := hxi.sl.2.1
          rw [spot_step (a := ⟨b2, o2, none⟩) rfl hnl] at hsp
          rw [tmat_step hnl] at hta
          have hHY := Lib.hid (And.intro hsp (And.intro hta hyi))
          clear hsp hta hxi hyi
          have hge : ¬ (j : Int) < 0 := by omega
          have hlt2 : ¬ (xl.length : Int) ≤ j := by omega
          go_wp2_with fail
          go_roundg (L.length - (k + 1))
          case measure => omega
          case rel => exact ⟨k + 1, _, b2, o2 + j * 4, by omega, rfl, rfl, by go_num, rfl, hHY, c0, c1, c2, c3⟩
        · obtain rfl : k = L.length := by omega
          have hx2 := hx.out
          rw [List.drop_length, Tm.spot, Tm.at] at hx2
          obtain ⟨hsp, hta, hxi⟩ := hx2
          obtain ⟨⟨y0, y1, y2, y3⟩, _, _⟩ := (h4.out.gr gA5).parts
          have Hc := Lib.hid (Hcopu.out Hfu.out w5 gw5)
          have Hsp := Lib.hid hsp
          have Hta := Lib.hid hta
          clear hx hsp hta hxi e0 e1 e2 e3
          go_upto_region 13 with fail
          go_wp2_with fail
          refine Hc.out.mono ?_
          rintro e w6 ⟨y, yin, ye, rfl, g6, yon, ywh, -⟩
          have hs5 : w4.heap.size < w5.heap.size := HG.out.parts.2.2
          have hs6 : w5.heap.size ≤ w6.heap.size := g6.size
          have hplace : ∃ cur, w6.heap[b]? = some (.cells cur 25) ∧ o + 3 < cur.size ∧ w3.heap.size ≤ b ∧ (Tm.put g L y).In (st4 w6 b o y) ∧ (Tm.put g L y).Whole (st4 w6 b o y) ∧ (Tm.put g L y).On (w3.heap.size ≤ ·) ∧
              ((st4 w6 b o y).cell? ⟨w4.heap.size, 0, none⟩ = some (.int .i64 (Tm.put g L y).k) ∧ (st4 w6 b o y).cell? ⟨w4.heap.size, 1, none⟩ = some (.int .i64 (Tm.put g L y).n) ∧ (st4 w6 b o y).cell? ⟨w4.heap.size, 2, none⟩ = some (.string (Tm.put g L y).s) ∧
                (st4 w6 b o y).cell? ⟨w4.heap.size, 3, none⟩ = some (.slice (Tm.put g L y).p (Tm.put g L y).l.length (Tm.put g L y).c)) := by
            have hG6 := HG.out.gr g6
            by_cases hL0 : L = []
            · have hsp := Hsp.out
              rw [hL0, Tm.spot] at hsp
              cases hsp
              have hk := st4_kp w6 w4.heap.size 0 y
              have hc4 := st4_cells (y := y) (o := 0) hG6 (by simp)
              rw [hL0, Tm.put]
              refine ⟨_, hG6, by simp, hs4, kp_in yin yon (fun b hb e => by have hb' : w5.heap.size ≤ b := hb; omega) hk, Tm.Whole.same (S := fun b => w5.heap.size ≤ b ∧ b < w6.heap.size) (fun b hb => hk.block b hb.2 (by omega)) (Tm.On.and yon yin.on) ywh, yon.mono fun b hb => by have hb' : w5.heap.size ≤ b := hb; omega, hc4.1, ?_, ?_, ?_⟩
              · have := hc4.2.1; rwa [Nat.zero_add] at this
              · have := hc4.2.2.1; rwa [Nat.zero_add] at this
              · have := hc4.2.2.2; rwa [Nat.zero_add] at this
            · obtain ⟨b', o', cur, f1, f2, f3, f4, f5, f6, f7, f8⟩ := put_store (w := w6) (y := y) L g x w3.heap.size w4.heap.size w4.heap.size 0 hL0 (Tm.In_below g6 Gin.out) (Gwh.out.gr Gin.out g6) Gtr.out Hta.out yin ywh (yon.mono fun b hb => by have hb' : w5.heap.size ≤ b := hb; show w4.heap.size ≤ b; omega)
              have hsp := Hsp.out
              rw [f1] at hsp
              cases hsp
              have hk := st4_kp w6 b o y
              obtain ⟨⟨q0, q1, q2, q3⟩, _, _⟩ := hG6.parts
              obtain ⟨e0, e1, e2, e3, e4, e5⟩ := put_head L g y hL0
              have hne : ¬ w4.heap.size = b := by omega
              refine ⟨cur, f4, f5, f2, f6, f7, f8, ?_, ?_, ?_, ?_⟩
              · rw [e0]; exact hk.cell q0 hne
              · rw [e1]; exact hk.cell q1 hne
              · rw [e2]; exact hk.cell q2 hne
              · rw [e3, e4, e5]; exact hk.cell q3 hne
          obtain ⟨cur, hcur, hsz, hb3, rin, rwh, ron, q0, q1, q2, q3⟩ := hplace
          have re : (Tm.put g L y).erase = T.put t.erase L u.erase := by rw [put_erase, Ge.out, ye]
          have hk6 := st4_kp w6 b o y
          have B5 := Lib.hid ((h5.out.gr (gA5.trans g6)).kp hk6 (by omega))
          have gw6 : Gr w w6 := gw5.trans g6
          have gw7 : Gr w (st4 w6 b o y) := Below.trans gw6 (hk6.below (B := w.heap.size) (fun c hc => by omega) gw6.size)
          have l0 := cell_of_row w6 b o _ _ _ hcur
          have l1 := cell_of_row w6 b (o + 1) _ _ _ hcur
          have l2 := cell_of_row w6 b (o + 2) _ _ _ hcur
          have l3 := cell_of_row w6 b (o + 3) _ _ _ hcur
          rw [Array.getElem?_eq_getElem (by omega)] at l0 l1 l2 l3
          have m0 := frozen_of_row w6 b o _ _ hcur
          have m1 := frozen_of_row w6 b (o + 1) _ _ hcur
          have m2 := frozen_of_row w6 b (o + 2) _ _ hcur
          have m3 := frozen_of_row w6 b (o + 3) _ _ hcur
          generalize Tm.put g L y = res at *
          rw [show y.val = .agg #[.int .i64 y.k, .int .i64 y.n, .string y.s, .slice y.p y.l.length y.c] from rfl]
          clear y0 y1 y2 y3 hcur hk6 Hc
          go_upto_region 14 with fail
          change Code.wp _ _ _ _ (st4 w6 b o y)
          generalize st4 w6 b o y = w7 at *
          obtain ⟨⟨z0, z1, z2, z3⟩, ⟨r0, r1, r2, r3⟩, _⟩ := B5.out.parts
          have kk := Kp.sets (C := (· = w.heap.size + 2)) (w := w7) (b := w.heap.size + 2) rfl (.int .i64 res.k) (.int .i64 res.n) (.string res.s) (.slice res.p res.l.length res.c)
          have Hb := Lib.hid (HR3.out res _ Hf.out Hsome.out (Below.trans gw7 (kk.below (B := w.heap.size) (fun b hb => by omega) gw7.size)) (kp_in rin ron (fun b hb e => by have hb' : w3.heap.size ≤ b := hb; omega) kk) re (ron.mono fun b hb => by have hb' : w3.heap.size ≤ b := hb; omega)
            (Tm.Whole.same (S := fun b => w3.heap.size ≤ b ∧ b < w7.heap.size) (fun b hb => kk.block b hb.2 (by have := hb.1; omega)) (Tm.On.and ron rin.on) rwh))
          clear kk rin ron rwh l0 l1 l2 l3 m0 m1 m2 m3
          go_wp2_with fail
          exact bodyPost_ret (v := .tuple #[.agg #[.int .i64 res.k, .int .i64 res.n, .string res.s, .slice res.p res.l.length res.c], .int .i64 0]) (by simp (maxDischargeDepth := 9) [results, Try.results45, go_sem, z0, z1, z2, z3]) rfl Hb.out
  · have hf0 : (t.erase.formed && u.erase.formed) = false := Bool.eq_false_iff.2 hf
    obtain ⟨⟨z0, z1, z2, z3⟩, ⟨r0, r1, r2, r3⟩, _⟩ := (h5.out.gr gA1).parts
    have kk := Kp.sets (C := (· = w.heap.size + 2)) (w := w1) (b := w.heap.size + 2) rfl (.int .i64 0) (.int .i64 0) (.string ⟨#[]⟩) (.slice none 0 0)
    have Hb := Lib.hid (HR1.out _ hf0 (Below.trans gw1 (kk.below (B := w.heap.size) (fun b hb => by omega) gw1.size)))
    rewrite [hf0]
    clear hf hf0 kk
    go_wp2_with fail
    exact bodyPost_ret (v := .tuple #[.agg #[.int .i64 0, .int .i64 0, .string ⟨#[]⟩, .slice none 0 0], .int .i64 2]) (by simp (maxDischargeDepth := 9) [results, Try.results45, go_sem, z0, z1, z2, z3]) rfl Hb.out
end Go.Proofs.Ythncdmijledpnaa
