/-
  A term put at a place of a tree: plain, and in memory.
-/
import Derived.Test.YtcblmkhhhibddaaTS25
namespace Go.Proofs.Ytcblmkhhhibddaa
open Go.RowKit Go.Maps Go.Lib

def T.put : T → List Int → T → T
  | _, [], u => u
  | .mk k n s l, i :: is, u => match l[i.toNat]? with
    | none => .mk k n s l
    | some x => .mk k n s (l.set i.toNat (T.put x is u))
def Tm.put : Tm → List Int → Tm → Tm
  | _, [], u => u
  | .mk k n s p c l, i :: is, u => match l[i.toNat]? with
    | none => .mk k n s p c l
    | some x => .mk k n s p c (l.set i.toNat (Tm.put x is u))
theorem put_erase : ∀ (L : List Int) (t u : Tm), (Tm.put t L u).erase = T.put t.erase L u.erase
  | [], t, u => by rw [Tm.put, T.put]
  | i :: is, .mk k n s p c l, u => by
    rw [Tm.put, Tm.erase, T.put, eraseL_map, List.getElem?_map]
    cases h : l[i.toNat]? with
    | none => simp only [Option.map_none]; rw [Tm.erase, eraseL_map]
    | some x => simp only [Option.map_some]; rw [Tm.erase, eraseL_map, List.map_set, put_erase is x u]
/-- Where the part lies: its block and its first cell. -/
def Tm.spot : Nat → Nat → Tm → List Int → Nat × Nat
  | b, o, _, [] => (b, o)
  | b, o, t, i :: is => match t.p, t.l[i.toNat]? with
    | some a, some x => Tm.spot a.block (a.off + i.toNat * 4) x is
    | _, _ => (b, o)
theorem spot_step {b o : Nat} {t : Tm} {a : Addr} {j : Nat} {is : List Int} (hp : t.p = some a) (h : j < t.l.length) : Tm.spot b o t ((j : Int) :: is) = Tm.spot a.block (a.off + j * 4) t.l[j] is := by
  rw [Tm.spot, hp, Int.toNat_natCast, List.getElem?_eq_getElem h]

mutual
theorem tree_on : ∀ {t : Tm} {lo hi : Nat}, t.Tree lo hi → t.On (fun b => lo ≤ b ∧ b < hi)
  | .mk _ _ _ p _ l, lo, hi, h => by
    rw [Tm.Tree] at h
    rw [Tm.On]
    rcases h with h | ⟨b, hp, h1, h2, h3⟩
    · subst h
      exact ⟨.inl rfl, by rw [Tm.OnL]; trivial⟩
    · exact ⟨.inr ⟨b, 0, hp, h1, h2⟩, (treeL_on h3).mono fun x hx => ⟨by omega, hx.2⟩⟩
theorem treeL_on : ∀ {l : List Tm} {lo hi : Nat}, Tm.TreeL lo hi l → Tm.OnL (fun b => lo ≤ b ∧ b < hi) l
  | [], _, _, _ => by rw [Tm.OnL]; trivial
  | x :: xs, lo, hi, h => by
    rw [Tm.TreeL] at h
    obtain ⟨mid, h1, h2, h3, h4⟩ := h
    rw [Tm.OnL]
    exact ⟨(tree_on h3).mono fun b hb => ⟨hb.1, by omega⟩, (treeL_on h4).mono fun b hb => ⟨by omega, hb.2⟩⟩
end
/-- One of a row lies apart from the others. -/
theorem treeL_at : ∀ {l : List Tm} {lo hi : Nat} (i : Nat) (h : i < l.length), Tm.TreeL lo hi l → ∃ lo' hi', lo ≤ lo' ∧ lo' ≤ hi' ∧ hi' ≤ hi ∧ l[i].Tree lo' hi' ∧ ∀ (j : Nat) (h' : j < l.length), j ≠ i → l[j].On (fun b => lo ≤ b ∧ b < hi ∧ ¬ (lo' ≤ b ∧ b < hi'))
  | x :: xs, lo, hi, 0, _, h => by
    rw [Tm.TreeL] at h
    obtain ⟨mid, h1, h2, h3, h4⟩ := h
    refine ⟨lo, mid, Nat.le_refl _, h1, h2, h3, fun j h' hj => ?_⟩
    match j, h', hj with
    | 0, _, hj => exact absurd rfl hj
    | j + 1, h', _ =>
      have := Tm.OnL_mem (treeL_on h4) (xs[j]'(by simpa using h')) (List.getElem_mem _)
      exact this.mono fun b hb => ⟨by omega, hb.2, by omega⟩
  | x :: xs, lo, hi, i + 1, hi', h => by
    rw [Tm.TreeL] at h
    obtain ⟨mid, h1, h2, h3, h4⟩ := h
    obtain ⟨a, b, e1, e2, e3, e4, e5⟩ := treeL_at i (by simpa using hi') h4
    refine ⟨a, b, by omega, e2, e3, e4, fun j h' hj => ?_⟩
    match j, h', hj with
    | 0, _, _ => exact (tree_on h3).mono fun c hc => ⟨hc.1, by omega, by omega⟩
    | j + 1, h', hj => exact (e5 j (by simpa using h') (fun e => hj (by omega))).mono fun c hc => ⟨by omega, hc.2⟩

/-- The four cells of a term stored. -/
def st4 (w : World) (b o : Nat) (y : Tm) : World := (((w.setCell ⟨b, o, none⟩ (.int .i64 y.k)).setCell ⟨b, o + 1, none⟩ (.int .i64 y.n)).setCell ⟨b, o + 2, none⟩ (.string y.s)).setCell ⟨b, o + 3, none⟩ (.slice y.p y.l.length y.c)
theorem st4_kp (w : World) (b o : Nat) (y : Tm) : Kp (· = b) w (st4 w b o y) := (((Kp.set (C := (· = b)) rfl).trans (Kp.set rfl)).trans (Kp.set rfl)).trans (Kp.set rfl)
theorem st4_row {w : World} {b o : Nat} {y : Tm} {cur : Array Value} {t : TypeId} (h : w.heap[b]? = some (.cells cur t)) :
    (st4 w b o y).heap[b]? = some (.cells ((((cur.setIfInBounds o (.int .i64 y.k)).setIfInBounds (o + 1) (.int .i64 y.n)).setIfInBounds (o + 2) (.string y.s)).setIfInBounds (o + 3) (.slice y.p y.l.length y.c)) t) :=
  heap_setCell_same _ b _ _ _ _ (heap_setCell_same _ b _ _ _ _ (heap_setCell_same _ b _ _ _ _ (heap_setCell_same _ b _ _ _ _ h)))
theorem st4_cells {w : World} {b o : Nat} {y : Tm} {cur : Array Value} {t : TypeId} (h : w.heap[b]? = some (.cells cur t)) (ho : o + 3 < cur.size) :
    (st4 w b o y).cell? ⟨b, o, none⟩ = some (.int .i64 y.k) ∧ (st4 w b o y).cell? ⟨b, o + 1, none⟩ = some (.int .i64 y.n) ∧ (st4 w b o y).cell? ⟨b, o + 2, none⟩ = some (.string y.s) ∧ (st4 w b o y).cell? ⟨b, o + 3, none⟩ = some (.slice y.p y.l.length y.c) := by
  have hr := st4_row (o := o) (y := y) h
  refine ⟨?_, ?_, ?_, ?_⟩
  · rw [cell_of_row _ _ _ _ _ _ hr]
    simp [Array.getElem?_setIfInBounds]
    omega
  · rw [cell_of_row _ _ _ _ _ _ hr]
    simp [Array.getElem?_setIfInBounds]
    omega
  · rw [cell_of_row _ _ _ _ _ _ hr]
    simp [Array.getElem?_setIfInBounds]
    omega
  · rw [cell_of_row _ _ _ _ _ _ hr]
    simp [Array.getElem?_setIfInBounds]
    omega
theorem st4_other {w : World} {b o j : Nat} {y : Tm} {cur : Array Value} {t : TypeId} (h : w.heap[b]? = some (.cells cur t)) (hj : j < o ∨ o + 3 < j) : (st4 w b o y).cell? ⟨b, j, none⟩ = w.cell? ⟨b, j, none⟩ := by
  have hr := st4_row (o := o) (y := y) h
  rw [cell_of_row _ _ _ _ _ _ hr, cell_of_row _ _ _ _ _ _ h]
  simp only [Array.getElem?_setIfInBounds]
  rw [if_neg (by omega), if_neg (by omega), if_neg (by omega), if_neg (by omega)]
theorem set_nth {l : List Tm} {i j : Nat} {y x : Tm} (h : (l.set i y)[j]? = some x) : (j = i ∧ x = y ∧ i < l.length) ∨ (j ≠ i ∧ l[j]? = some x) := by
  rw [List.getElem?_set] at h
  by_cases e : i = j
  · subst e
    rw [if_pos rfl] at h
    by_cases hl : i < l.length
    · rw [if_pos hl] at h
      cases h
      exact .inl ⟨rfl, rfl, hl⟩
    · rw [if_neg hl] at h; cases h
  · rw [if_neg e] at h
    exact .inr ⟨fun e' => e e'.symm, h⟩
theorem put_head : ∀ (L : List Int) (t y : Tm), L ≠ [] → (Tm.put t L y).k = t.k ∧ (Tm.put t L y).n = t.n ∧ (Tm.put t L y).s = t.s ∧ (Tm.put t L y).p = t.p ∧ (Tm.put t L y).c = t.c ∧ (Tm.put t L y).l.length = t.l.length
  | [], _, _, h => absurd rfl h
  | i :: is, .mk k n s p c l, y, _ => by
    rw [Tm.put]
    cases l[i.toNat]? with
    | none => exact ⟨rfl, rfl, rfl, rfl, rfl, rfl⟩
    | some x => exact ⟨rfl, rfl, rfl, rfl, rfl, by simp [Tm.l]⟩
theorem on_set {S : Nat → Prop} {l : List Tm} {j : Nat} {z : Tm} (h : ∀ (m : Nat) (hm : m < l.length), m ≠ j → l[m].On S) (hz : z.On S) : Tm.OnL S (l.set j z) := Tm.OnL_of fun x hx => by
  obtain ⟨m, hm⟩ := List.mem_iff_getElem?.1 hx
  rcases set_nth hm with ⟨_, rfl, _⟩ | ⟨h1, h2⟩
  · exact hz
  · obtain ⟨h3, rfl⟩ := List.getElem?_eq_some_iff.1 h2
    exact h m h3 h1
theorem in_set {w : World} {l : List Tm} {j : Nat} {z : Tm} (h : ∀ (m : Nat) (hm : m < l.length), m ≠ j → l[m].In w) (hz : z.In w) : Tm.InL w (l.set j z) := Tm.InL_of fun x hx => by
  obtain ⟨m, hm⟩ := List.mem_iff_getElem?.1 hx
  rcases set_nth hm with ⟨_, rfl, _⟩ | ⟨h1, h2⟩
  · exact hz
  · obtain ⟨h3, rfl⟩ := List.getElem?_eq_some_iff.1 h2
    exact h m h3 h1
theorem wholeL_of {w : World} : ∀ {l : List Tm}, (∀ x ∈ l, Tm.Whole w x) → Tm.WholeL w l
  | [], _ => by rw [Tm.WholeL]; trivial
  | x :: xs, h => by rw [Tm.WholeL]; exact ⟨h x (List.mem_cons_self ..), wholeL_of fun y hy => h y (List.mem_cons_of_mem _ hy)⟩
theorem whole_set {w : World} {l : List Tm} {j : Nat} {z : Tm} (h : ∀ (m : Nat) (hm : m < l.length), m ≠ j → l[m].Whole w) (hz : z.Whole w) : Tm.WholeL w (l.set j z) := wholeL_of fun x hx => by
  obtain ⟨m, hm⟩ := List.mem_iff_getElem?.1 hx
  rcases set_nth hm with ⟨_, rfl, _⟩ | ⟨h1, h2⟩
  · exact hz
  · obtain ⟨h3, rfl⟩ := List.getElem?_eq_some_iff.1 h2
    exact h m h3 h1
/-- A row one of whose terms is another now: the other cells stand, the blocks of the other terms stand. -/
theorem put_row {w w' : World} {k n : Int} {s : ByteArray} {bt c : Nat} {l : List Tm} {j lo hi lo' hi' : Nat} {z : Tm} {cur' : Array Value} (hj : j < l.length) (hin : (Tm.mk k n s (some ⟨bt, 0, none⟩) c l).In w) (hwh : Tm.WholeL w l)
    (hct : w'.heap[bt]? = some (.cells cur' 25)) (hcz : cur'.size = l.length * 4) (hc : c = l.length)
    (hoth : ∀ (m : Nat) (h' : m < l.length), m ≠ j → l[m].On (fun b => bt + 1 ≤ b ∧ b < hi ∧ ¬ (lo' ≤ b ∧ b < hi'))) (hlo : lo ≤ bt) (_ : bt < hi) (_ : bt < lo')
    (hk : ∀ b, b < w.heap.size → bt + 1 ≤ b → ¬ (lo' ≤ b ∧ b < hi') → b < hi → w'.heap[b]? = w.heap[b]?)
    (hrow : ∀ m r, m < l.length → r < 4 → m ≠ j → w'.cell? ⟨bt, m * 4 + r, none⟩ = w.cell? ⟨bt, m * 4 + r, none⟩)
    (hz0 : w'.cell? ⟨bt, j * 4, none⟩ = some (.int .i64 z.k)) (hz1 : w'.cell? ⟨bt, j * 4 + 1, none⟩ = some (.int .i64 z.n)) (hz2 : w'.cell? ⟨bt, j * 4 + 2, none⟩ = some (.string z.s)) (hz3 : w'.cell? ⟨bt, j * 4 + 3, none⟩ = some (.slice z.p z.l.length z.c))
    (zin : z.In w') (zwh : z.Whole w') (zon : z.On (lo ≤ ·)) :
    (Tm.mk k n s (some ⟨bt, 0, none⟩) c (l.set j z)).In w' ∧ (Tm.mk k n s (some ⟨bt, 0, none⟩) c (l.set j z)).Whole w' ∧ (Tm.mk k n s (some ⟨bt, 0, none⟩) c (l.set j z)).On (lo ≤ ·) := by
  rw [Tm.In] at hin ⊢
  obtain ⟨i1, i2, i3, i4, i5, i6, i7⟩ := hin
  have hln : l ≠ [] := by rintro rfl; simp at hj
  have hr : Tm.row w bt 0 l := by
    rcases i6 with h | ⟨b', o', he, h⟩
    · exact absurd h hln
    · cases he; exact h
  have hmem : ∀ (m : Nat) (h' : m < l.length), l[m].In w := fun m h' => Tm.InL_mem i7 _ (List.getElem_mem h')
  have hblk : ∀ (m : Nat) (h' : m < l.length), m ≠ j → l[m].On (fun b => w'.heap[b]? = w.heap[b]?) := fun m h' hm =>
    (Tm.On.and (hoth m h' hm) (hmem m h').on).mono fun b hb => hk b hb.2 hb.1.1 hb.1.2.2 hb.1.2.1
  refine ⟨⟨i1, i2, i3, by rw [List.length_set]; exact i4, by rw [List.length_set]; exact i5, .inr ⟨bt, 0, rfl, fun m x hx => ?_⟩, in_set (fun m h' hm => Tm.In.same (S := fun b => w'.heap[b]? = w.heap[b]?) (fun b hb o => World.cell?_of_block hb) (hmem m h') (hblk m h' hm)) zin⟩, ?_, ?_⟩
  · rw [Nat.zero_add]
    rcases set_nth hx with ⟨rfl, rfl, _⟩ | ⟨h1, h2⟩
    · exact ⟨hz0, hz1, hz2, hz3⟩
    · obtain ⟨h3, rfl⟩ := List.getElem?_eq_some_iff.1 h2
      have h4 := hr m _ h2
      rw [Nat.zero_add] at h4
      exact ⟨(hrow m 0 h3 (by omega) h1).trans h4.1, (hrow m 1 h3 (by omega) h1).trans h4.2.1, (hrow m 2 h3 (by omega) h1).trans h4.2.2.1, (hrow m 3 h3 (by omega) h1).trans h4.2.2.2⟩
  · rw [Tm.Whole]
    refine ⟨.inr ⟨fun e => ?_, bt, cur', rfl, by rw [List.length_set]; exact hc, hct, by rw [List.length_set]; exact hcz⟩, whole_set (fun m h' hm => Tm.Whole.same (S := fun b => w'.heap[b]? = w.heap[b]?) (fun b hb => hb) (hblk m h' hm) (Tm.WholeL_mem hwh _ (List.getElem_mem h'))) zwh⟩
    have := congrArg List.length e
    rw [List.length_set] at this
    simp at this
    exact hln this
  · rw [Tm.On]
    exact ⟨.inr ⟨bt, 0, rfl, hlo⟩, on_set (fun m h' hm => (hoth m h' hm).mono fun b hb => by omega) zon⟩

theorem put_store {w : World} {y : Tm} : ∀ (L : List Int) (t x : Tm) (lo hi b0 o0 : Nat), L ≠ [] → t.In w → t.Whole w → t.Tree lo hi → Tm.at t L = some x → y.In w → y.Whole w → y.On (hi ≤ ·) →
    ∃ b o cur, Tm.spot b0 o0 t L = (b, o) ∧ lo ≤ b ∧ b < hi ∧ w.heap[b]? = some (.cells cur 25) ∧ o + 3 < cur.size ∧
      (Tm.put t L y).In (st4 w b o y) ∧ (Tm.put t L y).Whole (st4 w b o y) ∧ (Tm.put t L y).On (lo ≤ ·)
  | [], _, _, _, _, _, _, h, _, _, _, _, _, _, _ => absurd rfl h
  | i :: is, .mk k n s p c l, x, lo, hi, b0, o0, _, hin, hwh, htr, hat, yin, ywh, yon => by
    rw [Tm.at] at hat
    by_cases hi0 : 0 ≤ i
    · rw [if_pos hi0] at hat
      obtain ⟨j, rfl⟩ : ∃ j : Nat, i = j := ⟨i.toNat, by omega⟩
      rw [Int.toNat_natCast] at hat
      cases hx1 : (Tm.mk k n s p c l).l[j]? with
      | none => rw [hx1] at hat; cases hat
      | some x1 =>
        rw [hx1] at hat
        replace hat : Tm.at x1 is = some x := hat
        replace hx1 : l[j]? = some x1 := hx1
        obtain ⟨hj, hxe⟩ := List.getElem?_eq_some_iff.1 hx1
        have hln : l ≠ [] := by rintro rfl; simp at hj
        rw [Tm.Tree] at htr
        obtain ⟨bt, rfl, h1, h2, h3⟩ := htr.resolve_left hln
        rw [Tm.Whole] at hwh
        obtain ⟨⟨_, bw, cur, hp, hc, hcur, hcs⟩, hwl⟩ := And.intro (hwh.1.resolve_left fun e => hln e.1) hwh.2
        cases hp
        obtain ⟨lo', hi', e1, e2, e3, e4, e5⟩ := treeL_at j hj h3
        have hsp := spot_step (b := b0) (o := o0) (is := is) (t := .mk k n s (some ⟨bt, 0, none⟩) c l) (a := ⟨bt, 0, none⟩) rfl hj
        have hput : Tm.put (.mk k n s (some ⟨bt, 0, none⟩) c l) ((j : Int) :: is) y = .mk k n s (some ⟨bt, 0, none⟩) c (l.set j (Tm.put x1 is y)) := by
          rw [Tm.put, Int.toNat_natCast, hx1]
        rw [hput, hsp]
        have hsp2 : (Tm.mk k n s (some ⟨bt, 0, none⟩) c l).l[j] = x1 := hxe
        rw [hsp2]
        simp only [Nat.zero_add]
        rw [hxe] at e4
        by_cases his : is = []
        · subst his
          have hk := st4_kp w bt (j * 4) y
          refine ⟨bt, j * 4, cur, by rw [Tm.spot], h1, h2, hcur, by omega, ?_⟩
          have hc4 := st4_cells (y := y) (o := j * 4) hcur (by omega)
          rw [Tm.put]
          exact put_row (lo := lo) (hi := hi) (lo' := lo') (hi' := hi') hj hin hwl (st4_row hcur) (by simp; exact hcs) hc e5 h1 h2 (by omega) (fun b hb hb1 _ _ => hk.block b hb (by omega))
            (fun m r hm hr hmj => st4_other hcur (by rcases Nat.lt_or_gt_of_ne hmj with h | h <;> omega)) hc4.1 hc4.2.1 hc4.2.2.1 hc4.2.2.2
            (kp_in yin yon (fun b hb e => by have hb' : hi ≤ b := hb; omega) hk)
            (Tm.Whole.same (S := fun b => hi ≤ b ∧ b < w.heap.size) (fun b hb => hk.block b hb.2 (by omega)) (Tm.On.and yon yin.on) ywh) (yon.mono fun b hb => by have hb' : hi ≤ b := hb; omega)
        · have x1in : x1.In w := by
            rw [Tm.In] at hin
            exact Tm.InL_mem hin.2.2.2.2.2.2 _ (List.mem_of_getElem? hx1)
          obtain ⟨b, o, cur2, f1, f2, f3, f4, f5, f6, f7, f8⟩ := put_store is x1 x lo' hi' bt (j * 4) his x1in (Tm.WholeL_mem hwl _ (List.mem_of_getElem? hx1)) e4 hat yin ywh (yon.mono fun b hb => Nat.le_trans e3 hb)
          have hk := st4_kp w b o y
          have hbt : bt < w.heap.size := (Array.getElem?_eq_some_iff.1 hcur).1
          have hbe : (st4 w b o y).heap[bt]? = w.heap[bt]? := hk.block bt hbt (by omega)
          have hce : ∀ q, (st4 w b o y).cell? ⟨bt, q, none⟩ = w.cell? ⟨bt, q, none⟩ := fun q => World.cell?_of_block hbe
          obtain ⟨g1, g2, g3, g4, g5, g6⟩ := put_head is x1 y his
          have hr : Tm.row w bt 0 l := by
            rw [Tm.In] at hin
            rcases hin.2.2.2.2.2.1 with h | ⟨b', o', he, h⟩
            · exact absurd h hln
            · cases he; exact h
          have hrj := hr j x1 hx1
          rw [Nat.zero_add] at hrj
          refine ⟨b, o, cur2, f1, by omega, by omega, f4, f5, ?_⟩
          exact put_row (lo := lo) (hi := hi) (lo' := lo') (hi' := hi') hj hin hwl (hbe.trans hcur) hcs hc e5 h1 h2 (by omega) (fun b' hb' _ hb2 _ => hk.block b' hb' (by omega))
            (fun m r hm hr hmj => hce _) (by rw [hce, g1]; exact hrj.1) (by rw [hce, g2]; exact hrj.2.1) (by rw [hce, g3]; exact hrj.2.2.1) (by rw [hce, g4, g5, g6]; exact hrj.2.2.2)
            f6 f7 (f8.mono fun b hb => by have hb' : lo' ≤ b := hb; omega)
    · rw [if_neg hi0] at hat; cases hat
end Go.Proofs.Ytcblmkhhhibddaa
