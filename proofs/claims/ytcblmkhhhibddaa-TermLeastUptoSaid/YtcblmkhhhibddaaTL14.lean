/-
  Arguments that are slices of structs: opened to lists.
  Slices of binds.
  hornref.Find, hornref.Apply
  Substitutions: whether it is one (term.CheckBinds).
-/
import Derived.Test.YtcblmkhhhibddaaTL02
import Derived.Deep.Slices
import Derived.Test.YtcblmkhhhibddaaTL03
import Derived.Test.YtcblmkhhhibddaaTL04
import Derived.Test.YtcblmkhhhibddaaTL07
import Derived.Deep.LoopGhost
namespace Go.Proofs.Ytcblmkhhhibddaa
open Go.ChangeShapes Go.WideShapes Go.ChangeAt Go.RowKit Go.Deep

theorem list_of_any {X : Type} {n : Nat} {p : Nat → X → Prop} (h : ∀ i, i < n → ∃ x, p i x) : ∃ l : List X, l.length = n ∧ ∀ i x, l[i]? = some x → p i x := by
  induction n with
  | zero => exact ⟨[], rfl, fun i x hx => by simp at hx⟩
  | succ n ih =>
    obtain ⟨l, hl, hp⟩ := ih fun i hi => h i (by omega)
    obtain ⟨y, hy⟩ := h n (by omega)
    refine ⟨l ++ [y], by simp [hl], fun i x hx => ?_⟩
    by_cases hi : i < l.length
    · rw [List.getElem?_append_left hi] at hx
      exact hp i x hx
    · rw [List.getElem?_append_right (by omega)] at hx
      have h0 : i = l.length := by
        have := (List.getElem?_eq_some_iff.1 hx).1
        simp at this
        omega
      subst h0
      simp only [Nat.sub_self, List.getElem?_cons_zero, Option.some.injEq] at hx
      subst hx
      rw [hl]
      exact hy

section
variable {H : Type} {enc : TypeId × Value → H} {W : World}

/-- A slice whose elements can be opened. -/
theorem open_slice_el {X : Type} {E T : TypeId} {sz bytes : Nat} (cellsX : X → List Value) (InX : X → Prop) (ht : Try.prog.underlying T = some (.slice E)) (hc : Try.prog.cellsOf E = sz) (hb : Try.prog.bytesOf E = bytes)
    (hel : ∀ (fuel : Nat) (cs : List Value) (x : DataW H × List MemPlace), DataW.trod enc Try.prog W 0 (fun _ => true) true fuel E cs = some x → (∀ n ∈ x.1.weights Try.prog E, n ≤ reachBytes) → ∃ y : X, cs = cellsX y ∧ InX y)
    {fuel : Nat} {cs : List Value} {x : DataW H × List MemPlace} (h : DataW.trod enc Try.prog W 0 (fun _ => true) true fuel T cs = some x) (hw : ∀ n ∈ x.1.weights Try.prog T, n ≤ reachBytes) :
    cs = [.slice none 0 0] ∨ ∃ (a : Addr) (cap : Nat) (l : List X), cs = [.slice (some a) l.length cap] ∧ l.length ≤ cap ∧ cap ≤ 9223372036854775807 ∧ cap * bytes ≤ 140737488351232 ∧
      ∀ i y, l[i]? = some y → W.cells? 0 (a.add (i * sz)) sz = some (cellsX y) ∧ InX y := by
  rcases DataW.trod_slice ht h with ⟨hcs, _⟩ | ⟨a, len, cap, elems, rest, n', hm, hcs, hx, _, hlc, hcm, hle, hel', hre, _⟩
  · exact .inl hcs
  · right
    subst hx
    subst hm
    have hrl := (hre rfl).1
    simp only [DataW.weights, ht, List.length_map, List.mem_cons, List.mem_append, hb] at hw
    have hcap : cap * bytes ≤ 140737488351232 := by
      have h9 := hw ((elems.length + rest.length) * bytes) (.inl rfl)
      rw [reach_eq, hle, hrl] at h9
      have : len + (cap - len) = cap := by omega
      rwa [this] at h9
    have hall : ∀ i, i < len → ∃ y : X, W.cells? 0 (a.add (i * sz)) sz = some (cellsX y) ∧ InX y := by
      intro i hi
      have h9 := hel' i hi
      have hi' : i < elems.length := by omega
      rw [hc, List.getElem?_eq_getElem hi', Option.bind_eq_some_iff] at h9
      obtain ⟨cs', h10, h11⟩ := h9
      obtain ⟨y, hy, hin⟩ := hel n' cs' _ h11 fun q hq => hw q (.inr (.inl (weightsAll_mem (List.mem_map.2 ⟨_, List.getElem_mem hi', rfl⟩) hq)))
      exact ⟨y, by rw [h10, hy], hin⟩
    obtain ⟨l, hll, hlp⟩ := list_of_any hall
    simp only [maxLen] at hcm
    exact ⟨a, cap, l, by rw [hcs, hll], by omega, by omega, hcap, hlp⟩

theorem list5 {α : Type} {l : List α} (h : l.length = 5) : ∃ a b c d e, l = [a, b, c, d, e] := by
  match l, h with
  | [a, b, c, d, e], _ => exact ⟨a, b, c, d, e, rfl⟩
theorem list2 {α : Type} {l : List α} (h : l.length = 2) : ∃ a b, l = [a, b] := by
  match l, h with
  | [a, b], _ => exact ⟨a, b, rfl⟩
theorem list3 {α : Type} {l : List α} (h : l.length = 3) : ∃ a b c, l = [a, b, c] := by
  match l, h with
  | [a, b, c], _ => exact ⟨a, b, c, rfl⟩
end
end Go.Proofs.Ytcblmkhhhibddaa

namespace Go.Proofs.Ytcblmkhhhibddaa
open Go.ChangeShapes Go.WideShapes Go.ChangeAt Go.RowKit Go.Deep

section
variable {H : Type} {enc : TypeId × Value → H} {W : World}

/-- A bind with its addresses. -/
structure Bd where
  v : Int
  t : Tm

def Bd.cells (x : Bd) : List Value := .int .i64 x.v :: x.t.cells

def Bd.row (w : World) (b o : Nat) (l : List Bd) : Prop :=
  ∀ (i : Nat) (x : Bd), l[i]? = some x →
    w.cell? ⟨b, o + i * 5, none⟩ = some (.int .i64 x.v) ∧ w.cell? ⟨b, o + i * 5 + 1, none⟩ = some (.int .i64 x.t.k) ∧ w.cell? ⟨b, o + i * 5 + 1 + 1, none⟩ = some (.int .i64 x.t.n) ∧
    w.cell? ⟨b, o + i * 5 + 1 + 2, none⟩ = some (.string x.t.s) ∧ w.cell? ⟨b, o + i * 5 + 1 + 3, none⟩ = some (.slice x.t.p x.t.l.length x.t.c)

/-- A slice of binds. -/
structure Bds where
  p : Option Addr
  c : Nat
  l : List Bd

def Bds.val (x : Bds) : Value := .slice x.p x.l.length x.c
def Bds.In (w : World) (x : Bds) : Prop :=
  x.l.length ≤ x.c ∧ (x.l.length * 64 ≤ 140737488351232 ∧ x.c ≤ 9223372036854775807) ∧ (x.l = [] ∨ ∃ b o, x.p = some ⟨b, o, none⟩ ∧ Bd.row w b o x.l) ∧ ∀ y ∈ x.l, y.t.In w ∧ In64 y.v

theorem Bd.row_lt {w : World} {b o : Nat} {l : List Bd} (h : Bd.row w b o l) (hl : l ≠ []) : b < w.heap.size := by
  cases l with
  | nil => exact absurd rfl hl
  | cons x xs => exact World.block_lt_of_cell? _ _ (h 0 x rfl).1

theorem Bds.In.mono {w w' : World} {x : Bds} (h : x.In w) (hg : Gr w w') : x.In w' := by
  obtain ⟨h1, h2, h3, h4⟩ := h
  refine ⟨h1, h2, ?_, fun y hy => ⟨Tm.In_below hg (h4 y hy).1, (h4 y hy).2⟩⟩
  rcases h3 with h3 | ⟨b, o, hp, hr⟩
  · exact .inl h3
  · by_cases hl : x.l = []
    · exact .inl hl
    · refine .inr ⟨b, o, hp, fun i y hy => ?_⟩
      have hlt := Bd.row_lt hr hl
      have hs : ∀ o', w'.cell? ⟨b, o', none⟩ = w.cell? ⟨b, o', none⟩ := fun o' => hg.cell (p := ⟨b, o', none⟩) hlt
      have := hr i y hy
      simpa only [hs] using this

theorem Bds.In.elem {w : World} {b o : Nat} {c : Nat} {l : List Bd} (h : (Bds.mk (some ⟨b, o, none⟩) c l).In w) (i : Nat) (hi : i < l.length) :
    (w.cell? ⟨b, o + i * 5, none⟩ = some (.int .i64 l[i].v) ∧ w.cell? ⟨b, o + i * 5 + 1, none⟩ = some (.int .i64 l[i].t.k) ∧ w.cell? ⟨b, o + i * 5 + 1 + 1, none⟩ = some (.int .i64 l[i].t.n) ∧
    w.cell? ⟨b, o + i * 5 + 1 + 2, none⟩ = some (.string l[i].t.s) ∧ w.cell? ⟨b, o + i * 5 + 1 + 3, none⟩ = some (.slice l[i].t.p l[i].t.l.length l[i].t.c)) ∧ l[i].t.In w ∧ In64 l[i].v ∧ b < w.heap.size := by
  obtain ⟨_, _, h3, h4⟩ := h
  rcases h3 with rfl | ⟨b', o', hp, hr⟩
  · simp at hi
  · cases hp
    exact ⟨hr i l[i] (List.getElem?_eq_getElem hi), (h4 _ (List.getElem_mem hi)).1, (h4 _ (List.getElem_mem hi)).2, Bd.row_lt hr (by rintro rfl; simp at hi)⟩

theorem Bds.In.ptr {w : World} {p : Option Addr} {c : Nat} {l : List Bd} (h : (Bds.mk p c l).In w) (hl : 0 < l.length) : ∃ b o, p = some ⟨b, o, none⟩ := by
  obtain ⟨_, _, h3, _⟩ := h
  rcases h3 with rfl | ⟨b', o', hp, _⟩
  · simp at hl
  · exact ⟨b', o', hp⟩

theorem cellsBind : Try.prog.cellsOf 117 = 5 := by kernel_rfl
theorem bytesBind : Try.prog.bytesOf 117 = 64 := by kernel_rfl

set_option maxRecDepth 100000 in
theorem open_bd (fuel : Nat) (cs : List Value) (x : DataW H × List MemPlace) (h : DataW.trod enc Try.prog W 0 (fun _ => true) true fuel 117 cs = some x)
    (hw : ∀ n ∈ x.1.weights Try.prog 117, n ≤ reachBytes) : ∃ y : Bd, cs = y.cells ∧ y.t.In W ∧ In64 y.v := by
  obtain ⟨xs, m, rfl, rfl, hl, hlen, hf⟩ := DataW.trod_struct Try.underlying117 h
  rw [cellsBind] at hl
  obtain ⟨y0, y1, rfl⟩ := list2 hlen
  obtain ⟨v0, v1, v2, v3, v4, rfl⟩ := list5 hl
  have g0 := hf 0 _ rfl
  have g1 := hf 1 _ rfl
  simp [cellsI64, cellsTerm] at g0 g1
  obtain ⟨k, hk, rfl, wk⟩ := DataW.trod_int Try.underlying2 g0
  simp only [List.cons.injEq, and_true] at hk
  subst hk
  simp only [List.map_cons, List.map_nil, DataW.weights, Try.underlying117, DataW.weightsEach, List.append_nil, List.nil_append] at hw
  obtain ⟨t, ht, hin⟩ := open_term m _ _ g1 fun n hn => hw n hn
  exact ⟨⟨k, t⟩, by rw [Bd.cells, ← ht], hin, bounds64 wk⟩

set_option maxRecDepth 100000 in
/-- An argument of type []api.Bind. -/
theorem open_binds_arg {r : Reach} {b0 : Nat} {v : Value} {d : DataW H} {p : List MemPlace} (hv : Value.okWide Try.prog W r b0 44 v)
    (h : DataW.Trod enc Try.prog W 0 (fun _ => true) true 44 v d p) (hw : ∀ n ∈ d.weights Try.prog 44, n ≤ reachBytes) : ∃ x : Bds, v = x.val ∧ x.In W := by
  obtain ⟨a0, len0, cap0, rfl⟩ := okWide_slice Try.underlying44 hv
  obtain ⟨fuel, hf⟩ := h
  rcases open_slice_el Bd.cells (fun y => y.t.In W ∧ In64 y.v) Try.underlying44 cellsBind bytesBind open_bd hf hw with hcs | ⟨a, cap, l, hcs, h1, h2, h3, h4⟩
  · simp [Value.cells] at hcs
    obtain ⟨rfl, rfl, rfl⟩ := hcs
    exact ⟨⟨none, 0, []⟩, rfl, Nat.le_refl _, ⟨by simp, by simp⟩, .inl rfl, fun y hy => by simp at hy⟩
  · simp [Value.cells] at hcs
    obtain ⟨rfl, rfl, rfl⟩ := hcs
    refine ⟨⟨some a, cap0, l⟩, rfl, h1, ⟨by simp only; omega, h2⟩, ?_, fun y hy => ?_⟩
    · by_cases hl0 : l = []
      · exact .inl hl0
      · right
        have h0 : 0 < l.length := List.length_pos_iff.2 hl0
        obtain ⟨h10, _⟩ := h4 0 l[0] (List.getElem?_eq_getElem h0)
        obtain ⟨_, _, hc⟩ := World.cells?_some h10
        have hc0 := hc 0 (by omega)
        obtain ⟨b, o, spot⟩ := a
        have hspot : spot = none := by
          have h13 : W.cell? ⟨b, o, spot⟩ = some (.int .i64 l[0].v) := by simpa [Addr.add, Bd.cells] using hc0
          exact World.cell?_spot h13
        subst hspot
        refine ⟨b, o, rfl, fun i x hx => ?_⟩
        obtain ⟨h10, _⟩ := h4 i x hx
        obtain ⟨_, _, hc⟩ := World.cells?_some h10
        have e0 := hc 0 (by omega)
        have e1 := hc 1 (by omega)
        have e2 := hc 2 (by omega)
        have e3 := hc 3 (by omega)
        have e4 := hc 4 (by omega)
        rw [add_plain, add_plain] at e0 e1 e2 e3 e4
        exact ⟨e0, e1, e2, e3, e4⟩
    · obtain ⟨i, hi, rfl⟩ := List.getElem_of_mem hy
      exact (h4 i l[i] (List.getElem?_eq_getElem hi)).2
end
end Go.Proofs.Ytcblmkhhhibddaa

namespace Go.Proofs.Ytcblmkhhhibddaa
open Go.RowKit

theorem formed_cases2 {t : T} (h : t.formed = true) : (∃ n, t = .mk 1 n [] [] ∧ 0 ≤ n ∧ n ≤ 1099511627776) ∨ (∃ n, t = .mk 2 n [] []) ∨ (∃ s, t = .mk 3 0 s [] ∧ s.length ≤ 100) ∨
    (∃ s l, t = .mk 4 0 s l ∧ s.length ≤ 100 ∧ 1 ≤ l.length ∧ l.length ≤ 50 ∧ T.formedL l = true) := by
  obtain ⟨k, n, s, l⟩ := t
  rw [T.formed] at h
  by_cases h1 : k = 1
  · subst h1
    simp at h
    exact .inl ⟨n, by rw [h.1.2, h.2], h.1.1.1, h.1.1.2⟩
  by_cases h2 : k = 2
  · subst h2
    simp at h
    exact .inr (.inl ⟨n, by rw [h.1, h.2]⟩)
  by_cases h3 : k = 3
  · subst h3
    simp at h
    exact .inr (.inr (.inl ⟨s, by rw [h.1.1, h.2], h.1.2⟩))
  by_cases h4 : k = 4
  · subst h4
    simp at h
    exact .inr (.inr (.inr ⟨s, l, by rw [h.1.1.1.1], h.1.1.1.2, h.1.1.2, h.1.2, h.2⟩))
  · simp [h1, h2, h3, h4] at h


/-- What a substitution makes of a variable. -/
def lookupT : List Bd → Int → T
  | [], n => varT n
  | x :: xs, n => if x.v = n then x.t.erase else lookupT xs n

theorem lookupT_drop (l : List Bd) (n : Int) (k : Nat) (hk : k < l.length) (h : l[k].v ≠ n) : lookupT (l.drop k) n = lookupT (l.drop (k + 1)) n := by
  rw [List.drop_eq_getElem_cons hk, lookupT, if_neg h]
theorem lookupT_here (l : List Bd) (n : Int) (k : Nat) (hk : k < l.length) (h : l[k].v = n) : lookupT (l.drop k) n = l[k].t.erase := by
  rw [List.drop_eq_getElem_cons hk, lookupT, if_pos h]

def RetFind (S : Nat → Prop) (t : T) (w : World) (e : Ending) (w' : World) : Prop :=
  ∃ (b : Tm) (x : Bool), b.In w' ∧ b.erase = t ∧ e = .returned (.tuple #[b.val, .bool x]) ∧ Gr w w' ∧ b.On S

set_option maxHeartbeats 2000000 in
set_option maxRecDepth 100000 in
theorem rfind_calls (S : Nat → Prop) (p : Option Addr) (c : Nat) (l : List Bd) (n : Int) (w : World) (hx : (Bds.mk p c l).In w) (hn : In64 n) (hS : ∀ b, S b → b < w.heap.size) (hO : ∀ y ∈ l, y.t.On S) :
    Calls Try.prog 176 #[.slice p l.length c, .int .i64 n] w (RetFind (fun b => S b ∨ w.heap.size ≤ b) (lookupT l n) w) := by
  have HX := Lib.hid hx
  have Hn := Lib.hid hn
  have HS := Lib.hid hS
  have HO := Lib.hid hO
  obtain ⟨hlc, ⟨hl64, hc⟩, _, _⟩ := hx
  simp only at hlc hl64 hc
  obtain ⟨hn1, hn2⟩ := hn
  generalize hr : lookupT l n = r
  have Hr := Lib.hid hr
  clear hr hS hO
  go_enter Try.func176, Try.ntmps176
  go_wp2_with fail
  go_loop [6] (fun i => ∃ k : Nat, k ≤ l.length ∧ i = .int .i64 k ∧ Hid (lookupT (l.drop k) n = r)) (fun i => l.length - (intOf i).toNat)
  case atStart => exact ⟨0, Nat.zero_le _, rfl, Hr.out⟩
  case round =>
    obtain ⟨k, hk, rfl, hpre⟩ := hrel
    by_cases hlt : k < l.length
    · obtain ⟨b, o, rfl⟩ := HX.out.ptr (by omega)
      obtain ⟨⟨c0, c1, c2, c3, c4⟩, hti, ⟨hv1, hv2⟩, hbl⟩ := HX.out.elem k hlt
      have Hti := Lib.hid hti
      have HyO := Lib.hid (HO.out _ (List.getElem_mem hlt))
      by_cases hv : l[k].v = n
      · have Hh : Hid (l[k].t.erase = r) := (lookupT_here l n k hlt hv).symm.trans hpre.out
        clear hti
        generalize hye : l[k] = y at *
        obtain ⟨yv, yt⟩ := y
        simp only at *
        have hvb : (yv == n) = true := by simp [hv]
        clear hv
        go_wp2_with fail
        refine bodyPost_ret (v := .tuple #[yt.val, .bool true]) (by simp (maxDischargeDepth := 9) [results, Try.results176, go_sem, Tm.val]) rfl ⟨yt, true, Tm.In_below (by go_grown) Hti.out, Hh.out, rfl, by go_grown, HyO.out.mono fun b hb => .inl hb⟩
      · have Hh : Hid (lookupT (l.drop (k + 1)) n = r) := (lookupT_drop l n k hlt hv).symm.trans hpre.out
        have hvb : (l[k].v == n) = false := beq_eq_false_iff_ne.2 hv
        clear hti hv
        generalize hye : l[k] = y at *
        go_wp2_with fail
        go_round
        case rel => exact ⟨k + 1, by omega, by go_num, Hh.out⟩
        case measure => simp [intOf]; omega
    · obtain rfl : k = l.length := by omega
      have Hh : Hid (varT n = r) := by
        show _ = _
        rw [← hpre.out, List.drop_length, lookupT]
      go_wp2_with fail
      refine (rV_calls n _ Hn.out).mono ?_
      rintro e w1 ⟨rfl, hb1⟩
      obtain ⟨⟨y0, y1, y2, y3⟩, ⟨f0, f1, f2, f3⟩, hlt1⟩ := (Blk4.gr (Blk4.new _ _ _ _ _) hb1).parts
      have g1 : Gr w w1 := below_step hb1 (by go_grown)
      clear hb1
      go_wp2_with fail
      refine bodyPost_ret (v := .tuple #[(varTm n).val, .bool false]) (by simp (maxDischargeDepth := 9) [results, Try.results176, go_sem, varTm, Tm.val, Tm.k, Tm.n, Tm.s, Tm.p, Tm.c, Tm.l, y0, y1, y2, y3]) rfl ⟨varTm n, false, varTm_in Hn.out _, by rw [varTm_erase, Hh.out], rfl, by go_grown, varTm_on n⟩

def applyOf (t : Tm) : Prop := ∀ (S : Nat → Prop) (p : Option Addr) (c : Nat) (l : List Bd) (w : World), t.In w → t.erase.formed = true → (Bds.mk p c l).In w → (∀ b, S b → b < w.heap.size) → (∀ y ∈ l, y.t.On S) →
  Calls Try.prog 130 #[t.val, .slice p l.length c] w (RetTm (fun b => S b ∨ w.heap.size ≤ b) (T.map (lookupT l) t.erase) w)

set_option maxHeartbeats 2000000 in
set_option maxRecDepth 100000 in
theorem apply_var (n : Int) (s : ByteArray) (p' : Option Addr) (c' : Nat) (l' : List Tm) : applyOf (.mk 1 n s p' c' l') := by
  intro S p c l w h hfm hx hS hO
  have HX := Lib.hid hx
  have HS := Lib.hid hS
  have HO := Lib.hid hO
  rw [Tm.In] at h
  obtain ⟨hk0, hn, hs, hlc, hc, hp, hIn⟩ := h
  have Hn := Lib.hid hn
  obtain ⟨hxl, ⟨hl64, hxc⟩, _, _⟩ := hx
  simp only at hxl hl64 hxc
  clear hp hIn hfm hS hO hn
  rw [Tm.erase, T.map, if_pos rfl]
  simp only [Tm.val, Tm.k, Tm.n, Tm.s, Tm.p, Tm.c, Tm.l]
  go_enter Try.func130, Try.ntmps130
  go_wp2_with fail
  refine (rfind_calls S p c l n _ (HX.out.mono (by go_grown)) Hn.out (fun b hb => by have := HS.out b hb; simp; omega) HO.out).mono ?_
  rintro e w1 ⟨bm, x, hin, he, rfl, hb1, hon⟩
  obtain ⟨⟨y0, y1, y2, y3⟩, ⟨f0, f1, f2, f3⟩, hlt⟩ := (Blk4.gr (Blk4.new _ _ _ _ _) hb1).parts
  simp only [World.size_alloc] at y0 y1 y2 y3 f0 f1 f2 f3 hlt hon
  have g1 : Gr w w1 := below_step hb1 (by go_grown)
  have Hin := Lib.hid hin
  have Hon := Lib.hid hon
  have He := Lib.hid he
  clear hin hon he hb1
  simp only [Tm.val]
  go_wp2_with fail
  refine bodyPost_ret (v := bm.val) (by simp (maxDischargeDepth := 9) [results, Try.results130, go_sem, Tm.val, hlt, y0, y1, y2, y3]) rfl ⟨bm, ?_, He.out, rfl, by go_grown, Hon.out.mono fun b hb => hb.imp id fun h => by omega⟩
  exact in_after' Hin.out Hon.out fun b h1 h2 o => by
    have h3 : b ≠ w.heap.size + 1 := by
      rcases h1 with h1 | h1
      · have := HS.out b h1; omega
      · omega
    rw [World.cell?_alloc_past _ _ _ (by simpa using h2), cell_set_ne h3, cell_set_ne h3, cell_set_ne h3, cell_set_ne h3]

set_option maxHeartbeats 4000000 in
set_option maxRecDepth 100000 in
theorem apply_comp (k0 n : Int) (s : ByteArray) (p' : Option Addr) (c' : Nat) (l' : List Tm) (hk1 : k0 ≠ 1) (hl50 : l'.length ≤ 50) (hfl : ∀ x ∈ l', x.erase.formed = true) (ih : ∀ x ∈ l', applyOf x)
    (S : Nat → Prop) (p : Option Addr) (c : Nat) (l : List Bd) (w : World) (h : (Tm.mk k0 n s p' c' l').In w) (hx : (Bds.mk p c l).In w) (hS : ∀ b, S b → b < w.heap.size) (hO : ∀ y ∈ l, y.t.On S) :
    Calls Try.prog 130 #[(Tm.mk k0 n s p' c' l').val, .slice p l.length c] w (RetTm (fun b => S b ∨ w.heap.size ≤ b) (.mk k0 n s.toList (T.mapL (lookupT l) (Tm.eraseL l'))) w) := by
  have HX := Lib.hid hx
  have HSl := Lib.hid h.sl
  have HS := Lib.hid hS
  have HO := Lib.hid hO
  rw [Tm.In] at h
  obtain ⟨hk0, hn, hs, hlc, hc, hp, hIn⟩ := h
  obtain ⟨hxl, ⟨hl64, hxc⟩, _, _⟩ := hx
  simp only at hxl hl64 hxc
  have Hih := Lib.hid ih
  have Hfl := Lib.hid hfl
  have Hs := Lib.hid hs
  have Hn := Lib.hid hn
  have Hk := Lib.hid hk0
  have hk1' : (k0 == 1) = false := beq_eq_false_iff_ne.2 hk1
  clear hp hIn ih hfl hS hO hk1
  simp only [Tm.val, Tm.k, Tm.n, Tm.s, Tm.p, Tm.c, Tm.l]
  go_enter Try.func130, Try.ntmps130
  go_wp2_with fail
  go_loopw [7, 8] (fun v i wr => ∃ k : Nat, k ≤ l'.length ∧ i = .int .i64 k ∧ Hid (∃ lm : List Tm, lm.length = k ∧ Tm.eraseL lm = T.mapL (lookupT l) (Tm.eraseL (l'.take k)) ∧ Built wr (w.heap.size + 1 + 1) S v lm) ∧
      Hid (Blk4 wr w.heap.size (.int .i64 k0) (.int .i64 n) (.string s) (.slice p' l'.length c') ∧ Blk4 wr (w.heap.size + 1) (.int .i64 0) (.int .i64 0) (.string ⟨#[]⟩) (.slice none 0 0)) ∧ Gr w wr ∧ w.heap.size + 1 + 1 ≤ wr.heap.size)
    (fun _ i _ => l'.length - (intOf i).toNat)
  case atStart => exact ⟨0, Nat.zero_le _, rfl, ⟨[], rfl, by simp [T.mapL, Tm.eraseL], Built.nil _ _ _⟩, ⟨Blk4.old (Blk4.new w _ _ _ _) _, by have := Blk4.new (w.alloc (.cells #[.int .i64 k0, .int .i64 n, .string s, .slice p' l'.length c'] 25)) (.int .i64 0) (.int .i64 0) (.string ⟨#[]⟩) (.slice none 0 0); simpa only [World.size_alloc] using this⟩, by go_grown, by simp⟩
  case round =>
    obtain ⟨k, hk, rfl, hlm, HBR, gr, hws⟩ := hrel
    obtain ⟨HB, HR⟩ := HBR.out
    replace HB := Lib.hid HB
    replace HR := Lib.hid HR
    obtain ⟨⟨b0, b1, b2, b3⟩, ⟨ff0, ff1, ff2, ff3⟩, hbs1⟩ := HB.out.parts
    by_cases hlt : k < l'.length
    · obtain ⟨b, o, rfl⟩ := HSl.out.ptr (by omega)
      obtain ⟨⟨c0, c1, c2, c3⟩, hxi, _⟩ := (HSl.out.mono gr).elem k hlt
      have Hx := Lib.hid hxi
      have hmem : l'[k] ∈ l' := List.getElem_mem hlt
      have Hix := Lib.hid (Hih.out _ hmem)
      have Hfx := Lib.hid (Hfl.out _ hmem)
      have Htk : Hid (T.mapL (lookupT l) (Tm.eraseL (l'.take (k + 1))) = T.mapL (lookupT l) (Tm.eraseL (l'.take k)) ++ [T.map (lookupT l) l'[k].erase]) := T.mapL_erase (lookupT l) l' k hlt
      clear hxi hmem
      generalize hxe : l'[k] = x at *
      go_wp2_with fail
      clear b0 b1 b2 b3 ff0 ff1 ff2 ff3
      refine (Hix.out S p c l _ (Tm.In_below (by go_grown) Hx.out) Hfx.out (HX.out.mono (by go_grown)) (fun b hb => Nat.lt_of_lt_of_le (HS.out b hb) gr.size) HO.out).mono ?_
      rintro e w2 ⟨xm, hin, he, rfl, hb2, hon⟩
      obtain ⟨lm, hl0, he0, hF⟩ := hlm.out
      have HF2 := Lib.hid (hF.gr hb2)
      have Hvl := Lib.hid hF.1.lt
      have hs2 := hb2.size
      have HB2 := Lib.hid (And.intro (HB.out.gr hb2) (HR.out.gr hb2))
      have Hl0 := Lib.hid hl0
      have He0 := Lib.hid he0
      have Hin := Lib.hid hin
      have Hon := Lib.hid hon
      have He := Lib.hid he
      have g2 : Gr w w2 := gr.trans hb2
      clear hF hl0 he0 hin hon he hb2 hlm
      obtain ⟨k', n', s', p2, c2, l2⟩ := xm
      simp only [Tm.val, Tm.k, Tm.n, Tm.s, Tm.p, Tm.c, Tm.l]
      go_wp2_with
        (at_builtin
         refine wpList_append_term rfl _ _ rfl rfl (w.heap.size + 1 + 1) S _ lm (.mk k' n' s' p2 c2 l2) w2.heap.size 1 rfl rfl (HF2.out.gr (by go_grown)) (by simp; omega) (Tm.In_below (by go_grown) Hin.out) (Hon.out.mono fun b hb => sep_own HS.out (by omega) Hvl.out hb hws) (by have := Hl0.out; omega) (by show _ = some (Value.int .i64 k'); go_cell) (by show _ = some (Value.int .i64 n'); go_cell) (by show _ = some (Value.string s'); go_cell) (by show _ = some (Value.slice p2 l2.length c2); go_cell) ?_
         intro v' w4 hbt hbel _)
      go_roundw
      case rel =>
        have hg4 : Below (w.heap.size + 1 + 1) w2 w4 := Below.trans (show Below (w.heap.size + 1 + 1) w2 _ by go_grown) hbel
        exact ⟨k + 1, by omega, by go_num, ⟨_, by rw [List.length_append, Hl0.out]; rfl, by rw [eraseL_append, He0.out, Htk.out, ← He.out]; simp [Tm.eraseL], hbt⟩, ⟨HB2.out.1.below hg4 (by omega), HB2.out.2.below hg4 (by omega)⟩, Below.trans g2 (hg4.mono (by omega)), by have := hg4.size; omega⟩
      case measure => simp [intOf]; omega
    · obtain rfl : k = l'.length := by omega
      obtain ⟨lm, hl0, he0, hF⟩ := hlm.out
      obtain ⟨⟨y0, y1, y2, y3⟩, ⟨f0, f1, f2, f3⟩, hbs2⟩ := HR.out.parts
      obtain ⟨pv, cv, rfl, hcv1, hcv2⟩ := hF.form
      have HF := Lib.hid hF
      have Hl0 := Lib.hid hl0
      have He0 := Lib.hid he0
      clear hF hl0 he0 hlm
      go_wp2_with fail
      have hsl := HF.out.sl (by have := Hl0.out; omega)
      refine bodyPost_ret (v := (Tm.mk k0 n s pv cv lm).val) (by simp [results, Try.results130, go_sem, Tm.val, Tm.k, Tm.n, Tm.s, Tm.p, Tm.c, Tm.l, y0, y1, y2, y3]) rfl ⟨_, ?_, ?_, rfl, by go_grown, ?_⟩
      · have hin : (Tm.mk k0 n s pv cv lm).In wr := by
          rw [Tm.In]
          exact ⟨Hk.out, Hn.out, Hs.out, hsl.2.1.1, hsl.2.1.2.1, hsl.2.1.2.2.1, hsl.2.1.2.2.2⟩
        have hon : (Tm.mk k0 n s pv cv lm).On (fun b => S b ∨ w.heap.size + 1 + 1 ≤ b) := by rw [Tm.On]; exact hsl.2.2
        exact in_after' hin hon fun b h1 h2 o => by
          have : b ≠ w.heap.size + 1 ∧ b ≠ w.heap.size := by
            rcases h1 with h1 | h1
            · have := HS.out b h1; omega
            · omega
          rw [cell_set_ne this.1, cell_set_ne this.1, cell_set_ne this.1, cell_set_ne this.1, cell_set_ne this.2]
      · rw [Tm.erase, He0.out, List.take_length]
      · rw [Tm.On]
        exact ⟨hsl.2.2.1.imp id fun ⟨b, o, h1, h2⟩ => ⟨b, o, h1, h2.imp id fun h => by omega⟩, hsl.2.2.2.mono fun b hb => hb.imp id fun h => by omega⟩

theorem apply_any (N : Nat) : ∀ (t : Tm), SizeOf.sizeOf t ≤ N → applyOf t := by
  induction N with
  | zero => intro t h; cases t; simp at h
  | succ N ih =>
    intro t hN
    obtain ⟨k0, n, s, p', c', l'⟩ := t
    by_cases hk : k0 = 1
    · subst hk; exact apply_var n s p' c' l'
    intro S p c l w h hfm hx hS hO
    have hih : ∀ x ∈ l', applyOf x := fun x hx => ih x (by have := Tm.sizeOf_mem hx k0 n s p' c'; omega)
    by_cases hk4 : k0 = 4
    · subst hk4
      obtain ⟨_, _, _, h50, hfl⟩ := formed_elem rfl hfm
      rw [Tm.erase, T.map, if_neg (by decide), if_pos rfl]
      exact apply_comp 4 n s p' c' l' (by decide) h50 hfl hih S p c l w h hx hS hO
    · have hl : l' = [] := by
        have h9 := Tm.eraseL_length l'
        rcases formed_cases2 hfm with ⟨m, he, _⟩ | ⟨m, he⟩ | ⟨s2, he, _⟩ | ⟨s2, l2, he, _⟩ <;> rw [Tm.erase] at he <;> injection he with e1 e2 e3 e4
        · rw [e4] at h9; exact List.eq_nil_of_length_eq_zero h9.symm
        · rw [e4] at h9; exact List.eq_nil_of_length_eq_zero h9.symm
        · rw [e4] at h9; exact List.eq_nil_of_length_eq_zero h9.symm
        · exact absurd e1 hk4
      subst hl
      have := apply_comp k0 n s p' c' [] hk (by simp) (by simp) hih S p c l w h hx hS hO
      rw [Tm.erase, T.map, if_neg hk, if_neg hk4]
      simpa [Tm.eraseL, T.mapL] using this

/-- hornref.Apply, of a term. -/
theorem rapply_calls {t : Tm} {x : Bds} {w : World} (h : t.In w) (hf : t.erase.formed = true) (hx : x.In w) : Calls Try.prog 130 #[t.val, x.val] w (RetTm (fun _ => True) (T.map (lookupT x.l) t.erase) w) :=
  (apply_any _ t (Nat.le_refl _) (· < w.heap.size) x.p x.c x.l w h hf hx (fun _ h => h) (fun y hy => Tm.In.on (hx.2.2.2 y hy).1)).mono fun _ _ ⟨b, h1, h2, h3, h4, h5⟩ => ⟨b, h1, h2, h3, h4, h5.mono fun _ _ => trivial⟩
/-- The same: what is handed back lies on blocks of the binds, or on new ones. -/
theorem rapplyOn_calls {S : Nat → Prop} {t : Tm} {x : Bds} {w : World} (h : t.In w) (hf : t.erase.formed = true) (hx : x.In w) (hn : ∀ b, w.heap.size ≤ b → S b) (ox : ∀ y ∈ x.l, y.t.On S) : Calls Try.prog 130 #[t.val, x.val] w (RetTm S (T.map (lookupT x.l) t.erase) w) :=
  (apply_any _ t (Nat.le_refl _) (fun b => S b ∧ b < w.heap.size) x.p x.c x.l w h hf hx (fun _ h => h.2) (fun y hy => (ox y hy).and (Tm.In.on (hx.2.2.2 y hy).1))).mono fun _ _ ⟨b, h1, h2, h3, h4, h5⟩ => ⟨b, h1, h2, h3, h4, h5.mono fun b hb => hb.elim (fun h => h.1) (hn b)⟩

end Go.Proofs.Ytcblmkhhhibddaa

namespace Go.Proofs.Ytcblmkhhhibddaa
open Go.RowKit Go.Lib

/-- The variables rise. -/
def ascB (last : Int) : List Bd → Bool
  | [] => true
  | x :: xs => decide (last < x.v) && (decide (x.v ≤ 1099511627776) && ascB x.v xs)
/-- P4: is it a substitution? -/
def bindsErr (l : List Bd) : Int := if (l.all fun y => y.t.erase.formed) = true then (if ascB (-1) l = true then 0 else 1) else 2

theorem all_take_snoc {l : List Bd} {k : Nat} (hk : k < l.length) (h : ((l.take k).all fun y => y.t.erase.formed) = true) (hx : l[k].t.erase.formed = true) : ((l.take (k + 1)).all fun y => y.t.erase.formed) = true := by
  rw [List.take_succ_eq_append_getElem hk, List.all_append, h]
  simp [hx]
theorem all_false {l : List Bd} {k : Nat} (hk : k < l.length) (hx : l[k].t.erase.formed = false) : bindsErr l = 2 := by
  refine if_neg fun h => ?_
  have := List.all_eq_true.1 h l[k] (List.getElem_mem hk)
  rw [hx] at this
  cases this
theorem asc_drop {l : List Bd} {k : Nat} (hk : k < l.length) (last : Int) : ascB last (l.drop k) = (decide (last < l[k].v) && (decide (l[k].v ≤ 1099511627776) && ascB l[k].v (l.drop (k + 1)))) := by
  rw [List.drop_eq_getElem_cons hk, ascB]

def bdCells (y : Bd) : Array Value := #[.int .i64 y.v, .int .i64 y.t.k, .int .i64 y.t.n, .string y.t.s, .slice y.t.p y.t.l.length y.t.c]

set_option maxHeartbeats 4000000 in
set_option maxRecDepth 100000 in
theorem checkBinds_calls (p : Option Addr) (c : Nat) (l : List Bd) (w : World) (hx : (Bds.mk p c l).In w) : Calls Try.prog 111 #[.slice p l.length c] w (Ret (.int .i64 (bindsErr l)) w) := by
  have HX := Lib.hid hx
  obtain ⟨hlc, ⟨hl64, hc⟩, _, _⟩ := hx
  simp only at hlc hl64 hc
  have hR : Hid (∀ n, bindsErr l = n → ∀ w', Gr w w' → Ret (.int .i64 (bindsErr l)) w (.returned (.int .i64 n)) w') := fun n h w' hg => ⟨by rw [h], hg⟩
  generalize hQ : Ret (.int .i64 (bindsErr l)) w = Q at hR ⊢
  clear hQ
  go_enter Try.func111, Try.ntmps111
  try simp only [List.append_eq, List.cons_append, List.nil_append]
  go_wp2_with fail
  go_loopg [10] l.length (fun m i wr => ∃ k : Nat, k ≤ l.length ∧ m = l.length - k ∧ i = .int .i64 k ∧ Hid (((l.take k).all fun y => y.t.erase.formed) = true) ∧ Gr w wr)
  case atStart => exact ⟨0, Nat.zero_le _, rfl, rfl, rfl, Gr.rfl' _⟩
  case round =>
    obtain ⟨k, hk, rfl, rfl, hpre, gr⟩ := hrel
    by_cases hlt : k < l.length
    · obtain ⟨b, o, rfl⟩ := HX.out.ptr (by omega)
      obtain ⟨⟨c0, c1, c2, c3, c4⟩, hti, ⟨hv1, hv2⟩, hbl⟩ := (HX.out.mono gr).elem k hlt
      have Hti := Lib.hid hti
      have Hst : Hid (l[k].t.erase.formed = true → ((l.take (k + 1)).all fun y => y.t.erase.formed) = true) := fun h => all_take_snoc hlt hpre.out h
      have Hbad : Hid (l[k].t.erase.formed = false → bindsErr l = 2) := fun h => all_false hlt h
      clear hti
      generalize l[k] = y at *
      go_upto_region 4 with fail
      have hB := BlkT.new wr 117 (bdCells y)
      have gB : Gr wr (wr.alloc (.cells (bdCells y) 117)) := by go_grown
      simp only [bdCells] at hB gB
      generalize wr.alloc (.cells #[.int .i64 y.v, .int .i64 y.t.k, .int .i64 y.t.n, .string y.t.s, .slice y.t.p y.t.l.length y.t.c] 117) = wB at *
      have HB := Lib.hid hB
      have grB : Gr w wB := gr.trans gB
      clear hB c0 c1 c2 c3 c4
      have d1 := HB.out.cell 1 (v := .int .i64 y.t.k) rfl
      have d2 := HB.out.cell 2 (v := .int .i64 y.t.n) rfl
      have d3 := HB.out.cell 3 (v := .string y.t.s) rfl
      have d4 := HB.out.cell 4 (v := .slice y.t.p y.t.l.length y.t.c) rfl
      have Htv := Lib.hid (show y.t.val = .agg #[.int .i64 y.t.k, .int .i64 y.t.n, .string y.t.s, .slice y.t.p y.t.l.length y.t.c] from rfl)
      cases hf : y.t.erase.formed with
      | false =>
        have Hf := Lib.hid hf
        clear hf
        go_wp2_with (first
          | (go_at_call 95; rewrite [← Htv.out]; refine (formed_calls (t := y.t) (Tm.In_below gB Hti.out)).mono ?_; rw [Hf.out]; rintro e w1 ⟨rfl, hb1⟩; have g1 : Gr w w1 := grB.trans hb1; clear hb1 d1 d2 d3 d4)
          | fail)
        exact hR.out _ (Hbad.out Hf.out) _ g1
      | true =>
        have Hf := Lib.hid hf
        clear hf
        go_wp2_with (first
          | (go_at_call 95; rewrite [← Htv.out]; refine (formed_calls (t := y.t) (Tm.In_below gB Hti.out)).mono ?_; rw [Hf.out]; rintro e w1 ⟨rfl, hb1⟩; have g1 : Gr w w1 := grB.trans hb1; clear hb1 d1 d2 d3 d4)
          | fail)
        go_roundg (l.length - (k + 1))
        case measure => omega
        case rel => exact ⟨k + 1, by omega, rfl, by go_num, Hst.out Hf.out, g1⟩
    · obtain rfl : k = l.length := by omega
      have Hall : Hid ((l.all fun y => y.t.erase.formed) = true) := by
        show _ = _
        have := hpre.out
        rwa [List.take_length] at this
      clear hpre
      go_wp2_with fail
      go_loopg [5, 21] l.length (fun m v i wx => ∃ (k : Nat) (last : Int), v = .int .i64 last ∧ In64 last ∧ k ≤ l.length ∧ m = l.length - k ∧ i = .int .i64 k ∧ Hid (ascB last (l.drop k) = ascB (-1) l) ∧ Gr w wx)
      case atStart => exact ⟨0, -1, rfl, ⟨by omega, by omega⟩, Nat.zero_le _, rfl, rfl, rfl, gr⟩
      case round =>
        obtain ⟨k, last, rfl, hla, hk, rfl, rfl, hpre, gr2⟩ := hrel
        by_cases hlt : k < l.length
        · obtain ⟨b, o, rfl⟩ := HX.out.ptr (by omega)
          obtain ⟨⟨c0, c1, c2, c3, c4⟩, hti, ⟨hv1, hv2⟩, hbl⟩ := (HX.out.mono gr2).elem k hlt
          have hst := hpre.out.symm.trans (asc_drop hlt last)
          clear hti
          generalize l[k] = y at *
          have Hst := Lib.hid hst
          clear hst hpre
          go_upto_region 11 with fail
          have hB := BlkT.new wr 117 (bdCells y)
          have gB : Gr wr (wr.alloc (.cells (bdCells y) 117)) := by go_grown
          simp only [bdCells] at hB gB
          generalize wr.alloc (.cells #[.int .i64 y.v, .int .i64 y.t.k, .int .i64 y.t.n, .string y.t.s, .slice y.t.p y.t.l.length y.t.c] 117) = wB at *
          have HB := Lib.hid hB
          have grB : Gr w wB := gr2.trans gB
          clear hB c0 c1 c2 c3 c4
          have d0 := HB.out.cell 0 (v := .int .i64 y.v) rfl
          by_cases h1 : last < y.v
          · by_cases h2 : y.v ≤ 1099511627776
            · have h1' : decide (y.v ≤ last) = false := decide_eq_false (by omega)
              have h2' : decide (1099511627776 < y.v) = false := decide_eq_false (by omega)
              have Hst2 : Hid (ascB y.v (l.drop (k + 1)) = ascB (-1) l) := by
                show _ = _
                rw [Hst.out, decide_eq_true h1, decide_eq_true h2]; rfl
              clear h1 h2
              go_wp2_with fail
              go_roundg (l.length - (k + 1))
              case measure => omega
              case rel => exact ⟨k + 1, y.v, rfl, ⟨hv1, hv2⟩, by omega, rfl, by go_num, Hst2.out, grB⟩
            · have h1' : decide (y.v ≤ last) = false := decide_eq_false (by omega)
              have h2' : decide (1099511627776 < y.v) = true := decide_eq_true (by omega)
              have Hst2 : Hid (bindsErr l = 1) := by
                show _ = _
                rw [bindsErr, if_pos Hall.out, if_neg (by rw [Hst.out, decide_eq_false h2]; simp)]
              clear h1 h2
              go_wp2_with fail
              exact hR.out _ Hst2.out _ grB
          · have h1' : decide (y.v ≤ last) = true := decide_eq_true (by omega)
            have Hst2 : Hid (bindsErr l = 1) := by
              show _ = _
              rw [bindsErr, if_pos Hall.out, if_neg (by rw [Hst.out, decide_eq_false h1]; simp)]
            clear h1
            go_wp2_with fail
            exact hR.out _ Hst2.out _ grB
        · obtain rfl : k = l.length := by omega
          have Hst2 : Hid (bindsErr l = 0) := by
            show _ = _
            rw [bindsErr, if_pos Hall.out, if_pos (by rw [← hpre.out, List.drop_length, ascB])]
          go_wp2_with fail
          exact hR.out _ Hst2.out _ gr2
end Go.Proofs.Ytcblmkhhhibddaa
