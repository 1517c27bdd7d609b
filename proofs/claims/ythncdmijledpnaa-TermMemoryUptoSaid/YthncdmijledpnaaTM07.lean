/-
  hornkeep.spoilt, spoilTerm: what is written over is one's own.
  hornkeep.twice: what is answered is the caller's.
-/
import Derived.Test.YthncdmijledpnaaTM04
import Derived.Test.YthncdmijledpnaaTM05
import Derived.Test.YthncdmijledpnaaTM02
import Derived.Deep.LoopGhost
import Derived.Deep.CutRange
import Derived.Deep.CutBlock
import Derived.Deep.Light
import Derived.Test.YthncdmijledpnaaTM06
namespace Go.Proofs.Ythncdmijledpnaa
open Go.RowKit Go.Lib

/-- Each of the n terms is as it was, or a mark. -/
def SameOrMark (n : Nat) (cur cur' : Array Value) : Prop :=
  cur'.size = cur.size ∧ ∀ i, i < n → (∀ j, j < 4 → cur'[i * 4 + j]? = cur[i * 4 + j]?) ∨ (∀ j, j < 4 → cur'[i * 4 + j]? = markTm.cells[j]?)
theorem SameOrMark.refl (n : Nat) (cur : Array Value) : SameOrMark n cur cur := ⟨rfl, fun _ _ => .inl fun _ _ => rfl⟩
theorem SameOrMark.trans {n : Nat} {a b c : Array Value} (h : SameOrMark n a b) (k : SameOrMark n b c) : SameOrMark n a c := by
  refine ⟨k.1.trans h.1, fun i hi => ?_⟩
  rcases k.2 i hi with k2 | k2
  · rcases h.2 i hi with h2 | h2
    · exact .inl fun j hj => (k2 j hj).trans (h2 j hj)
    · exact .inr fun j hj => (k2 j hj).trans (h2 j hj)
  · exact .inr k2

/-- From w to w' only blocks of S have turned, and there terms have been written over by marks alone. -/
structure Spoil (S : Nat → Prop) (w w' : World) : Prop where
  kp : Kp S w w'
  keep : ∀ (b : Nat) (cur : Array Value) (n : Nat), S b → w.heap[b]? = some (.cells cur 25) → cur.size = n * 4 → ∃ cur', w'.heap[b]? = some (.cells cur' 25) ∧ SameOrMark n cur cur'
theorem Spoil.of_gr {S : Nat → Prop} {w w' : World} (h : Gr w w') : Spoil S w w' :=
  ⟨Kp.of_gr h, fun b cur _ _ hb _ => ⟨cur, (h.block b (Array.getElem?_eq_some_iff.1 hb).1).trans hb, SameOrMark.refl _ _⟩⟩
theorem Spoil.trans {S : Nat → Prop} {w w' w'' : World} (h : Spoil S w w') (k : Spoil S w' w'') : Spoil S w w'' := by
  refine ⟨h.kp.trans k.kp, fun b cur n hb hc hn => ?_⟩
  obtain ⟨c1, h1, h2⟩ := h.keep b cur n hb hc hn
  obtain ⟨c2, h3, h4⟩ := k.keep b c1 n hb h1 (h2.1.trans hn)
  exact ⟨c2, h3, h2.trans h4⟩

/-- A slice of terms, and the slices of its terms, so many deep: each lies on a whole block of S, with its spare room, or is none. -/
def Fit (S : Nat → Prop) (w : World) : Nat → Option Addr → Nat → Nat → Prop
  | 0, p, n, c => p = none ∧ n = 0 ∧ c = 0
  | d + 1, p, n, c => (p = none ∧ n = 0 ∧ c = 0) ∨ ∃ (b : Nat) (cur : Array Value), p = some ⟨b, 0, none⟩ ∧ S b ∧ w.heap[b]? = some (.cells cur 25) ∧ cur.size = c * 4 ∧ n ≤ c ∧ c ≤ 9223372036854775807 ∧ n * 56 ≤ 140737488351232 ∧
      ∀ i, i < n → ∃ (k m : Int) (s : ByteArray) (q : Option Addr) (n' c' : Nat), cur[i * 4]? = some (.int .i64 k) ∧ cur[i * 4 + 1]? = some (.int .i64 m) ∧ cur[i * 4 + 2]? = some (.string s) ∧ cur[i * 4 + 3]? = some (.slice q n' c') ∧ Fit S w d q n' c'
theorem Fit.none_ (S : Nat → Prop) (w : World) : ∀ d, Fit S w d none 0 0
  | 0 => ⟨rfl, rfl, rfl⟩
  | _ + 1 => .inl ⟨rfl, rfl, rfl⟩
theorem Fit.spoil {S : Nat → Prop} {w w' : World} (hs : Spoil S w w') : ∀ {d : Nat} {p : Option Addr} {n c : Nat}, Fit S w d p n c → Fit S w' d p n c
  | 0, _, _, _, h => h
  | d + 1, p, n, c, h => by
    refine Or.imp id ?_ h
    rintro ⟨b, cur, hp, hb, hc, hn, hnc, hcm, h56, hel⟩
    obtain ⟨cur', hc', hsz, hsm⟩ := hs.keep b cur c hb hc hn
    refine ⟨b, cur', hp, hb, hc', hsz.trans hn, hnc, hcm, h56, fun i hi => ?_⟩
    rcases hsm i (by omega) with h1 | h1
    · obtain ⟨k, m, s, q, n', c', e0, e1, e2, e3, hf⟩ := hel i hi
      exact ⟨k, m, s, q, n', c', (h1 0 (by omega)).trans e0, (h1 1 (by omega)).trans e1, (h1 2 (by omega)).trans e2, (h1 3 (by omega)).trans e3, Fit.spoil hs hf⟩
    · exact ⟨9, -77, spoiltB, none, 0, 0, h1 0 (by omega), h1 1 (by omega), h1 2 (by omega), h1 3 (by omega), Fit.none_ _ _ _⟩

/-- The list is written over: so far. -/
theorem mark_set (n i : Nat) (cur : Array Value) (hn : cur.size = n * 4) (hi : i < n) :
    SameOrMark n cur ((((cur.setIfInBounds (i * 4) (.int .i64 9)).setIfInBounds (i * 4 + 1) (.int .i64 (-77))).setIfInBounds (i * 4 + 2) (.string spoiltB)).setIfInBounds (i * 4 + 3) (.slice none 0 0)) := by
  refine ⟨by simp, fun k hk => ?_⟩
  by_cases h : k = i
  · subst h
    refine .inr fun j hj => ?_
    have hb : k * 4 + 3 < cur.size := by omega
    match j, hj with
    | 0, _ => simp [Tm.cells, markTm, Tm.k, show k * 4 < cur.size by omega]
    | 1, _ => simp [Tm.cells, markTm, Tm.n, show k * 4 + 1 < cur.size by omega]
    | 2, _ => simp [Tm.cells, markTm, Tm.s, show k * 4 + 2 < cur.size by omega]
    | 3, _ => simp [Tm.cells, markTm, Tm.p, Tm.c, Tm.l, hb]
  · refine .inl fun j hj => ?_
    rw [Array.getElem?_setIfInBounds_ne (by omega), Array.getElem?_setIfInBounds_ne (by omega), Array.getElem?_setIfInBounds_ne (by omega), Array.getElem?_setIfInBounds_ne (by omega)]

theorem spoil_set {S : Nat → Prop} {w : World} {b n i : Nat} {cur : Array Value} (hb : S b) (hc : w.heap[b]? = some (.cells cur 25)) (hn : cur.size = n * 4) (hi : i < n) :
    Spoil S w ((((w.setCell ⟨b, i * 4, none⟩ (.int .i64 9)).setCell ⟨b, i * 4 + 1, none⟩ (.int .i64 (-77))).setCell ⟨b, i * 4 + 2, none⟩ (.string spoiltB)).setCell ⟨b, i * 4 + 3, none⟩ (.slice none 0 0)) := by
  have h1 := heap_setCell_same _ b (i * 4) _ _ (.int .i64 9) hc
  have h2 := heap_setCell_same _ b (i * 4 + 1) _ _ (.int .i64 (-77)) h1
  have h3 := heap_setCell_same _ b (i * 4 + 2) _ _ (.string spoiltB) h2
  have h4 := heap_setCell_same _ b (i * 4 + 3) _ _ (.slice none 0 0) h3
  have hk : Kp (fun x => x = b) w _ := Kp.set4 (o1 := i * 4) (o2 := i * 4 + 1) (o3 := i * 4 + 2) (o4 := i * 4 + 3) (a := .int .i64 9) (b := .int .i64 (-77)) (c := .string spoiltB) (e := .slice none 0 0) (W := w) (R := b) rfl
  refine ⟨hk.mono fun x hx => by rw [show x = b from hx]; exact hb, fun b' cur' n' hb' hc' hn' => ?_⟩
  by_cases h : b' = b
  · subst h
    rw [hc] at hc'
    cases hc'
    obtain rfl : n' = n := by omega
    exact ⟨_, h4, mark_set n' i cur hn hi⟩
  · exact ⟨cur', (hk.block b' (Array.getElem?_eq_some_iff.1 hc').1 h).trans hc', SameOrMark.refl _ _⟩

theorem marks_at4 : ∀ j r : Nat, j < 3 → r < 4 → marks[j * 4 + r]? = markTm.cells[r]? := by
  intro j r hj hr
  match j, r, hj, hr with
  | 0, 0, _, _ => rfl
  | 0, 1, _, _ => rfl
  | 0, 2, _, _ => rfl
  | 0, 3, _, _ => rfl
  | 1, 0, _, _ => rfl
  | 1, 1, _, _ => rfl
  | 1, 2, _, _ => rfl
  | 1, 3, _, _ => rfl
  | 2, 0, _, _ => rfl
  | 2, 1, _, _ => rfl
  | 2, 2, _, _ => rfl
  | 2, 3, _, _ => rfl
/-- Three marks are written behind n terms. -/
theorem mark_into (n c : Nat) (cur : Array Value) (hc : cur.size = c * 4) (hroom : n + 3 ≤ c) :
    SameOrMark c cur (cur.toList.take (n * 4) ++ marks ++ cur.toList.drop (n * 4 + marks.length)).toArray := by
  have hl : (cur.toList.take (n * 4)).length = n * 4 := by rw [List.length_take, Array.length_toList]; omega
  have hm : marks.length = 12 := marks_len
  refine ⟨by simp only [List.size_toArray, List.length_append, List.length_drop, Array.length_toList, hl, hm]; omega, fun i hi => ?_⟩
  by_cases h1 : i < n
  · refine .inl fun j hj => ?_
    rw [List.getElem?_toArray, List.append_assoc, List.getElem?_append_left (by rw [hl]; omega), List.getElem?_take_of_lt (by omega), Array.getElem?_toList]
  · by_cases h2 : i < n + 3
    · refine .inr fun j hj => ?_
      rw [List.getElem?_toArray, List.append_assoc, List.getElem?_append_right (by rw [hl]; omega), hl, List.getElem?_append_left (by rw [hm]; omega), show i * 4 + j - n * 4 = (i - n) * 4 + j by omega]
      exact marks_at4 _ _ (by omega) hj
    · refine .inl fun j hj => ?_
      rw [List.getElem?_toArray, List.append_assoc, List.getElem?_append_right (by rw [hl]; omega), hl, List.getElem?_append_right (by rw [hm]; omega), List.getElem?_drop, hm, Array.getElem?_toList]
      congr 1
      omega
theorem spoil_into {S : Nat → Prop} {w w' : World} {b n c : Nat} {cur : Array Value} (hb : S b) (hc : w.heap[b]? = some (.cells cur 25)) (hn : cur.size = c * 4) (hroom : n + 3 ≤ c)
    (h' : w'.heap[b]? = some (.cells (cur.toList.take (n * 4) ++ marks ++ cur.toList.drop (n * 4 + marks.length)).toArray 25)) (hk : Kp (fun x => x = b) w w') : Spoil S w w' := by
  refine ⟨hk.mono fun x hx => by rw [show x = b from hx]; exact hb, fun b' cur' n' hb' hc' hn' => ?_⟩
  by_cases h : b' = b
  · subst h
    rw [hc] at hc'
    cases hc'
    obtain rfl : n' = c := by omega
    exact ⟨_, h', mark_into n n' cur hn hroom⟩
  · exact ⟨cur', (hk.block b' (Array.getElem?_eq_some_iff.1 hc').1 h).trans hc', SameOrMark.refl _ _⟩

def RetSpoil (S : Nat → Prop) (w : World) (e : Ending) (w' : World) : Prop := e = .returned (.tuple #[]) ∧ Spoil S w w'

set_option maxHeartbeats 2000000 in
set_option maxRecDepth 100000 in
theorem spoilt_none (S : Nat → Prop) (w : World) : Calls Try.prog 83 #[.slice none 0 0, markTm.val] w (RetSpoil S w) := by
  have hR : Hid (∀ w', Gr w w' → RetSpoil S w (.returned (.tuple #[])) w') := fun w' h => ⟨rfl, Spoil.of_gr h⟩
  generalize hQ : RetSpoil S w = Q at hR ⊢
  clear hQ
  obtain ⟨i0, hi, hz0, hz1, hz2⟩ := info_parts infoTermM
  have Hi := Lib.hid hi
  clear hi
  rw [markTm_val]
  go_enter Try.func83, Try.ntmps83
  try simp only [List.append_eq, List.cons_append, List.nil_append]
  go_upto_region 1 with fail
  have hN := Blk4.new w (.int .i64 9) (.int .i64 (-77)) (.string spoiltB) (.slice none 0 0)
  have gA : Gr w (w.alloc (.cells #[.int .i64 9, .int .i64 (-77), .string spoiltB, .slice none 0 0] 25)) := by go_grown
  generalize w.alloc (.cells #[.int .i64 9, .int .i64 (-77), .string spoiltB, .slice none 0 0] 25) = w1 at *
  have HM := Lib.hid hN
  clear hN
  go_wp2_with fail
  go_loopg [12] 0 (fun _ i wr => i = .int .i64 0 ∧ w1 = wr)
  case atStart => exact ⟨rfl, rfl⟩
  case round =>
    obtain ⟨rfl, rfl⟩ := hrel
    obtain ⟨⟨m0, m1, m2, m3⟩, _, _⟩ := HM.out.parts
    have hmk : (w1.alloc (.cells marks.toArray 25)).heap[w1.heap.size]? = some (.cells marks.toArray 25) := heap_alloc_new w1 _
    have hr := run_append_nil (P := Try.prog) (w1.alloc (.cells marks.toArray 25)) 23 23 25 i0 _ Try.underlying23 Hi.out hz0 ⟨w1.heap.size, 0, none⟩ 3 3 marks (by rw [hz1]; rfl)
      (fun j u hu => by rw [Go.WideShapes.add_plain, Nat.zero_add, cell_of_row _ _ j _ _ _ hmk]; simpa using hu) (by omega) (by omega) (by rw [hz2]; omega)
    have Hr := Lib.hid hr
    clear hr hmk
    go_wp2_with (first
      | (refine wpList_append_run _ rfl _ _ _ _ rfl _ _ (by rfl) (by rfl) _ _ Hr.out ?_)
      | fail)
    go_end0
    exact hR.out _ (gA.trans (by go_grown))

set_option maxHeartbeats 2000000 in
set_option maxRecDepth 100000 in
theorem spoilt_some (S : Nat → Prop) (b n c : Nat) (cur : Array Value) (w : World) (hb : S b) (hS : ∀ b, S b → b < w.heap.size) (hc : w.heap[b]? = some (.cells cur 25)) (hn : cur.size = c * 4) (hnc : n ≤ c) (hcm : c ≤ 9223372036854775807) (h56 : n * 56 ≤ 140737488351232) :
    Calls Try.prog 83 #[.slice (some ⟨b, 0, none⟩) n c, markTm.val] w (RetSpoil S w) := by
  have hR : Hid (∀ w', Spoil S w w' → RetSpoil S w (.returned (.tuple #[])) w') := fun w' h => ⟨rfl, h⟩
  generalize hQ : RetSpoil S w = Q at hR ⊢
  clear hQ
  obtain ⟨i0, hi, hz0, hz1, hz2⟩ := info_parts infoTermM
  have Hi := Lib.hid hi
  have hbl := hS b hb
  clear hi
  rw [markTm_val]
  go_enter Try.func83, Try.ntmps83
  try simp only [List.append_eq, List.cons_append, List.nil_append]
  go_upto_region 1 with fail
  have hN := Blk4.new w (.int .i64 9) (.int .i64 (-77)) (.string spoiltB) (.slice none 0 0)
  have gA : Gr w (w.alloc (.cells #[.int .i64 9, .int .i64 (-77), .string spoiltB, .slice none 0 0] 25)) := by go_grown
  generalize w.alloc (.cells #[.int .i64 9, .int .i64 (-77), .string spoiltB, .slice none 0 0] 25) = w1 at *
  have HM := Lib.hid hN
  clear hN
  have Hc1 := Lib.hid ((gA.block b hbl).trans hc)
  have HS := Lib.hid hS
  clear hc hS
  go_wp2_with fail
  go_loopg [12] c (fun m i wr => ∃ k : Nat, k ≤ c ∧ m = c - k ∧ i = .int .i64 k ∧ Hid (Spoil S w1 wr))
  case atStart => exact ⟨0, Nat.zero_le _, rfl, rfl, Spoil.of_gr (Gr.rfl' _)⟩
  case round =>
    obtain ⟨k, hk, rfl, rfl, hsp⟩ := hrel
    obtain ⟨c2, hc2, hsm⟩ := hsp.out.keep b cur c hb Hc1.out hn
    have hsz : c2.size = c * 4 := hsm.1.trans hn
    have HMr := Lib.hid (HM.out.kp hsp.out.kp (fun h => by have := HS.out _ h; omega))
    have Hc2 := Lib.hid hc2
    obtain ⟨⟨m0, m1, m2, m3⟩, _, _⟩ := HMr.out.parts
    by_cases hlt : k < c
    · have q : ∀ r, r < 4 → ∃ v, wr.cell? ⟨b, k * 4 + r, none⟩ = some v := fun r hr => ⟨_, (cell_of_row wr b _ _ _ _ Hc2.out).trans (Array.getElem?_eq_getElem (by omega))⟩
      obtain ⟨v0, q0⟩ := q 0 (by omega)
      obtain ⟨v1, q1⟩ := q 1 (by omega)
      obtain ⟨v2, q2⟩ := q 2 (by omega)
      obtain ⟨v3, q3⟩ := q 3 (by omega)
      rw [Nat.add_zero] at q0
      have z0 := frozen_of_row wr b (k * 4) _ _ Hc2.out
      have z1 := frozen_of_row wr b (k * 4 + 1) _ _ Hc2.out
      have z2 := frozen_of_row wr b (k * 4 + 2) _ _ Hc2.out
      have z3 := frozen_of_row wr b (k * 4 + 3) _ _ Hc2.out
      have hss := Lib.hid (hsp.out.trans (spoil_set (i := k) hb hc2 hsz hlt))
      clear q hc2 hsm
      go_wp2_with fail
      go_roundg (c - (k + 1))
      case measure => omega
      case rel => exact ⟨k + 1, by omega, rfl, by go_num, hss⟩
    · obtain rfl : k = c := by omega
      have hmk : (wr.alloc (.cells marks.toArray 25)).heap[wr.heap.size]? = some (.cells marks.toArray 25) := heap_alloc_new wr _
      have hc3 : (wr.alloc (.cells marks.toArray 25)).heap[b]? = some (.cells c2 25) := (heap_alloc_old wr _ (Array.getElem?_eq_some_iff.1 hc2).1).trans hc2
      have gM : Gr wr (wr.alloc (.cells marks.toArray 25)) := by go_grown
      obtain ⟨v', w', hr, hs⟩ : ∃ v' w', (Builtin.append_ #[23, 23] 23 #[.slice (some ⟨b, 0, none⟩) n k, .slice (some ⟨wr.heap.size, 0, none⟩) 3 3]).run Try.prog (wr.alloc (.cells marks.toArray 25)) = .ok v' w' ∧ Spoil S (wr.alloc (.cells marks.toArray 25)) w' := by
        by_cases hroom : n + 3 ≤ k
        · obtain ⟨w5, h1, h2, h3⟩ := append_into (P := Try.prog) (wr.alloc (.cells marks.toArray 25)) 23 23 25 i0 Try.underlying23 Hi.out hz1 b n k c2 hc3 hsz ⟨wr.heap.size, 0, none⟩ 3 3 marks rfl
            (fun j u hu => by rw [Go.WideShapes.add_plain, Nat.zero_add, cell_of_row _ _ j _ _ _ hmk]; simpa using hu) marks_one hroom
          exact ⟨_, w5, h1, spoil_into hb hc3 hsz hroom h2 h3⟩
        · have hr := run_append_grow (P := Try.prog) (wr.alloc (.cells marks.toArray 25)) 23 23 25 i0 _ Try.underlying23 Hi.out hz0 ⟨b, 0, none⟩ n k (c2.toList.take (n * 4)) (by rw [hz1, List.length_take, Array.length_toList, hsz]; omega)
            (fun j u hu => by
              rw [Go.WideShapes.add_plain, Nat.zero_add, cell_of_row _ _ j _ _ _ hc3]
              rw [List.getElem?_take] at hu
              split at hu
              · rw [← Array.getElem?_toList]; exact hu
              · cases hu) ⟨wr.heap.size, 0, none⟩ 3 3 marks (by rw [hz1]; rfl)
            (fun j u hu => by rw [Go.WideShapes.add_plain, Nat.zero_add, cell_of_row _ _ j _ _ _ hmk]; simpa using hu) (by omega) (by omega) (growslice_fits (by omega) (by rw [hz2]; omega))
          exact ⟨_, _, hr, Spoil.of_gr (by go_grown)⟩
      have Hr := Lib.hid hr
      have hss := Lib.hid ((((Spoil.of_gr gA).trans hsp.out).trans (Spoil.of_gr gM)).trans hs)
      clear hr hs gM hmk hc3 hc2 hsm
      go_wp2_with (first
        | (refine wpList_append_run _ rfl _ _ _ _ rfl _ _ (by rfl) (by rfl) _ _ Hr.out ?_)
        | fail)
      go_end0
      exact hR.out _ hss.out

theorem spoilt_calls {S : Nat → Prop} {d : Nat} {p : Option Addr} {n c : Nat} {w : World} (hS : ∀ b, S b → b < w.heap.size) (h : Fit S w d p n c) : Calls Try.prog 83 #[.slice p n c, markTm.val] w (RetSpoil S w) := by
  cases d with
  | zero =>
    obtain ⟨rfl, rfl, rfl⟩ := h
    exact spoilt_none S w
  | succ d =>
    rcases h with ⟨rfl, rfl, rfl⟩ | ⟨b, cur, rfl, hb, hc, hn, hnc, hcm, h56, _⟩
    · exact spoilt_none S w
    · exact spoilt_some S b n c cur w hb hS hc hn hnc hcm h56

set_option maxHeartbeats 4000000 in
set_option maxRecDepth 100000 in
theorem spoilTerm_zero (S : Nat → Prop) (k m : Int) (s : ByteArray) (p : Option Addr) (n c : Nat) (w : World) (hS : ∀ b, S b → b < w.heap.size) (hf : Fit S w 0 p n c) : Calls Try.prog 17 #[.agg #[.int .i64 k, .int .i64 m, .string s, .slice p n c]] w (RetSpoil S w) := by
  have hR : Hid (∀ w', Spoil S w w' → RetSpoil S w (.returned (.tuple #[])) w') := fun w' h => ⟨rfl, h⟩
  generalize hQ : RetSpoil S w = Q at hR ⊢
  clear hQ
  have HS := Lib.hid hS
  clear hS
  go_enter Try.func17, Try.ntmps17
  try simp only [List.append_eq, List.cons_append, List.nil_append]
  go_upto_region 1 with fail
  have hN := Blk4.new w (.int .i64 k) (.int .i64 m) (.string s) (.slice p n c)
  have gA : Gr w (w.alloc (.cells #[.int .i64 k, .int .i64 m, .string s, .slice p n c] 25)) := by go_grown
  generalize w.alloc (.cells #[.int .i64 k, .int .i64 m, .string s, .slice p n c] 25) = w1 at *
  have HB := Lib.hid hN
  have HF := Lib.hid (hf.spoil (Spoil.of_gr gA))
  clear hN hf
  obtain ⟨⟨b0, b1, b2, b3⟩, _, _⟩ := HB.out.parts
  go_wp2_with fail
  clear b0 b1 b2 b3
  go_loopg [6] n (fun mm i wr => ∃ j : Nat, j ≤ n ∧ mm = n - j ∧ i = .int .i64 j ∧ Hid (Spoil S w1 wr))
  case atStart => exact ⟨0, Nat.zero_le _, rfl, rfl, Spoil.of_gr (Gr.rfl' _)⟩
  case round =>
    obtain ⟨j, hj, rfl, rfl, hsp⟩ := hrel
    have HBr := Lib.hid (HB.out.kp hsp.out.kp (fun h => by have := HS.out _ h; omega))
    have HFr := Lib.hid (HF.out.spoil hsp.out)
    have HSr : Hid (∀ b, S b → b < wr.heap.size) := fun b hb => by have := HS.out b hb; have := gA.size; have := hsp.out.kp.size; omega
    obtain ⟨⟨b0, b1, b2, b3⟩, _, _⟩ := HBr.out.parts
    by_cases hlt : j < n
    · obtain ⟨_, h0, _⟩ := HF.out
      omega
    · obtain rfl : j = n := by omega
      have HW := Lib.hid ((Spoil.of_gr gA).trans hsp.out)
      go_upto_region 6 with fail
      refine wp_region_rely_tail 3 [fx (.pointer (some ⟨w.heap.size, 3, none⟩)), fx (.slice p j c), fx markTm.val]
        (by kernel_rfl) (by kernel_rfl) (by decide) (by repeat (first | exact Stable.nil | refine Stable.fix ?_)) ?_ ?_
      · refine ⟨?_, ?_, ?a2, trivial⟩
        all_goals
          intro a wq hg hold
          have h1 : a.tmps[1]?.getD undef = .pointer (some ⟨w.heap.size, 0, none⟩) := hold 1 rfl
          clear hold
          have X3 := Gr.at hg b3
          clear b0 b1 b2 b3
          simp [predsImp, Region.binds, dstAt, fx]
          intros
          first
            | (rw [if_pos (by simp [*])]
               intro K hK)
            | (rename_i K hK)
          go_simp
        case a2 =>
          refine (markY_calls _).mono ?_
          rintro e w10 ⟨rfl, hg2⟩
          exact hK _ _ rfl hg2
        all_goals exact hK _ _ rfl (Gr.rfl' _)
      · intro wq hg
        rintro _ rfl _ rfl _ rfl
        have HWq := Lib.hid (HW.out.trans (Spoil.of_gr hg))
        have Hfin := Lib.hid (spoilt_calls (w := wq) (fun b hb => by have := HSr.out b hb; have := hg.size; omega) (HFr.out.spoil (Spoil.of_gr hg)))
        clear b0 b1 b2 b3
        simp only [finAll, Act.put, List.setIfInBounds_toArray, List.set_cons_succ, List.set_cons_zero, List.drop_succ_cons, List.drop_zero, List.take_zero]
        go_wp2_with (first
          | (go_at_call 83; refine Hfin.out.mono ?_; rintro e w2 ⟨rfl, h2⟩)
          | fail)
        go_end0
        exact hR.out _ (HWq.out.trans h2)

set_option maxHeartbeats 4000000 in
set_option maxRecDepth 100000 in
theorem spoilTerm_succ (d : Nat) (ih : ∀ (S : Nat → Prop) (k m : Int) (s : ByteArray) (p : Option Addr) (n c : Nat) (w : World), (∀ b, S b → b < w.heap.size) → Fit S w d p n c → Calls Try.prog 17 #[.agg #[.int .i64 k, .int .i64 m, .string s, .slice p n c]] w (RetSpoil S w)) (S : Nat → Prop) (k m : Int) (s : ByteArray) (p : Option Addr) (n c : Nat) (w : World) (hS : ∀ b, S b → b < w.heap.size) (hf : Fit S w (d + 1) p n c) : Calls Try.prog 17 #[.agg #[.int .i64 k, .int .i64 m, .string s, .slice p n c]] w (RetSpoil S w) := by
  have hR : Hid (∀ w', Spoil S w w' → RetSpoil S w (.returned (.tuple #[])) w') := fun w' h => ⟨rfl, h⟩
  generalize hQ : RetSpoil S w = Q at hR ⊢
  clear hQ
  have HS := Lib.hid hS
  clear hS
  go_enter Try.func17, Try.ntmps17
  try simp only [List.append_eq, List.cons_append, List.nil_append]
  go_upto_region 1 with fail
  have hN := Blk4.new w (.int .i64 k) (.int .i64 m) (.string s) (.slice p n c)
  have gA : Gr w (w.alloc (.cells #[.int .i64 k, .int .i64 m, .string s, .slice p n c] 25)) := by go_grown
  generalize w.alloc (.cells #[.int .i64 k, .int .i64 m, .string s, .slice p n c] 25) = w1 at *
  have HB := Lib.hid hN
  have HF := Lib.hid (hf.spoil (Spoil.of_gr gA))
  clear hN hf
  obtain ⟨⟨b0, b1, b2, b3⟩, _, _⟩ := HB.out.parts
  go_wp2_with fail
  clear b0 b1 b2 b3
  go_loopg [6] n (fun mm i wr => ∃ j : Nat, j ≤ n ∧ mm = n - j ∧ i = .int .i64 j ∧ Hid (Spoil S w1 wr))
  case atStart => exact ⟨0, Nat.zero_le _, rfl, rfl, Spoil.of_gr (Gr.rfl' _)⟩
  case round =>
    obtain ⟨j, hj, rfl, rfl, hsp⟩ := hrel
    have HBr := Lib.hid (HB.out.kp hsp.out.kp (fun h => by have := HS.out _ h; omega))
    have HFr := Lib.hid (HF.out.spoil hsp.out)
    have HSr : Hid (∀ b, S b → b < wr.heap.size) := fun b hb => by have := HS.out b hb; have := gA.size; have := hsp.out.kp.size; omega
    obtain ⟨⟨b0, b1, b2, b3⟩, _, _⟩ := HBr.out.parts
    by_cases hlt : j < n
    · rcases HFr.out with ⟨_, h0, _⟩ | ⟨b, cur, rfl, hb, hc, hn, hnc, hcm, h56, hel⟩
      · omega
      · obtain ⟨k', m', s', q, n', c', e0, e1, e2, e3, hf'⟩ := hel j hlt
        have x0 := (cell_of_row wr b (j * 4) _ _ _ hc).trans e0
        have x1 := (cell_of_row wr b (j * 4 + 1) _ _ _ hc).trans e1
        have x2 := (cell_of_row wr b (j * 4 + 2) _ _ _ hc).trans e2
        have x3 := (cell_of_row wr b (j * 4 + 3) _ _ _ hc).trans e3
        have Hc := Lib.hid (ih S k' m' s' q n' c' wr HSr.out hf')
        clear hel e0 e1 e2 e3 hf' hc hn
        go_wp2_with (first
          | (go_at_call 17; refine Hc.out.mono ?_; rintro e w2 ⟨rfl, h2⟩; have hss := Lib.hid (hsp.out.trans h2))
          | fail)
        go_roundg (n - (j + 1))
        case measure => omega
        case rel => exact ⟨j + 1, by omega, rfl, by go_num, hss⟩
    · obtain rfl : j = n := by omega
      have HW := Lib.hid ((Spoil.of_gr gA).trans hsp.out)
      go_upto_region 6 with fail
      refine wp_region_rely_tail 3 [fx (.pointer (some ⟨w.heap.size, 3, none⟩)), fx (.slice p j c), fx markTm.val]
        (by kernel_rfl) (by kernel_rfl) (by decide) (by repeat (first | exact Stable.nil | refine Stable.fix ?_)) ?_ ?_
      · refine ⟨?_, ?_, ?a2, trivial⟩
        all_goals
          intro a wq hg hold
          have h1 : a.tmps[1]?.getD undef = .pointer (some ⟨w.heap.size, 0, none⟩) := hold 1 rfl
          clear hold
          have X3 := Gr.at hg b3
          clear b0 b1 b2 b3
          simp [predsImp, Region.binds, dstAt, fx]
          intros
          first
            | (rw [if_pos (by simp [*])]
               intro K hK)
            | (rename_i K hK)
          go_simp
        case a2 =>
          refine (markY_calls _).mono ?_
          rintro e w10 ⟨rfl, hg2⟩
          exact hK _ _ rfl hg2
        all_goals exact hK _ _ rfl (Gr.rfl' _)
      · intro wq hg
        rintro _ rfl _ rfl _ rfl
        have HWq := Lib.hid (HW.out.trans (Spoil.of_gr hg))
        have Hfin := Lib.hid (spoilt_calls (w := wq) (fun b hb => by have := HSr.out b hb; have := hg.size; omega) (HFr.out.spoil (Spoil.of_gr hg)))
        clear b0 b1 b2 b3
        simp only [finAll, Act.put, List.setIfInBounds_toArray, List.set_cons_succ, List.set_cons_zero, List.drop_succ_cons, List.drop_zero, List.take_zero]
        go_wp2_with (first
          | (go_at_call 83; refine Hfin.out.mono ?_; rintro e w2 ⟨rfl, h2⟩)
          | fail)
        go_end0
        exact hR.out _ (HWq.out.trans h2)

theorem spoilTerm_calls : ∀ (d : Nat) (S : Nat → Prop) (k m : Int) (s : ByteArray) (p : Option Addr) (n c : Nat) (w : World), (∀ b, S b → b < w.heap.size) → Fit S w d p n c → Calls Try.prog 17 #[.agg #[.int .i64 k, .int .i64 m, .string s, .slice p n c]] w (RetSpoil S w) := by
  intro d
  induction d with
  | zero => exact spoilTerm_zero
  | succ d ih => exact spoilTerm_succ d ih
end Go.Proofs.Ythncdmijledpnaa

namespace Go.Proofs.Ythncdmijledpnaa
open Go.RowKit Go.Lib

mutual
/-- All Args of the term lie on whole blocks of their own length. -/
def Tm.Whole (w : World) : Tm → Prop
  | .mk _ _ _ p c l => ((l = [] ∧ p = none ∧ c = 0) ∨ (l ≠ [] ∧ ∃ (b : Nat) (cur : Array Value), p = some ⟨b, 0, none⟩ ∧ c = l.length ∧ w.heap[b]? = some (.cells cur 25) ∧ cur.size = l.length * 4)) ∧ Tm.WholeL w l
def Tm.WholeL (w : World) : List Tm → Prop
  | [] => True
  | x :: xs => Tm.Whole w x ∧ Tm.WholeL w xs
end
mutual
theorem Tm.Whole.same {w w' : World} {S : Nat → Prop} (hS : ∀ b, S b → w'.heap[b]? = w.heap[b]?) : ∀ {t : Tm}, t.On S → t.Whole w → t.Whole w'
  | .mk k n s p c l, ho, h => by
    rw [Tm.On] at ho
    rw [Tm.Whole] at h ⊢
    refine ⟨?_, Tm.WholeL.same hS ho.2 h.2⟩
    refine h.1.imp id ?_
    rintro ⟨hl, b, cur, hp, hc, hb, hn⟩
    rcases ho.1 with h1 | ⟨b', o, hp', hb'⟩
    · exact absurd h1 hl
    · rw [hp] at hp'
      cases hp'
      exact ⟨hl, b, cur, hp, hc, (hS b hb').trans hb, hn⟩
theorem Tm.WholeL.same {w w' : World} {S : Nat → Prop} (hS : ∀ b, S b → w'.heap[b]? = w.heap[b]?) : ∀ {l : List Tm}, Tm.OnL S l → Tm.WholeL w l → Tm.WholeL w' l
  | [], _, _ => by rw [Tm.WholeL]; trivial
  | x :: xs, ho, h => by
    rw [Tm.OnL] at ho
    rw [Tm.WholeL] at h ⊢
    exact ⟨Tm.Whole.same hS ho.1 h.1, Tm.WholeL.same hS ho.2 h.2⟩
end
theorem Tm.WholeL_mem {w : World} : ∀ {l : List Tm}, Tm.WholeL w l → ∀ x ∈ l, Tm.Whole w x
  | _ :: _, h, x, hx => by
    rw [Tm.WholeL] at h
    rcases List.mem_cons.1 hx with rfl | hx
    · exact h.1
    · exact Tm.WholeL_mem h.2 x hx
theorem Tm.WholeL_append {w : World} : ∀ {l l' : List Tm}, Tm.WholeL w l → Tm.WholeL w l' → Tm.WholeL w (l ++ l')
  | [], _, _, h => h
  | x :: xs, _, h, h' => by
    rw [Tm.WholeL] at h
    rw [List.cons_append, Tm.WholeL]
    exact ⟨h.1, Tm.WholeL_append h.2 h'⟩
theorem Tm.Whole.gr {w w' : World} {t : Tm} (h : t.Whole w) (hi : t.In w) (hg : Gr w w') : t.Whole w' :=
  Tm.Whole.same (S := (· < w.heap.size)) (fun b hb => hg.block b hb) hi.on h
theorem zero_whole (w : World) : zeroTm.Whole w := by rw [zeroTm, Tm.Whole, Tm.WholeL]; exact ⟨.inl ⟨rfl, rfl, rfl⟩, trivial⟩

mutual
/-- All Args of the term lie at the beginning of whole blocks, which have room for so many as the slices say. -/
def Tm.Mine (w : World) : Tm → Prop
  | .mk _ _ _ p c l => ((l = [] ∧ p = none ∧ c = 0) ∨ (l ≠ [] ∧ ∃ (b : Nat) (cur : Array Value), p = some ⟨b, 0, none⟩ ∧ w.heap[b]? = some (.cells cur 25) ∧ cur.size = c * 4)) ∧ Tm.MineL w l
def Tm.MineL (w : World) : List Tm → Prop
  | [] => True
  | x :: xs => Tm.Mine w x ∧ Tm.MineL w xs
end
mutual
theorem Tm.Mine.same {w w' : World} {S : Nat → Prop} (hS : ∀ b, S b → w'.heap[b]? = w.heap[b]?) : ∀ {t : Tm}, t.On S → t.Mine w → t.Mine w'
  | .mk k n s p c l, ho, h => by
    rw [Tm.On] at ho
    rw [Tm.Mine] at h ⊢
    refine ⟨?_, Tm.MineL.same hS ho.2 h.2⟩
    refine h.1.imp id ?_
    rintro ⟨hl, b, cur, hp, hb, hn⟩
    rcases ho.1 with h1 | ⟨b', o, hp', hb'⟩
    · exact absurd h1 hl
    · rw [hp] at hp'
      cases hp'
      exact ⟨hl, b, cur, hp, (hS b hb').trans hb, hn⟩
theorem Tm.MineL.same {w w' : World} {S : Nat → Prop} (hS : ∀ b, S b → w'.heap[b]? = w.heap[b]?) : ∀ {l : List Tm}, Tm.OnL S l → Tm.MineL w l → Tm.MineL w' l
  | [], _, _ => by rw [Tm.MineL]; trivial
  | x :: xs, ho, h => by
    rw [Tm.OnL] at ho
    rw [Tm.MineL] at h ⊢
    exact ⟨Tm.Mine.same hS ho.1 h.1, Tm.MineL.same hS ho.2 h.2⟩
end
theorem Tm.MineL_mem {w : World} : ∀ {l : List Tm}, Tm.MineL w l → ∀ x ∈ l, Tm.Mine w x
  | _ :: _, h, x, hx => by
    rw [Tm.MineL] at h
    rcases List.mem_cons.1 hx with rfl | hx
    · exact h.1
    · exact Tm.MineL_mem h.2 x hx
theorem Tm.MineL_of {w : World} : ∀ {l : List Tm}, (∀ x ∈ l, Tm.Mine w x) → Tm.MineL w l
  | [], _ => by rw [Tm.MineL]; trivial
  | x :: xs, h => by rw [Tm.MineL]; exact ⟨h x (List.mem_cons_self ..), Tm.MineL_of fun y hy => h y (List.mem_cons_of_mem _ hy)⟩
theorem Tm.Mine.gr {w w' : World} {t : Tm} (h : t.Mine w) (hi : t.In w) (hg : Gr w w') : t.Mine w' :=
  Tm.Mine.same (S := (· < w.heap.size)) (fun b hb => hg.block b hb) hi.on h
mutual
theorem Tm.Whole.mine {w : World} : ∀ {t : Tm}, t.Whole w → t.Mine w
  | .mk k n s p c l, h => by
    rw [Tm.Whole] at h
    rw [Tm.Mine]
    refine ⟨h.1.imp id ?_, Tm.WholeL.mine h.2⟩
    rintro ⟨hl, b, cur, hp, hc, hb, hn⟩
    exact ⟨hl, b, cur, hp, hb, by rw [hc]; exact hn⟩
theorem Tm.WholeL.mine {w : World} : ∀ {l : List Tm}, Tm.WholeL w l → Tm.MineL w l
  | [], _ => by rw [Tm.MineL]; trivial
  | x :: xs, h => by
    rw [Tm.WholeL] at h
    rw [Tm.MineL]
    exact ⟨Tm.Whole.mine h.1, Tm.WholeL.mine h.2⟩
end
theorem mine_kp {t : Tm} {C : Nat → Prop} {S : Nat → Prop} {w w' : World} (hw : t.Mine w) (hin : t.In w) (hon : t.On S) (hS : ∀ b, S b → ¬ C b) (hk : Kp C w w') : t.Mine w' :=
  Tm.Mine.same (S := fun b => S b ∧ b < w.heap.size) (fun b hb => hk.block b hb.2 (hS b hb.1)) (Tm.On.and hon hin.on) hw
theorem zero_mine (w : World) : zeroTm.Mine w := (zero_whole w).mine

/-- What is one's own on S may be written over. -/
theorem fit_of {S : Nat → Prop} {w : World} (N : Nat) : ∀ t : Tm, SizeOf.sizeOf t ≤ N → t.In w → t.Mine w → t.On S → Fit S w N t.p t.l.length t.c := by
  induction N with
  | zero => intro t h; cases t; simp at h
  | succ N ih =>
    intro t h hin hw hon
    obtain ⟨k, n, s, p, c, l⟩ := t
    have hsl := hin.sl
    rw [Tm.Mine] at hw
    rw [Tm.On] at hon
    rcases hw.1 with ⟨rfl, rfl, rfl⟩ | ⟨hl, b, cur, rfl, hb, hsz⟩
    · exact .inl ⟨rfl, rfl, rfl⟩
    · refine .inr ⟨b, cur, rfl, ?_, hb, hsz, hsl.1, hsl.2.1.2, hsl.2.1.1, fun i hi => ?_⟩
      · rcases hon.1 with h1 | ⟨b', o, hp', hb'⟩
        · exact absurd h1 hl
        · cases hp'; exact hb'
      · obtain ⟨⟨c0, c1, c2, c3⟩, hx, _⟩ := hsl.elem i hi
        have hmem : l[i] ∈ l := List.getElem_mem hi
        have hf := ih l[i] (by have := Tm.sizeOf_mem hmem k n s (some ⟨b, 0, none⟩) c; omega) hx (Tm.MineL_mem hw.2 _ hmem) (Tm.OnL_mem hon.2 _ hmem)
        rw [Nat.zero_add, cell_of_row w b _ _ _ _ hb] at c0 c1 c2 c3
        exact ⟨_, _, _, _, _, _, c0, c1, c2, c3, hf⟩

/-- What a function that is asked twice must keep to. -/
def MakesNew (fv : Value) (u : T) (w0 : World) : Prop := ∃ (fid : FuncId) (cap : Array Value), fv = .func (.func fid) #[] cap ∧ (∀ w : World, (callFunc fid (#[] ++ cap)).run Try.prog w = .ok (.enter fid (#[] ++ cap)) w) ∧
  ∀ w : World, Gr w0 w → Calls Try.prog fid (#[] ++ cap) w fun e w' => ∃ x : Tm, e = .returned x.val ∧ x.In w' ∧ x.erase = u ∧ x.Mine w' ∧ x.On (w.heap.size ≤ ·) ∧ Gr w w'

set_option maxHeartbeats 4000000 in
set_option maxRecDepth 100000 in
theorem twice_calls (fv : Value) (u : T) (w : World) (hf : MakesNew fv u w) : Calls Try.prog 36 #[fv] w (Ret (.bool true) w) := by
  have hR : Hid (∀ b, true = b → ∀ w', Gr w w' → Ret (.bool true) w (.returned (.bool b)) w') := fun b hb w' hg => ⟨by rw [hb], hg⟩
  generalize hQ : Ret (.bool true) w = Q at hR ⊢
  clear hQ
  obtain ⟨fid, cap, rfl, hq, hcall⟩ := hf
  have Hcall := Lib.hid hcall
  clear hcall
  simp only [Array.empty_append] at hq Hcall
  go_enter Try.func36, Try.ntmps36
  try simp only [List.append_eq, List.cons_append, List.nil_append]
  go_upto_region 2 with (first
    | (refine (Hcall.out _ (Gr.rfl' _)).mono ?_; rintro e w1 ⟨x1, rfl, i1, _, wh1, o1, g1⟩; have V1 := Lib.hid (show x1.val = .agg #[.int .i64 x1.k, .int .i64 x1.n, .string x1.s, .slice x1.p x1.l.length x1.c] from rfl); rewrite [V1.out]; have G1 := Lib.hid g1; have Hsp := Lib.hid (spoilTerm_calls _ (fun b => w.heap.size ≤ b ∧ b < w1.heap.size) x1.k x1.n x1.s x1.p x1.l.length x1.c w1 (fun b hb => hb.2) (fit_of _ x1 (Nat.le_refl _) i1 wh1 (Tm.On.and o1 i1.on))); clear i1 wh1 o1 g1)
    | (go_at_call 17; refine Hsp.out.mono ?_; rintro e w2 ⟨rfl, hsp⟩; have gw0 : Gr w w2 := Below.trans G1.out (hsp.kp.below (B := w.heap.size) (fun b hb => hb.1) G1.out.size); have gw : Gr w w2 := Below.trans G1.out (hsp.kp.below (B := w.heap.size) (fun b hb => hb.1) G1.out.size); clear hsp Hsp G1 V1)
    | fail)
  go_upto_region 3 with (first
    | (refine (Hcall.out _ gw).mono ?_; rintro e w3 ⟨x2, rfl, i2, e2, wh2, o2, g3⟩; have V2 := Lib.hid (show x2.val = .agg #[.int .i64 x2.k, .int .i64 x2.n, .string x2.s, .slice x2.p x2.l.length x2.c] from rfl); rewrite [V2.out]; have I2 := Lib.hid i2; have E2 := Lib.hid e2; have W2 := Lib.hid wh2; have O2 := Lib.hid o2; replace gw := gw.trans g3; have hs3 := g3.size; clear i2 e2 wh2 o2 g3)
    | fail)
  have hN := Blk4.new w3 (.int .i64 x2.k) (.int .i64 x2.n) (.string x2.s) (.slice x2.p x2.l.length x2.c)
  have g4 : Gr w3 (w3.alloc (.cells #[.int .i64 x2.k, .int .i64 x2.n, .string x2.s, .slice x2.p x2.l.length x2.c] 25)) := by go_grown
  have hs4 : (w3.alloc (.cells #[.int .i64 x2.k, .int .i64 x2.n, .string x2.s, .slice x2.p x2.l.length x2.c] 25)).heap.size = w3.heap.size + 1 := World.size_alloc _ _
  generalize w3.alloc (.cells #[.int .i64 x2.k, .int .i64 x2.n, .string x2.s, .slice x2.p x2.l.length x2.c] 25) = w4 at *
  have HX := Lib.hid hN
  replace W2 := Lib.hid (W2.out.gr I2.out g4)
  have Ion := Lib.hid I2.out.on
  replace I2 := Lib.hid (Tm.In_below g4 I2.out)
  replace gw := gw.trans g4
  clear hN g4
  obtain ⟨⟨c0, c1, c2, c3⟩, _, _⟩ := HX.out.parts
  go_upto_region 4 with (first
    | (go_at_call 14; rewrite [← V2.out]; refine (own_calls I2.out).mono ?_; rintro e w5 ⟨y, rfl, iy, ey, oy, _, g5⟩; have VY := Lib.hid (show y.val = .agg #[.int .i64 y.k, .int .i64 y.n, .string y.s, .slice y.p y.l.length y.c] from rfl); rewrite [VY.out]; have IY := Lib.hid iy; have EY := Lib.hid (ey.trans E2.out); have OY := Lib.hid oy; replace W2 := Lib.hid (W2.out.gr I2.out g5); replace I2 := Lib.hid (Tm.In_below g5 I2.out); replace HX := Lib.hid (HX.out.gr g5); replace gw := gw.trans g5; have hs5 := g5.size; clear iy ey oy g5 c0 c1 c2 c3)
    | fail)
  have hN := Blk4.new w5 (.int .i64 y.k) (.int .i64 y.n) (.string y.s) (.slice y.p y.l.length y.c)
  have g6 : Gr w5 (w5.alloc (.cells #[.int .i64 y.k, .int .i64 y.n, .string y.s, .slice y.p y.l.length y.c] 25)) := by go_grown
  generalize w5.alloc (.cells #[.int .i64 y.k, .int .i64 y.n, .string y.s, .slice y.p y.l.length y.c] 25) = w6 at *
  have HY := Lib.hid hN
  replace W2 := Lib.hid (W2.out.gr I2.out g6)
  replace I2 := Lib.hid (Tm.In_below g6 I2.out)
  replace IY := Lib.hid (Tm.In_below g6 IY.out)
  replace HX := Lib.hid (HX.out.gr g6)
  have gw6 := gw.trans g6
  have hs6 := g6.size
  clear hN g6
  have Hsp := Lib.hid (spoilTerm_calls _ (fun b => w2.heap.size ≤ b ∧ b < w3.heap.size) x2.k x2.n x2.s x2.p x2.l.length x2.c w6 (fun b hb => by have := hb.2; omega) (fit_of _ x2 (Nat.le_refl _) I2.out W2.out (Tm.On.and O2.out Ion.out)))
  obtain ⟨⟨c0, c1, c2, c3⟩, _, _⟩ := HX.out.parts
  have hw2 := gw0.size
  go_upto_region 5 with (first
    | (go_at_call 17; refine Hsp.out.mono ?_; rintro e w7 ⟨rfl, hsp⟩; have gw7 : Gr w w7 := Below.trans gw6 (hsp.kp.below (B := w.heap.size) (fun b hb => by have := hb.1; omega) gw6.size); replace IY := Lib.hid (in_after' IY.out OY.out (W := w7) fun b h1 h2 o => World.cell?_of_block (hsp.kp.block b h2 (fun h => by have := h.2; omega))); replace HY := Lib.hid (HY.out.kp hsp.kp (fun h => by have := h.2; omega)); clear hsp Hsp c0 c1 c2 c3)
    | fail)
  obtain ⟨⟨c0, c1, c2, c3⟩, _, _⟩ := HY.out.parts
  have Hq := Lib.hid hq
  refine wp_region_rely [fx (.func (.func fid) #[] cap), tmIs (fun _ => True) u, fx y.val, fx (.bool true), fx (.bool true)]
    (by kernel_rfl) (by kernel_rfl) (by repeat (first | exact Stable.nil | refine Stable.fix ?_ | refine Stable.cons tmIs_stable ?_)) ?_ ?_
  · refine ⟨?_, ?a1, ?_, ?a3, ?_, trivial⟩
    all_goals
      intro a wr hg hold
      have h0 : a.tmps[0]?.getD undef = .func (.func fid) #[] cap := hold 0 rfl
      have h4 : a.tmps[4]?.getD undef = .pointer (some ⟨w5.heap.size, 0, none⟩) := hold 4 rfl
      clear hold
      have C0 := Gr.at hg c0
      have C1 := Gr.at hg c1
      have C2 := Gr.at hg c2
      have C3 := Gr.at hg c3
      clear c0 c1 c2 c3
      simp [predsImp, Region.binds, dstAt, fx]
      intros
      first
        | (rw [if_pos (by simp [*])]
           intro K hK)
        | (rename_i K hK)
      go_simp
    case a1 =>
      refine (Hcall.out _ (gw7.trans hg)).mono ?_
      rintro e w10 ⟨z, rfl, iz, ez, _, _, hg2⟩
      exact hK _ _ ⟨z, rfl, iz, ez, iz.on.mono fun _ _ => trivial⟩ hg2
    case a3 =>
      have hz : tmIs (fun _ => True) u (a.tmps[15]?.getD undef) wr := by assumption
      obtain ⟨z, ez, iz, jz, _⟩ := hz
      rw [ez]
      refine (same_calls (t := z) (u := y) iz (Tm.In_below hg IY.out)).mono ?_
      rw [jz, EY.out, (same_iff _ _).2 rfl]
      rintro e w10 ⟨rfl, hg2⟩
      exact hK _ _ rfl hg2
    all_goals exact hK _ _ rfl (Gr.rfl' _)
  · intro wr hg
    rintro _ rfl _ ⟨z, rfl, _⟩ _ rfl _ rfl _ rfl
    clear c0 c1 c2 c3
    simp only [finAll, Act.put, List.setIfInBounds_toArray, List.set_cons_succ, List.set_cons_zero]
    go_wp2_with fail
    exact hR.out _ rfl _ (gw7.trans hg)
end Go.Proofs.Ythncdmijledpnaa
