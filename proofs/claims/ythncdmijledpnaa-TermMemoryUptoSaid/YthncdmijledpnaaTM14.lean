/-
  hornkeep.spoilt of binds, hornkeep.spoilBinds: what is written over is one's own.
  hornkeep.roomy of binds.
  The rely rule with a tail, for a region some of whose operations turn more than new memory: R is what any operation keeps; J what is known by which operations are over.
-/
import Derived.Test.YthncdmijledpnaaTM13
import Derived.Test.YthncdmijledpnaaTM02
namespace Go.Proofs.Ythncdmijledpnaa
open Go.RowKit Go.Maps Go.Lib

/-- The bind that a list of binds is written over with. -/
def bdMark : List Value := [.int .i64 (-7), .int .i64 9, .int .i64 (-77), .string spoiltB, .slice none 0 0]
def bdMarks : List Value := bdMark ++ bdMark ++ bdMark
theorem bdMarks_one : ∀ u ∈ bdMarks, u.oneCell' = true := by
  intro u hu
  simp only [bdMarks, bdMark, List.cons_append, List.nil_append, List.mem_cons, List.mem_nil_iff, or_false] at hu
  rcases hu with rfl | rfl | rfl | rfl | rfl | rfl | rfl | rfl | rfl | rfl | rfl | rfl | rfl | rfl | rfl <;> rfl
theorem append_into5 {P : Program} (w : World) (t ty e : TypeId) (i : TypeInfo) (ht : P.underlying t = some (.slice e)) (hi : P.info? e = some i) (hsz : i.size = 5) (g n cap : Nat) (cur : Array Value) (hg : w.heap[g]? = some (.cells cur e)) (hc : cur.size = cap * 5)
    (a : Addr) (m c : Nat) (news : List Value) (hl : news.length = m * 5) (hnews : ∀ j u, news[j]? = some u → w.cell? (a.add j) = some u) (h1 : ∀ u ∈ news, u.oneCell' = true) (hroom : n + m ≤ cap) :
    ∃ w', (Builtin.append_ #[t, t] ty #[.slice (some ⟨g, 0, none⟩) n cap, .slice (some a) m c]).run P w = .ok (.slice (some ⟨g, 0, none⟩) (n + m) cap) w' ∧
      w'.heap[g]? = some (.cells (cur.toList.take (n * 5) ++ news ++ cur.toList.drop (n * 5 + news.length)).toArray e) ∧ Kp (fun b => b = g) w w' := by
  have hr := run_append_room (P := P) w t ty e i ht hi g n cap cur hg a m c news (by rw [hsz]; exact hl) hnews h1 hroom (by rw [hsz, hl, hc]; omega)
  rw [hsz] at hr
  exact ⟨_, hr, setRow_heap w g cur _ e _ hg, ⟨rfl, rfl, rfl, by simp, fun k _ hk => setRow_other w g k _ hk⟩⟩

/-- A row of binds is written over. -/
def RetSpoilB (g : Nat) (w : World) (e : Ending) (w' : World) : Prop := e = .returned (.tuple #[]) ∧ Kp (· = g) w w'

set_option maxHeartbeats 2000000 in
set_option maxRecDepth 100000 in
theorem spoiltB_none (g : Nat) (w : World) : Calls Try.prog 88 #[.slice none 0 0, .agg #[.int .i64 (-7), .int .i64 9, .int .i64 (-77), .string spoiltB, .slice none 0 0]] w (RetSpoilB g w) := by
  have hR : Hid (∀ w', Gr w w' → RetSpoilB g w (.returned (.tuple #[])) w') := fun w' h => ⟨rfl, Kp.of_gr h⟩
  generalize RetSpoilB g w = Q at hR ⊢
  obtain ⟨i0, hi, hz0, hz1, hz2⟩ := info_parts infoBd
  have Hi := Lib.hid hi
  clear hi
  go_enter Try.func88, Try.ntmps88
  try simp only [List.append_eq, List.cons_append, List.nil_append]
  go_upto_region 1 with fail
  have hN := BlkT.new w 115 bdMark.toArray
  have gA : Gr w (w.alloc (.cells bdMark.toArray 115)) := by go_grown
  simp only [bdMark] at hN gA
  generalize w.alloc (.cells #[.int .i64 (-7), .int .i64 9, .int .i64 (-77), .string spoiltB, .slice none 0 0] 115) = w1 at *
  have HM := Lib.hid hN
  clear hN
  go_wp2_with fail
  go_loopg [12] 0 (fun _ i wr => i = .int .i64 0 ∧ w1 = wr)
  case atStart => exact ⟨rfl, rfl⟩
  case round =>
    obtain ⟨rfl, rfl⟩ := hrel
    have m0 := HM.out.cell 0 (v := .int .i64 (-7)) rfl
    have m1 := HM.out.cell 1 (v := .int .i64 9) rfl
    have m2 := HM.out.cell 2 (v := .int .i64 (-77)) rfl
    have m3 := HM.out.cell 3 (v := .string spoiltB) rfl
    have m4 := HM.out.cell 4 (v := .slice none 0 0) rfl
    have hmk : (w1.alloc (.cells bdMarks.toArray 115)).heap[w1.heap.size]? = some (.cells bdMarks.toArray 115) := heap_alloc_new w1 _
    have hr := run_append_nil (P := Try.prog) (w1.alloc (.cells bdMarks.toArray 115)) 44 44 115 i0 _ Try.underlying44 Hi.out hz0 ⟨w1.heap.size, 0, none⟩ 3 3 bdMarks (by rw [hz1]; rfl)
      (fun j u hu => by rw [Go.WideShapes.add_plain, Nat.zero_add, cell_of_row _ _ j _ _ _ hmk]; simpa using hu) (by omega) (by omega) (by rw [hz2]; omega)
    have Hr := Lib.hid hr
    clear hr hmk
    go_wp2_with (first
      | (refine wpList_append_run _ rfl _ _ _ _ rfl _ _ (by rfl) (by rfl) _ _ Hr.out ?_)
      | fail)
    go_end0
    exact hR.out _ (gA.trans (by go_grown))

set_option maxHeartbeats 2000000 in
set_option maxRecDepth 100000 in
theorem spoiltB_some (g n c : Nat) (cur : Array Value) (w : World) (hc : BlkT w g 115 cur) (hnc : n ≤ c) (hcm : c ≤ 9223372036854775807) (hcs : cur.size = c * 5) (hn : n * 64 ≤ 140737488351232) :
    Calls Try.prog 88 #[.slice (some ⟨g, 0, none⟩) n c, .agg #[.int .i64 (-7), .int .i64 9, .int .i64 (-77), .string spoiltB, .slice none 0 0]] w (RetSpoilB g w) := by
  have hR : Hid (∀ w', Kp (· = g) w w' → RetSpoilB g w (.returned (.tuple #[])) w') := fun w' h => ⟨rfl, h⟩
  generalize RetSpoilB g w = Q at hR ⊢
  obtain ⟨i0, hi, hz0, hz1, hz2⟩ := info_parts infoBd
  have Hi := Lib.hid hi
  have hgl := hc.lt
  have HC0 := Lib.hid hc
  clear hi hc
  go_enter Try.func88, Try.ntmps88
  try simp only [List.append_eq, List.cons_append, List.nil_append]
  go_upto_region 1 with fail
  have hN := BlkT.new w 115 bdMark.toArray
  have gA : Gr w (w.alloc (.cells bdMark.toArray 115)) := by go_grown
  simp only [bdMark] at hN gA
  generalize w.alloc (.cells #[.int .i64 (-7), .int .i64 9, .int .i64 (-77), .string spoiltB, .slice none 0 0] 115) = w1 at *
  have HM := Lib.hid hN
  have HC := Lib.hid (HC0.out.gr gA)
  clear hN
  go_wp2_with fail
  go_loopg [12] c (fun m i wr => ∃ (k : Nat) (cur' : Array Value), k ≤ c ∧ m = c - k ∧ i = .int .i64 k ∧ Hid (BlkT wr g 115 cur') ∧ cur'.size = c * 5 ∧ Hid (Kp (· = g) w1 wr))
  case atStart => exact ⟨0, cur, Nat.zero_le _, rfl, rfl, HC, hcs, Kp.refl _ _⟩
  case round =>
    obtain ⟨k, cur', hk, rfl, rfl, hb, hcs', hkp⟩ := hrel
    have HMr := Lib.hid (HM.out.kp hkp.out (by omega))
    have m0 := HMr.out.cell 0 (v := .int .i64 (-7)) rfl
    have m1 := HMr.out.cell 1 (v := .int .i64 9) rfl
    have m2 := HMr.out.cell 2 (v := .int .i64 (-77)) rfl
    have m3 := HMr.out.cell 3 (v := .string spoiltB) rfl
    have m4 := HMr.out.cell 4 (v := .slice none 0 0) rfl
    by_cases hlt : k < c
    · have q : ∀ r, r < 5 → ∃ v, wr.cell? ⟨g, k * 5 + r, none⟩ = some v := fun r hr => ⟨_, hb.out.cell _ (Array.getElem?_eq_getElem (by omega))⟩
      obtain ⟨v0, q0⟩ := q 0 (by omega)
      obtain ⟨v1, q1⟩ := q 1 (by omega)
      obtain ⟨v2, q2⟩ := q 2 (by omega)
      obtain ⟨v3, q3⟩ := q 3 (by omega)
      obtain ⟨v4, q4⟩ := q 4 (by omega)
      rw [Nat.add_zero] at q0
      have z0 := hb.out.open_ (k * 5)
      have z1 := hb.out.open_ (k * 5 + 1)
      have z2 := hb.out.open_ (k * 5 + 2)
      have z3 := hb.out.open_ (k * 5 + 3)
      have z4 := hb.out.open_ (k * 5 + 4)
      have HB2 := Lib.hid (((((hb.out.set (k * 5) (.int .i64 (-7))).set (k * 5 + 1) (.int .i64 9)).set (k * 5 + 2) (.int .i64 (-77))).set (k * 5 + 3) (.string spoiltB)).set (k * 5 + 4) (.slice none 0 0))
      have HK2 : Hid (Kp (· = g) w1 (((((wr.setCell ⟨g, k * 5, none⟩ (.int .i64 (-7))).setCell ⟨g, k * 5 + 1, none⟩ (.int .i64 9)).setCell ⟨g, k * 5 + 2, none⟩ (.int .i64 (-77))).setCell ⟨g, k * 5 + 3, none⟩ (.string spoiltB)).setCell ⟨g, k * 5 + 4, none⟩ (.slice none 0 0))) := ((((hkp.out.trans (Kp.set rfl)).trans (Kp.set rfl)).trans (Kp.set rfl)).trans (Kp.set rfl)).trans (Kp.set rfl)
      clear q
      go_wp2_with fail
      go_roundg (c - (k + 1))
      case measure => omega
      case rel => exact ⟨k + 1, _, by omega, rfl, by go_num, HB2, by simp only [Array.size_setIfInBounds]; exact hcs', HK2⟩
    · obtain rfl : k = c := by omega
      have hmk : (wr.alloc (.cells bdMarks.toArray 115)).heap[wr.heap.size]? = some (.cells bdMarks.toArray 115) := heap_alloc_new wr _
      have gM : Gr wr (wr.alloc (.cells bdMarks.toArray 115)) := by go_grown
      have hc3 : (wr.alloc (.cells bdMarks.toArray 115)).heap[g]? = some (.cells cur' 115) := hb.out.gr gM
      obtain ⟨v', w', hr, hs⟩ : ∃ v' w', (Builtin.append_ #[44, 44] 44 #[.slice (some ⟨g, 0, none⟩) n k, .slice (some ⟨wr.heap.size, 0, none⟩) 3 3]).run Try.prog (wr.alloc (.cells bdMarks.toArray 115)) = .ok v' w' ∧ Kp (· = g) (wr.alloc (.cells bdMarks.toArray 115)) w' := by
        by_cases hroom : n + 3 ≤ k
        · obtain ⟨w5, h1, h2, h3⟩ := append_into5 (P := Try.prog) (wr.alloc (.cells bdMarks.toArray 115)) 44 44 115 i0 Try.underlying44 Hi.out hz1 g n k cur' hc3 hcs' ⟨wr.heap.size, 0, none⟩ 3 3 bdMarks rfl
            (fun j u hu => by rw [Go.WideShapes.add_plain, Nat.zero_add, cell_of_row _ _ j _ _ _ hmk]; simpa using hu) bdMarks_one hroom
          exact ⟨_, w5, h1, h3⟩
        · have hr := run_append_grow (P := Try.prog) (wr.alloc (.cells bdMarks.toArray 115)) 44 44 115 i0 _ Try.underlying44 Hi.out hz0 ⟨g, 0, none⟩ n k (cur'.toList.take (n * 5)) (by rw [hz1, List.length_take, Array.length_toList, hcs']; omega)
            (fun j u hu => by
              rw [Go.WideShapes.add_plain, Nat.zero_add, cell_of_row _ _ j _ _ _ hc3]
              rw [List.getElem?_take] at hu
              split at hu
              · rw [← Array.getElem?_toList]; exact hu
              · cases hu) ⟨wr.heap.size, 0, none⟩ 3 3 bdMarks (by rw [hz1]; rfl)
            (fun j u hu => by rw [Go.WideShapes.add_plain, Nat.zero_add, cell_of_row _ _ j _ _ _ hmk]; simpa using hu) (by omega) (by omega) (growslice_fits (by omega) (by rw [hz2]; omega))
          exact ⟨_, _, hr, Kp.of_gr (by go_grown)⟩
      have Hr := Lib.hid hr
      have hss := Lib.hid ((((Kp.of_gr gA).trans hkp.out).trans (Kp.of_gr gM)).trans hs)
      clear hr hs gM hmk hc3
      go_wp2_with (first
        | (refine wpList_append_run _ rfl _ _ _ _ rfl _ _ (by rfl) (by rfl) _ _ Hr.out ?_)
        | fail)
      go_end0
      exact hR.out _ hss.out
end Go.Proofs.Ythncdmijledpnaa

namespace Go.Proofs.Ythncdmijledpnaa
open Go.RowKit Go.Maps Go.Lib

/-- A list with three marks behind it is handed back. -/
def RetRoomyB (l : List Bd) (w : World) (e : Ending) (w' : World) : Prop :=
  ∃ g, e = .returned (.slice (some ⟨g, 0, none⟩) l.length (l.length + 3)) ∧ w.heap.size ≤ g ∧ BlkT w' g 115 (l.flatMap Bd.cells ++ bdMarks).toArray ∧ Gr w w'
theorem bdcells_one (l : List Bd) : ∀ u ∈ l.flatMap Bd.cells, u.oneCell' = true := by
  intro u hu
  obtain ⟨x, _, hx⟩ := List.mem_flatMap.1 hu
  simp only [Bd.cells, Tm.cells, List.mem_cons, List.mem_nil_iff, or_false] at hx
  rcases hx with rfl | rfl | rfl | rfl | rfl <;> rfl
theorem BuiltBds.cellAt5 {w : World} {B g o c : Nat} {l : List Bd} (h : BuiltBds w B (.slice (some ⟨g, o, none⟩) l.length c) l) : ∀ (j : Nat) (u : Value), (l.flatMap Bd.cells)[j]? = some u → w.cell? ((⟨g, o, none⟩ : Addr).add j) = some u := by
  intro j u hu
  rcases h.2 with ⟨h0, _⟩ | ⟨g', cap, cur, h0, h1, h2, h3, h4, h5, h6⟩
  · cases h0
  · cases h0
    rw [Go.WideShapes.add_plain, Nat.zero_add, cell_of_row _ _ j _ _ _ h2]
    rw [← h6, List.getElem?_take] at hu
    split at hu
    · rw [← Array.getElem?_toList]; exact hu
    · cases hu

theorem into_bds {P : Program} (w : World) (t ty : TypeId) (i : TypeInfo) (ht : P.underlying t = some (.slice 115)) (hi : P.info? 115 = some i) (hsz : i.size = 5) (g cap : Nat) (cur : Array Value) (hg : w.heap[g]? = some (.cells cur 115)) (hc : cur.size = cap * 5)
    (B : Nat) (v : Value) (l : List Bd) (h : BuiltBds w B v l) (hroom : l.length ≤ cap) :
    ∃ w', (Builtin.append_ #[t, t] ty #[.slice (some ⟨g, 0, none⟩) 0 cap, v]).run P w = .ok (.slice (some ⟨g, 0, none⟩) l.length cap) w' ∧
      w'.heap[g]? = some (.cells (l.flatMap Bd.cells ++ cur.toList.drop (l.length * 5)).toArray 115) ∧ Kp (fun b => b = g) w w' := by
  have h0 := h
  rcases h.2 with ⟨rfl, h1⟩ | ⟨g', c, cur', rfl, _⟩
  · have hl : l = [] := List.eq_nil_of_length_eq_zero h1
    subst hl
    refine ⟨w, ?_, ?_, Kp.refl _ _⟩
    · exact run_append_empty w t ty 115 i ht hi (some ⟨g, 0, none⟩) 0 cap none 0 (by simp)
    · rw [hg]; simp
  · obtain ⟨w', h1, h2, h3⟩ := append_into5 (P := P) w t ty 115 i ht hi hsz g 0 cap cur hg hc ⟨g', 0, none⟩ l.length c (l.flatMap Bd.cells) (bdcells_len l) (h0.cellAt5) (bdcells_one l) (by omega)
    rw [Nat.zero_add] at h1
    rw [Nat.zero_mul, List.take_zero, List.nil_append, Nat.zero_add, bdcells_len] at h2
    exact ⟨w', h1, h2, h3⟩

set_option maxHeartbeats 2000000 in
set_option maxRecDepth 100000 in
theorem roomyB_calls (B : Nat) (v : Value) (l : List Bd) (w : World) (h : BuiltBds w B v l) (hlen : (l.length + 3) * 64 ≤ 140737488351232) : Calls Try.prog 110 #[v, .agg #[.int .i64 (-7), .int .i64 9, .int .i64 (-77), .string spoiltB, .slice none 0 0]] w (RetRoomyB l w) := by
  have hR : Hid (∀ g w', w.heap.size ≤ g → BlkT w' g 115 (l.flatMap Bd.cells ++ bdMarks).toArray → Gr w w' → RetRoomyB l w (.returned (.slice (some ⟨g, 0, none⟩) l.length (l.length + 3))) w') := fun g w' h1 h2 h3 => ⟨g, rfl, h1, h2, h3⟩
  generalize RetRoomyB l w = Q at hR ⊢
  have H := Lib.hid h
  obtain ⟨p, c, rfl⟩ : ∃ p c, v = .slice p l.length c := by
    rcases h.2 with ⟨rfl, h1⟩ | ⟨g, cap, cur, rfl, _⟩
    · exact ⟨none, 0, by rw [h1]⟩
    · exact ⟨_, _, rfl⟩
  obtain ⟨i0, hi, hz0, hz1, hz2⟩ := info_parts infoBd
  have Hi := Lib.hid hi
  clear hi h
  go_enter Try.func110, Try.ntmps110
  try simp only [List.append_eq, List.cons_append, List.nil_append]
  go_upto_region 1 with fail
  have hN := BlkT.new w 115 bdMark.toArray
  have gA : Gr w (w.alloc (.cells bdMark.toArray 115)) := by go_grown
  have hsA : (w.alloc (.cells bdMark.toArray 115)).heap.size = w.heap.size + 1 := World.size_alloc _ _
  simp only [bdMark] at hN gA hsA
  generalize w.alloc (.cells #[.int .i64 (-7), .int .i64 9, .int .i64 (-77), .string spoiltB, .slice none 0 0] 115) = w1 at *
  have HM := Lib.hid hN
  have HsA := Lib.hid hsA
  clear hN hsA
  go_upto_region 2 with (first
    | (refine wpList_make_own _ rfl _ _ 44 rfl (w1.heap.size) 115 i0 _ 5 Try.underlying44 Hi.out hz0 hz1 .i64 .i64 _ (l.length + 3) rfl rfl (by simp) (by rw [hz2]; omega) (by simp only [maxLen]; omega) (by omega) ?_
       intro w2 hown hgrow
       have gB := grownBy_below hgrow (Nat.le_refl _) fun k hk => by cases hk)
    | fail)
  obtain ⟨cur, hg0, hcur⟩ : ∃ cur : Array Value, w2.heap[w1.heap.size]? = some (.cells cur 115) ∧ cur.size = (l.length + 3) * 5 := by
    rcases hown.2 with ⟨h0, _⟩ | ⟨g, cap, cur, h0, _, h1, _, _, h2, _⟩
    · cases h0
    · cases h0; exact ⟨cur, h1, h2⟩
  have hgl : w1.heap.size < w2.heap.size := (Array.getElem?_eq_some_iff.1 hg0).1
  have GB := Lib.hid (show Gr w1 w2 from gB)
  clear gB
  generalize hge : w1.heap.size = g at *
  obtain ⟨w3, hr3, hg3, hk3⟩ := into_bds (P := Try.prog) w2 44 44 i0 Try.underlying44 Hi.out hz1 g (l.length + 3) cur hg0 hcur B _ l ((H.out.gr gA).gr GB.out) (by omega)
  have Hr3 := Lib.hid hr3
  have HGE := Lib.hid hge
  clear hown hgrow hr3 hge
  go_upto_region 3 with (first
    | (refine wpList_append_run w2 rfl _ _ _ _ rfl _ _ (by rfl) (by rfl) _ _ Hr3.out ?_)
    | fail)
  have hs3 := hk3.size
  have k1 : Gr w1 w3 := Below.trans GB.out (hk3.below (B := w1.heap.size) (fun x hx => by rw [hx, HGE.out]; exact Nat.le_refl _) GB.out.size)
  have HM3 := Lib.hid (HM.out.gr k1)
  have m0 := HM3.out.cell 0 (v := .int .i64 (-7)) rfl
  have m1 := HM3.out.cell 1 (v := .int .i64 9) rfl
  have m2 := HM3.out.cell 2 (v := .int .i64 (-77)) rfl
  have m3 := HM3.out.cell 3 (v := .string spoiltB) rfl
  have m4 := HM3.out.cell 4 (v := .slice none 0 0) rfl
  have hmk : (w3.alloc (.cells bdMarks.toArray 115)).heap[w3.heap.size]? = some (.cells bdMarks.toArray 115) := heap_alloc_new w3 _
  have hg4 : (w3.alloc (.cells bdMarks.toArray 115)).heap[g]? = _ := (heap_alloc_old w3 _ (by omega)).trans hg3
  have hcl := bdcells_len l
  obtain ⟨w5, hr5, hg5, hk5⟩ := append_into5 (P := Try.prog) (w3.alloc (.cells bdMarks.toArray 115)) 44 44 115 i0 Try.underlying44 Hi.out hz1 g l.length (l.length + 3) _ hg4
    (by simp only [List.size_toArray, List.length_append, List.length_drop, Array.length_toList, hcur, hcl]; omega) ⟨w3.heap.size, 0, none⟩ 3 3 bdMarks rfl
    (fun j u hu => by rw [Go.WideShapes.add_plain, Nat.zero_add, cell_of_row _ _ j _ _ _ hmk]; simpa using hu) bdMarks_one (Nat.le_refl _)
  have Hr5 := Lib.hid hr5
  have hfin : Hid (BlkT w5 g 115 (l.flatMap Bd.cells ++ bdMarks).toArray) := by
    show w5.heap[g]? = _
    rw [hg5]
    have e1 : (l.flatMap Bd.cells ++ cur.toList.drop (l.length * 5)).take (l.length * 5) = l.flatMap Bd.cells := List.take_left' hcl
    have e2 : (l.flatMap Bd.cells ++ cur.toList.drop (l.length * 5)).drop (l.length * 5 + bdMarks.length) = [] := by
      apply List.drop_eq_nil_of_le
      have hct : cur.toList.length = (l.length + 3) * 5 := by rw [Array.length_toList, hcur]
      rw [List.length_append, List.length_drop, hct, hcl, show bdMarks.length = 15 from rfl]
      omega
    rw [e1, e2, List.append_nil]
  have hgw : Gr w w5 := by
    have k2 : Gr w1 (w3.alloc (.cells bdMarks.toArray 115)) := k1.trans (by go_grown)
    exact gA.trans (Below.trans k2 (hk5.below (B := w1.heap.size) (fun x hx => by rw [hx, HGE.out]; exact Nat.le_refl _) k2.size))
  have HGW := Lib.hid hgw
  have hwg : w.heap.size ≤ g := by have := HGE.out; have := HsA.out; omega
  clear hg0 hcur hr5 hg5 hk5 hk3 hg3 hg4 hmk hgw hcl
  go_wp2_with (first
    | (refine wpList_append_run _ rfl _ _ _ _ rfl _ _ (by rfl) (by rfl) _ _ Hr5.out ?_)
    | fail)
  exact hR.out g _ hwg hfin.out HGW.out
end Go.Proofs.Ythncdmijledpnaa

namespace Go.Proofs.Ythncdmijledpnaa
open Go.RowKit

def StableR (R : World → World → Prop) (Vs : List VP) : Prop := ∀ V ∈ Vs, ∀ v w w', V v w → R w w' → V v w'
section
variable {R : World → World → Prop}
theorem StableR.nil : StableR R [] := fun _ h => by cases h
theorem StableR.fix {c : Value} {Vs : List VP} (h : StableR R Vs) : StableR R (fx c :: Vs) := fun V hV => by
  rcases List.mem_cons.1 hV with rfl | hV
  · exact fun _ _ _ h _ => h
  · exact h V hV
theorem StableR.cons {W : VP} {Vs : List VP} (hW : ∀ v w w', W v w → R w w' → W v w') (h : StableR R Vs) : StableR R (W :: Vs) := fun V hV => by
  rcases List.mem_cons.1 hV with rfl | hV
  · exact hW
  · exact h V hV
end

section
variable {P : Program} {ops : List Oper} {Vs : List VP} {a₀ : Act} {w₀ : World} {Q : Exit → Act → World → Prop} {R : World → World → Prop} {J : Array Bool → World → Prop} {m : Nat}

end
end Go.Proofs.Ythncdmijledpnaa
