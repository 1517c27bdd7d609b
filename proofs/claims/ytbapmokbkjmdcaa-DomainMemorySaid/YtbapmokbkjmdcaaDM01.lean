/-
  hornkeep's lists of numbers with spare room: roomy; what is written over: spoilt.
  DomainMemory: copies with spare room; rows that may be written over.
-/
import Derived.Test.YtbapmokbkjmdcaaDS02
import Derived.OwnWalk
import Derived.Test.YtbapmokbkjmdcaaDS04
namespace Go.Proofs.Ytbapmokbkjmdcaa
open Go.RowKit Go.Maps Go.Lib

/-- append where there is room. -/
theorem append_intoI {P : Program} (w : World) (t ty e : TypeId) (i : TypeInfo) (ht : P.underlying t = some (.slice e)) (hi : P.info? e = some i) (hsz : i.size = 1) (g n cap : Nat) (cur : Array Value) (hg : w.heap[g]? = some (.cells cur e)) (hc : cur.size = cap)
    (a : Addr) (m c : Nat) (news : List Value) (hl : news.length = m) (hnews : ∀ j u, news[j]? = some u → w.cell? (a.add j) = some u) (h1 : ∀ u ∈ news, u.oneCell' = true) (hroom : n + m ≤ cap) :
    ∃ w', (Builtin.append_ #[t, t] ty #[.slice (some ⟨g, 0, none⟩) n cap, .slice (some a) m c]).run P w = .ok (.slice (some ⟨g, 0, none⟩) (n + m) cap) w' ∧
      w'.heap[g]? = some (.cells (cur.toList.take n ++ news ++ cur.toList.drop (n + news.length)).toArray e) ∧ Kp (fun b => b = g) w w' := by
  have hr := run_append_room (P := P) w t ty e i ht hi g n cap cur hg a m c news (by rw [hsz, Nat.mul_one]; exact hl) hnews h1 hroom (by rw [hsz, hl, hc]; omega)
  rw [hsz, Nat.mul_one] at hr
  exact ⟨_, hr, setRow_heap w g cur _ e _ hg, ⟨rfl, rfl, rfl, by simp, fun k _ hk => setRow_other w g k _ hk⟩⟩
theorem ints_one' (L : List Int) : ∀ u ∈ L.map (Value.int .i64), u.oneCell' = true := fun u hu => by
  obtain ⟨y, _, rfl⟩ := List.mem_map.1 hu
  rfl
theorem into_ints {P : Program} (w : World) (t ty e : TypeId) (i : TypeInfo) (ht : P.underlying t = some (.slice e)) (hi : P.info? e = some i) (hsz : i.size = 1) (g n cap : Nat) (cur : Array Value) (hg : w.heap[g]? = some (.cells cur e)) (hc : cur.size = cap)
    (p : Option Addr) (c : Nat) (L : List Int) (h : IntSl w p c L) (hroom : n + L.length ≤ cap) :
    ∃ w', (Builtin.append_ #[t, t] ty #[.slice (some ⟨g, 0, none⟩) n cap, .slice p L.length c]).run P w = .ok (.slice (some ⟨g, 0, none⟩) (n + L.length) cap) w' ∧
      w'.heap[g]? = some (.cells (cur.toList.take n ++ L.map (Value.int .i64) ++ cur.toList.drop (n + L.length)).toArray e) ∧ Kp (fun b => b = g) w w' := by
  by_cases h0 : L = []
  · subst h0
    refine ⟨w, ?_, ?_, Kp.refl _ _⟩
    · exact run_append_empty w t ty e i ht hi (some ⟨g, 0, none⟩) n cap p c (by simpa using hroom)
    · rw [hg]; simp
  · obtain ⟨b, o, rfl, _, hr⟩ := h.ptr (List.length_pos_iff.2 h0)
    obtain ⟨w', h1, h2, h3⟩ := append_intoI (P := P) w t ty e i ht hi hsz g n cap cur hg hc ⟨b, o, none⟩ L.length c (L.map (Value.int .i64)) (List.length_map ..) (fun j u hu => by
      rw [Go.WideShapes.add_plain]
      rw [List.getElem?_map] at hu
      cases hl : L[j]? with
      | none => rw [hl] at hu; cases hu
      | some y => rw [hl] at hu; cases hu; exact hr j y hl) (ints_one' L) hroom
    rw [List.length_map] at h2
    exact ⟨w', h1, h2, h3⟩
theorem into_blk {P : Program} (w : World) (t ty e : TypeId) (i : TypeInfo) (ht : P.underlying t = some (.slice e)) (hi : P.info? e = some i) (hsz : i.size = 1) (g n cap : Nat) (cur : Array Value) (hg : w.heap[g]? = some (.cells cur e)) (hc : cur.size = cap)
    (b : Nat) (L : List Int) (h : BlkT w b e (ints L)) (hroom : n + L.length ≤ cap) :
    ∃ w', (Builtin.append_ #[t, t] ty #[.slice (some ⟨g, 0, none⟩) n cap, .slice (some ⟨b, 0, none⟩) L.length L.length]).run P w = .ok (.slice (some ⟨g, 0, none⟩) (n + L.length) cap) w' ∧
      w'.heap[g]? = some (.cells (cur.toList.take n ++ L.map (Value.int .i64) ++ cur.toList.drop (n + L.length)).toArray e) ∧ Kp (fun b => b = g) w w' := by
  obtain ⟨w', h1, h2, h3⟩ := append_intoI (P := P) w t ty e i ht hi hsz g n cap cur hg hc ⟨b, 0, none⟩ L.length L.length (L.map (Value.int .i64)) (List.length_map ..) (fun j u hu => by
    rw [Go.WideShapes.add_plain, Nat.zero_add]
    exact h.cell j (by rw [ints, List.getElem?_toArray]; exact hu)) (ints_one' L) hroom
  rw [List.length_map] at h2
  exact ⟨w', h1, h2, h3⟩
/-- A list with three marks behind it is handed back. -/
def RetRoomyI (t : TypeId) (L : List Int) (mark : Int) (w : World) (e : Ending) (w' : World) : Prop :=
  ∃ g, e = .returned (.slice (some ⟨g, 0, none⟩) L.length (L.length + 3)) ∧ w.heap.size ≤ g ∧ BlkT w' g t (ints (L ++ [mark, mark, mark])) ∧ Gr w w'

set_option maxHeartbeats 2000000 in
set_option maxRecDepth 100000 in
theorem roomy64_calls (p : Option Addr) (c : Nat) (L : List Int) (mark : Int) (w : World) (h : IntSl w p c L) (hlen : L.length * 8 ≤ 140737488351232) : Calls Try.prog 24 #[.slice p L.length c, .int .i64 mark] w (RetRoomyI 2 L mark w) := by
  have hR : Hid (∀ g w', w.heap.size ≤ g → BlkT w' g 2 (ints (L ++ [mark, mark, mark])) → Gr w w' → RetRoomyI 2 L mark w (.returned (.slice (some ⟨g, 0, none⟩) L.length (L.length + 3))) w') := fun g w' h1 h2 h3 => ⟨g, rfl, h1, h2, h3⟩
  generalize RetRoomyI 2 L mark w = Q at hR ⊢
  have hlc := h.1
  have hcc := h.2.1
  have H := Lib.hid h
  obtain ⟨i0, hi, hz0, hz1, hz2⟩ := info_parts infoI64
  have Hi := Lib.hid hi
  clear hi h
  go_enter Try.func24, Try.ntmps24
  try simp only [List.append_eq, List.cons_append, List.nil_append]
  go_upto_region 2 with (first
    | (refine wpList_make_own _ rfl _ _ 38 rfl (w.heap.size) 2 i0 _ 1 Try.underlying38 Hi.out hz0 hz1 .i64 .i64 _ (L.length + 3) rfl rfl (by simp) (by rw [hz2]; omega) (by simp only [maxLen]; omega) (by omega) ?_
       intro w2 hown hgrow
       have gB := grownBy_below hgrow (Nat.le_refl _) fun k hk => by cases hk)
    | fail)
  obtain ⟨cur, hg0, hcur⟩ : ∃ cur : Array Value, w2.heap[w.heap.size]? = some (.cells cur 2) ∧ cur.size = (L.length + 3) * 1 := by
    rcases hown.2 with ⟨h0, _⟩ | ⟨g, cap, cur, h0, _, h1, _, _, h2, _⟩
    · cases h0
    · cases h0; exact ⟨cur, h1, h2⟩
  have hgl : w.heap.size < w2.heap.size := (Array.getElem?_eq_some_iff.1 hg0).1
  have GB := Lib.hid (show Gr w w2 from gB)
  clear gB
  generalize hge : w.heap.size = g at *
  have HGE := Lib.hid hge
  clear hge
  obtain ⟨w3, hr3, hg3, hk3⟩ := into_ints (P := Try.prog) w2 38 38 2 i0 Try.underlying38 Hi.out hz1 g 0 (L.length + 3) cur hg0 (by rw [hcur, Nat.mul_one]) p c L (H.out.mono GB.out) (by omega)
  rw [Nat.zero_add] at hr3
  have Hr3 := Lib.hid hr3
  clear hown hgrow hr3
  go_upto_region 3 with (first
    | (refine wpList_append_run w2 rfl _ _ _ _ rfl _ _ (by rfl) (by rfl) _ _ Hr3.out ?_)
    | fail)
  have hs3 := hk3.size
  have hbm : BlkT (w3.alloc (.cells #[.int .i64 mark, .int .i64 mark, .int .i64 mark] 2)) w3.heap.size 2 (ints [mark, mark, mark]) := BlkT.new w3 _ _
  have hg4 : (w3.alloc (.cells #[.int .i64 mark, .int .i64 mark, .int .i64 mark] 2)).heap[g]? = _ := (heap_alloc_old w3 _ (by omega)).trans hg3
  obtain ⟨w5, hr5, hg5, hk5⟩ := into_blk (P := Try.prog) (w3.alloc (.cells #[.int .i64 mark, .int .i64 mark, .int .i64 mark] 2)) 38 38 2 i0 Try.underlying38 Hi.out hz1 g L.length (L.length + 3) _ hg4
    (by simp only [List.size_toArray, List.length_append, List.length_take, List.length_drop, List.length_map, Array.length_toList, hcur]; omega) w3.heap.size [mark, mark, mark] hbm (Nat.le_refl _)
  have Hr5 := Lib.hid hr5
  have hfin : Hid (BlkT w5 g 2 (ints (L ++ [mark, mark, mark]))) := by
    show w5.heap[g]? = _
    rw [hg5]
    have e1 : (cur.toList.take 0 ++ L.map (Value.int .i64) ++ cur.toList.drop (0 + L.length)).take L.length = L.map (Value.int .i64) := by
      rw [List.take_zero, List.nil_append, List.take_left' (by rw [List.length_map])]
    have e2 : (cur.toList.take 0 ++ L.map (Value.int .i64) ++ cur.toList.drop (0 + L.length)).drop (L.length + [mark, mark, mark].length) = [] := by
      apply List.drop_eq_nil_of_le
      simp only [List.length_append, List.length_take, List.length_drop, List.length_map, Array.length_toList, hcur, List.length_cons, List.length_nil]
      omega
    rw [e1, e2, List.append_nil, ints, List.map_append]
  have hgw : Gr w w5 := by
    have k1 : Gr w w3 := Below.trans GB.out (hk3.below (B := w.heap.size) (fun x hx => by rw [hx, HGE.out]; exact Nat.le_refl _) GB.out.size)
    have k2 : Gr w (w3.alloc (.cells #[.int .i64 mark, .int .i64 mark, .int .i64 mark] 2)) := k1.trans (by go_grown)
    exact Below.trans k2 (hk5.below (B := w.heap.size) (fun x hx => by rw [hx, HGE.out]; exact Nat.le_refl _) k2.size)
  have HGW := Lib.hid hgw
  clear hg0 hcur hr5 hg5 hk5 hk3 hg3 hg4 hbm hgw
  go_wp2_with (first
    | (refine wpList_append_run _ rfl _ _ _ _ rfl _ _ (by rfl) (by rfl) _ _ Hr5.out ?_)
    | fail)
  exact hR.out g _ (Nat.le_refl _) hfin.out HGW.out

set_option maxHeartbeats 2000000 in
set_option maxRecDepth 100000 in
theorem roomyI_calls (p : Option Addr) (c : Nat) (L : List Int) (mark : Int) (w : World) (h : IntSl w p c L) (hlen : L.length * 8 ≤ 140737488351232) : Calls Try.prog 25 #[.slice p L.length c, .int .i64 mark] w (RetRoomyI 3 L mark w) := by
  have hR : Hid (∀ g w', w.heap.size ≤ g → BlkT w' g 3 (ints (L ++ [mark, mark, mark])) → Gr w w' → RetRoomyI 3 L mark w (.returned (.slice (some ⟨g, 0, none⟩) L.length (L.length + 3))) w') := fun g w' h1 h2 h3 => ⟨g, rfl, h1, h2, h3⟩
  generalize RetRoomyI 3 L mark w = Q at hR ⊢
  have hlc := h.1
  have hcc := h.2.1
  have H := Lib.hid h
  obtain ⟨i0, hi, hz0, hz1, hz2⟩ := info_parts infoInt
  have Hi := Lib.hid hi
  clear hi h
  go_enter Try.func25, Try.ntmps25
  try simp only [List.append_eq, List.cons_append, List.nil_append]
  go_upto_region 2 with (first
    | (refine wpList_make_own _ rfl _ _ 40 rfl (w.heap.size) 3 i0 _ 1 Try.underlying40 Hi.out hz0 hz1 .i64 .i64 _ (L.length + 3) rfl rfl (by simp) (by rw [hz2]; omega) (by simp only [maxLen]; omega) (by omega) ?_
       intro w2 hown hgrow
       have gB := grownBy_below hgrow (Nat.le_refl _) fun k hk => by cases hk)
    | fail)
  obtain ⟨cur, hg0, hcur⟩ : ∃ cur : Array Value, w2.heap[w.heap.size]? = some (.cells cur 3) ∧ cur.size = (L.length + 3) * 1 := by
    rcases hown.2 with ⟨h0, _⟩ | ⟨g, cap, cur, h0, _, h1, _, _, h2, _⟩
    · cases h0
    · cases h0; exact ⟨cur, h1, h2⟩
  have hgl : w.heap.size < w2.heap.size := (Array.getElem?_eq_some_iff.1 hg0).1
  have GB := Lib.hid (show Gr w w2 from gB)
  clear gB
  generalize hge : w.heap.size = g at *
  have HGE := Lib.hid hge
  clear hge
  obtain ⟨w3, hr3, hg3, hk3⟩ := into_ints (P := Try.prog) w2 40 40 3 i0 Try.underlying40 Hi.out hz1 g 0 (L.length + 3) cur hg0 (by rw [hcur, Nat.mul_one]) p c L (H.out.mono GB.out) (by omega)
  rw [Nat.zero_add] at hr3
  have Hr3 := Lib.hid hr3
  clear hown hgrow hr3
  go_upto_region 3 with (first
    | (refine wpList_append_run w2 rfl _ _ _ _ rfl _ _ (by rfl) (by rfl) _ _ Hr3.out ?_)
    | fail)
  have hs3 := hk3.size
  have hbm : BlkT (w3.alloc (.cells #[.int .i64 mark, .int .i64 mark, .int .i64 mark] 3)) w3.heap.size 3 (ints [mark, mark, mark]) := BlkT.new w3 _ _
  have hg4 : (w3.alloc (.cells #[.int .i64 mark, .int .i64 mark, .int .i64 mark] 3)).heap[g]? = _ := (heap_alloc_old w3 _ (by omega)).trans hg3
  obtain ⟨w5, hr5, hg5, hk5⟩ := into_blk (P := Try.prog) (w3.alloc (.cells #[.int .i64 mark, .int .i64 mark, .int .i64 mark] 3)) 40 40 3 i0 Try.underlying40 Hi.out hz1 g L.length (L.length + 3) _ hg4
    (by simp only [List.size_toArray, List.length_append, List.length_take, List.length_drop, List.length_map, Array.length_toList, hcur]; omega) w3.heap.size [mark, mark, mark] hbm (Nat.le_refl _)
  have Hr5 := Lib.hid hr5
  have hfin : Hid (BlkT w5 g 3 (ints (L ++ [mark, mark, mark]))) := by
    show w5.heap[g]? = _
    rw [hg5]
    have e1 : (cur.toList.take 0 ++ L.map (Value.int .i64) ++ cur.toList.drop (0 + L.length)).take L.length = L.map (Value.int .i64) := by
      rw [List.take_zero, List.nil_append, List.take_left' (by rw [List.length_map])]
    have e2 : (cur.toList.take 0 ++ L.map (Value.int .i64) ++ cur.toList.drop (0 + L.length)).drop (L.length + [mark, mark, mark].length) = [] := by
      apply List.drop_eq_nil_of_le
      simp only [List.length_append, List.length_take, List.length_drop, List.length_map, Array.length_toList, hcur, List.length_cons, List.length_nil]
      omega
    rw [e1, e2, List.append_nil, ints, List.map_append]
  have hgw : Gr w w5 := by
    have k1 : Gr w w3 := Below.trans GB.out (hk3.below (B := w.heap.size) (fun x hx => by rw [hx, HGE.out]; exact Nat.le_refl _) GB.out.size)
    have k2 : Gr w (w3.alloc (.cells #[.int .i64 mark, .int .i64 mark, .int .i64 mark] 3)) := k1.trans (by go_grown)
    exact Below.trans k2 (hk5.below (B := w.heap.size) (fun x hx => by rw [hx, HGE.out]; exact Nat.le_refl _) k2.size)
  have HGW := Lib.hid hgw
  clear hg0 hcur hr5 hg5 hk5 hk3 hg3 hg4 hbm hgw
  go_wp2_with (first
    | (refine wpList_append_run _ rfl _ _ _ _ rfl _ _ (by rfl) (by rfl) _ _ Hr5.out ?_)
    | fail)
  exact hR.out g _ (Nat.le_refl _) hfin.out HGW.out

/-- What is handed in is written over. -/
def RetSpoilI (B n : Nat) (v : Value) (w : World) (e : Ending) (w' : World) : Prop := e = .returned (.tuple #[]) ∧ Kp (fun b => v.ownBlock = some b) w w' ∧ ∃ xs, w'.ownsRow B 2 1 v n xs

set_option maxHeartbeats 2000000 in
set_option maxRecDepth 100000 in
theorem spoilI_none (B : Nat) (mark : Int) (w : World) : Calls Try.prog 26 #[.slice none 0 0, .int .i64 mark] w (RetSpoilI B 0 (.slice none 0 0) w) := by
  have hR : Hid (∀ w', Gr w w' → RetSpoilI B 0 (.slice none 0 0) w (.returned (.tuple #[])) w') := fun w' h => ⟨rfl, Kp.of_gr h, [], World.ownsRow_nil w' _ _ 1⟩
  generalize RetSpoilI B 0 (.slice none 0 0) w = Q at hR ⊢
  obtain ⟨i0, hi, hz0, hz1, hz2⟩ := info_parts infoI64
  have Hi := Lib.hid hi
  clear hi
  go_enter Try.func26, Try.ntmps26
  try simp only [List.append_eq, List.cons_append, List.nil_append]
  go_wp2_with fail
  go_loopg [12] 0 (fun _ i wr => i = .int .i64 0 ∧ w = wr)
  case atStart => exact ⟨rfl, rfl⟩
  case round =>
    obtain ⟨rfl, rfl⟩ := hrel
    have hbm : BlkT (w.alloc (.cells #[.int .i64 mark, .int .i64 mark, .int .i64 mark] 2)) w.heap.size 2 (ints [mark, mark, mark]) := BlkT.new w _ _
    obtain ⟨v', w', hr, -, hg, -⟩ := run_append_own_fresh (P := Try.prog) (w.alloc (.cells #[.int .i64 mark, .int .i64 mark, .int .i64 mark] 2)) (w.alloc (.cells #[.int .i64 mark, .int .i64 mark, .int .i64 mark] 2)).heap.size 38 38 2 i0 (.int .i64 0) 1 8 Try.underlying38 Hi.out hz0 hz1 hz2 rfl (by decide) (.slice none 0 0) 0 [] (World.ownsRow_nil _ _ _ 1) ⟨w.heap.size, 0, none⟩ 3 3 ([mark, mark, mark].map (Value.int .i64)) rfl
      (fun j u hu => by rw [Go.WideShapes.add_plain, Nat.zero_add]; exact hbm.cell j (by rw [ints, List.getElem?_toArray]; exact hu)) (ints_one' _) (by simp only [maxLen]; omega) (by omega) (Nat.le_refl _) (by omega)
    have Hr := Lib.hid hr
    have HG : Hid (Gr w w') := Below.trans (show Gr w (w.alloc (.cells #[.int .i64 mark, .int .i64 mark, .int .i64 mark] 2)) by go_grown) (grownBy_below hg (by simp) fun k hk => by cases hk)
    clear hr hbm hg
    go_wp2_with (first
      | (refine wpList_append_run _ rfl _ _ _ _ rfl _ _ (by rfl) (by rfl) _ _ Hr.out ?_)
      | fail)
    go_end0
    exact hR.out _ HG.out

set_option maxHeartbeats 2000000 in
set_option maxRecDepth 100000 in
theorem spoilI_some (B g n cap : Nat) (cur : Array Value) (mark : Int) (w : World) (hgB : B ≤ g) (hc : BlkT w g 2 cur) (hnc : n ≤ cap) (hcm : cap ≤ 9223372036854775807) (hcs : cur.size = cap) (hn : n ≤ 1000000) :
    Calls Try.prog 26 #[.slice (some ⟨g, 0, none⟩) n cap, .int .i64 mark] w (RetSpoilI B n (.slice (some ⟨g, 0, none⟩) n cap) w) := by
  have hR : Hid (∀ w' (cur' : Array Value), Kp (· = g) w w' → BlkT w' g 2 cur' → cur'.size = cap → RetSpoilI B n (.slice (some ⟨g, 0, none⟩) n cap) w (.returned (.tuple #[])) w') := fun w' cur' h1 h2 h3 => ⟨rfl, h1.mono fun b hb => by rw [hb]; rfl, cur'.toList.take n, by rw [List.length_take, Array.length_toList, h3, Nat.mul_one]; omega, .inr ⟨g, cap, cur', rfl, hgB, h2, hnc, by simp only [maxLen]; exact hcm, by rw [h3, Nat.mul_one], by rw [Nat.mul_one]⟩⟩
  generalize RetSpoilI B n (.slice (some ⟨g, 0, none⟩) n cap) w = Q at hR ⊢
  obtain ⟨i0, hi, hz0, hz1, hz2⟩ := info_parts infoI64
  have Hi := Lib.hid hi
  have HC := Lib.hid hc
  clear hi hc
  go_enter Try.func26, Try.ntmps26
  try simp only [List.append_eq, List.cons_append, List.nil_append]
  go_wp2_with fail
  go_loopg [12] cap (fun m i wr => ∃ (k : Nat) (cur' : Array Value), k ≤ cap ∧ m = cap - k ∧ i = .int .i64 ((k : Nat) : Int) ∧ Hid (BlkT wr g 2 cur') ∧ cur'.size = cap ∧ Hid (Kp (· = g) w wr))
  case atStart => exact ⟨0, cur, Nat.zero_le _, rfl, rfl, HC, hcs, Kp.refl _ _⟩
  case round =>
    obtain ⟨k, cur', hk, rfl, rfl, hb, hcs', hkp⟩ := hrel
    by_cases hlt : k < cap
    case pos =>
      obtain ⟨u, hu⟩ : ∃ u, cur'[k]? = some u := ⟨_, Array.getElem?_eq_getElem (by omega)⟩
      have z0 := hb.out.cell k hu
      have zf := hb.out.open_ k
      have HB2 := Lib.hid (hb.out.set k (.int .i64 mark))
      have HK2 : Hid (Kp (· = g) w (wr.setCell ⟨g, k, none⟩ (.int .i64 mark))) := hkp.out.trans (Kp.set rfl)
      clear hu
      go_wp2_with fail
      go_roundg (cap - (k + 1))
      case measure => omega
      case rel => exact ⟨k + 1, _, by omega, rfl, by go_num, HB2, by rw [Array.size_setIfInBounds]; exact hcs', HK2⟩
    obtain rfl : k = cap := by omega
    have hbm : BlkT (wr.alloc (.cells #[.int .i64 mark, .int .i64 mark, .int .i64 mark] 2)) wr.heap.size 2 (ints [mark, mark, mark]) := BlkT.new wr _ _
    have gb : Gr wr (wr.alloc (.cells #[.int .i64 mark, .int .i64 mark, .int .i64 mark] 2)) := by go_grown
    have hb4 := hb.out.gr gb
    obtain ⟨v', w', cur2, hr, hb5, hcs5, hk5⟩ : ∃ v' w' cur2, (Builtin.append_ #[38, 38] 38 #[.slice (some ⟨g, 0, none⟩) n k, .slice (some ⟨wr.heap.size, 0, none⟩) 3 3]).run Try.prog (wr.alloc (.cells #[.int .i64 mark, .int .i64 mark, .int .i64 mark] 2)) = .ok v' w' ∧ BlkT w' g 2 cur2 ∧ cur2.size = k ∧ Kp (· = g) (wr.alloc (.cells #[.int .i64 mark, .int .i64 mark, .int .i64 mark] 2)) w' := by
      by_cases hroom : n + 3 ≤ k
      · obtain ⟨w5, h1, h2, h3⟩ := into_blk (P := Try.prog) _ 38 38 2 i0 Try.underlying38 Hi.out hz1 g n k cur' hb4 hcs' wr.heap.size [mark, mark, mark] hbm hroom
        exact ⟨_, w5, _, h1, h2, by simp only [List.size_toArray, List.length_append, List.length_take, List.length_drop, List.length_map, Array.length_toList, List.length_cons, List.length_nil, hcs']; omega, h3⟩
      · have hr := run_append_grow (P := Try.prog) (wr.alloc (.cells #[.int .i64 mark, .int .i64 mark, .int .i64 mark] 2)) 38 38 2 i0 _ Try.underlying38 Hi.out hz0 ⟨g, 0, none⟩ n k (cur'.toList.take n) (by rw [hz1, List.length_take, Array.length_toList, hcs', Nat.mul_one]; omega)
          (fun j u hu => by
            rw [Go.WideShapes.add_plain, Nat.zero_add]
            refine hb4.cell j ?_
            rw [List.getElem?_take] at hu
            split at hu
            · rw [← Array.getElem?_toList]; exact hu
            · cases hu) ⟨wr.heap.size, 0, none⟩ 3 3 ([mark, mark, mark].map (Value.int .i64)) (by rw [hz1]; rfl)
          (fun j u hu => by rw [Go.WideShapes.add_plain, Nat.zero_add]; exact hbm.cell j (by rw [ints, List.getElem?_toArray]; exact hu)) (by omega) (by omega) (growslice_fits (by omega) (by rw [hz2]; omega))
        exact ⟨_, _, cur', hr, hb4.gr (by go_grown), hcs', Kp.of_gr (by go_grown)⟩
    have Hr := Lib.hid hr
    have HB5 := Lib.hid hb5
    have HK5 : Hid (Kp (· = g) w w') := (hkp.out.trans (Kp.of_gr gb)).trans hk5
    clear hr hb5 hk5 hbm gb hb4
    go_wp2_with (first
      | (refine wpList_append_run _ rfl _ _ _ _ rfl _ _ (by rfl) (by rfl) _ _ Hr.out ?_)
      | fail)
    go_end0
    exact hR.out _ cur2 HK5.out HB5.out hcs5
theorem spoilI_calls {B n : Nat} {v : Value} {xs : List Value} (mark : Int) {w : World} (h : w.ownsRow B 2 1 v n xs) (hn : n ≤ 1000000) : Calls Try.prog 26 #[v, .int .i64 mark] w (RetSpoilI B n v w) := by
  rcases h.2 with ⟨rfl, rfl⟩ | ⟨g, cap, cur, rfl, h1, h2, h3, h4, h5, _⟩
  · exact spoilI_none B mark w
  · simp only [maxLen] at h4
    exact spoilI_some B g n cap cur mark w h1 h2 h3 (by omega) (by rw [h5, Nat.mul_one]) hn
end Go.Proofs.Ytbapmokbkjmdcaa

namespace Go.Proofs.Ytbapmokbkjmdcaa
open Go.RowKit Go.Maps Go.Lib

/-- A list with spare room, in which marks stand. -/
def Rmy (t : TypeId) (mark : Int) (w : World) (v : Value) (L : List Int) : Prop := ∃ g, v = .slice (some ⟨g, 0, none⟩) L.length (L.length + 3) ∧ BlkT w g t (ints (L ++ [mark, mark, mark]))
theorem Rmy.gr {t : TypeId} {mark : Int} {w w' : World} {v : Value} {L : List Int} (h : Rmy t mark w v L) (hg : Gr w w') : Rmy t mark w' v L := by
  obtain ⟨g, h1, h2⟩ := h
  exact ⟨g, h1, h2.gr hg⟩
theorem Rmy.kp {t : TypeId} {mark : Int} {w w' : World} {v : Value} {L : List Int} (h : Rmy t mark w v L) {C : Nat → Prop} (hk : Kp C w w') (hC : ∀ g, v.ownBlock = some g → ¬ C g) : Rmy t mark w' v L := by
  obtain ⟨g, rfl, h2⟩ := h
  exact ⟨g, rfl, h2.kp hk (hC g rfl)⟩
theorem Rmy.type {t : TypeId} {mark : Int} {w : World} {v : Value} {L : List Int} (h : Rmy t mark w v L) {g : Nat} (hg : v.ownBlock = some g) : OfT w g t := by
  obtain ⟨g', rfl, h2⟩ := h
  cases hg
  exact .of h2
theorem rmy_sl {t : TypeId} {mark : Int} {w : World} {g : Nat} {L : List Int} (h : BlkT w g t (ints (L ++ [mark, mark, mark]))) (hn : ∀ y ∈ L, In64 y) (hl : L.length * 8 ≤ 140737488351232) : IntSl w (some ⟨g, 0, none⟩) (L.length + 3) L :=
  ⟨by omega, by omega, hn, .inr ⟨g, 0, rfl, h.lt, fun i y hy => by
    rw [Nat.zero_add]
    exact h.cell i (ints_at (by rw [List.getElem?_append_left (List.getElem?_eq_some_iff.1 hy).1]; exact hy))⟩⟩
theorem rmy_mark {t : TypeId} {mark : Int} {w : World} {g : Nat} {L : List Int} (h : BlkT w g t (ints (L ++ [mark, mark, mark]))) : w.cell? ⟨g, L.length, none⟩ = some (.int .i64 mark) :=
  h.cell _ (ints_at (by rw [List.getElem?_append_right (Nat.le_refl _), Nat.sub_self]; rfl))

/-- The copies of the domains so far. -/
structure RmD (w1 : World) (D : List (List Int)) (dv : Value) (xs : List Value) (j : Nat) (w : World) : Prop where
  row : w.ownsRow w1.heap.size 38 1 dv j xs
  each : ∀ (i : Nat) (d : List Int), i < j → D[i]? = some d → ∃ v, xs[i]? = some v ∧ Rmy 2 (-777) w v d
theorem RmD.gr {w1 w w' : World} {D : List (List Int)} {dv : Value} {xs : List Value} {j : Nat} (h : RmD w1 D dv xs j w) (hg : Gr w w') : RmD w1 D dv xs j w' :=
  ⟨ownsRow_gr h.row hg, fun i d hi hd => by
    obtain ⟨v, h1, h2⟩ := h.each i d hi hd
    exact ⟨v, h1, h2.gr hg⟩⟩
theorem RmD.kp {w1 w w' : World} {D : List (List Int)} {dv : Value} {xs : List Value} {j : Nat} (h : RmD w1 D dv xs j w) {C : Nat → Prop} (hk : Kp C w w') (hC : ∀ b, C b → ¬ OfT w b 38 ∧ ¬ OfT w b 2) : RmD w1 D dv xs j w' :=
  ⟨ownsRow_kp h.row hk fun g hg hc => (hC g hc).1 (ownsRow_type h.row hg).1, fun i d hi hd => by
    obtain ⟨v, h1, h2⟩ := h.each i d hi hd
    exact ⟨v, h1, h2.kp hk fun g hg hc => (hC g hc).2 (h2.type hg)⟩⟩
theorem RmD.push {w1 : World} {D : List (List Int)} {dv : Value} {xs : List Value} {j : Nat} {w : World} (h : RmD w1 D dv xs j w) {d : List Int} (hd : D[j]? = some d) {u : Value} (hu : Rmy 2 (-777) w u d) (hj : (j + 1) * 24 ≤ 140737488355328) (hw : w1.heap.size ≤ w.heap.size) (ty : TypeId) (b : Nat) (hb : w.cell? ⟨b, 0, none⟩ = some u) :
    ∃ v' w', (Builtin.append_ #[22, 22] ty #[dv, .slice (some ⟨b, 0, none⟩) 1 1]).run Try.prog w = .ok v' w' ∧ RmD w1 D v' (xs ++ [u]) (j + 1) w' ∧ Kp (fun x => dv.ownBlock = some x) w w' := by
  obtain ⟨i0, hi, hz0, hz1, hz2⟩ := info_parts infoRows
  have hone : u.oneCell' = true := by
    obtain ⟨g, rfl, _⟩ := hu
    rfl
  obtain ⟨v', w', hr, ho, hg, _⟩ := run_append_own_fresh (P := Try.prog) w w1.heap.size 22 ty 38 i0 (.slice none 0 0) 1 24 Try.underlying22 hi hz0 hz1 hz2 rfl (by decide) dv j xs h.row ⟨b, 0, none⟩ 1 1 [u] rfl (by
    intro k v hk
    match k, hk with
    | 0, hk => cases hk; exact hb
    | k + 1, hk => simp at hk) (by
    intro v hv
    rw [List.mem_singleton.1 hv]; exact hone) (by simp only [maxLen]; omega) hj hw (by decide)
  have hkp : Kp (fun x => dv.ownBlock = some x) w w' := Kp.of_grown hg fun r hr => hr
  have hoth : ∀ {v : Value} {d : List Int}, Rmy 2 (-777) w v d → Rmy 2 (-777) w' v d := fun {v d} hv => hv.kp hkp fun g hg hc => OfT.ne (ownsRow_type h.row hc).1 (hv.type hg) (by decide) rfl
  refine ⟨v', w', hr, ⟨ho, fun i d' hi' hd' => ?_⟩, hkp⟩
  have hxl : xs.length = j := by have := h.row.1; omega
  by_cases hij : i < j
  · obtain ⟨v, h1, h2⟩ := h.each i d' hij hd'
    exact ⟨v, by rw [List.getElem?_append_left (by omega)]; exact h1, hoth h2⟩
  · obtain rfl : i = j := by omega
    rw [hd] at hd'; cases hd'
    exact ⟨u, by rw [List.getElem?_append_right (by omega), hxl, Nat.sub_self]; rfl, hoth hu⟩
theorem RmD.rows {w1 w : World} {D : List (List Int)} {p : Option Addr} {c n : Nat} {xs : List Value} (h : RmD w1 D (.slice p n c) xs D.length w) (hn : ∀ d ∈ D, ∀ y ∈ d, In64 y) (hl : ∀ d ∈ D, d.length * 8 ≤ 140737488351232) : n = D.length ∧ RowsAt w p D ∧ D.length ≤ c ∧ c ≤ 9223372036854775807 := by
  have h0 := h.row
  rcases h.row.2 with ⟨e0, h1⟩ | ⟨g, cap, cur, e0, h1, h2, h3, h4, h5, h6⟩
  · cases e0
    exact ⟨h1.symm, .inl (List.eq_nil_of_length_eq_zero h1), by omega, by omega⟩
  · cases e0
    simp only [maxLen] at h4
    refine ⟨rfl, .inr ⟨g, 0, rfl, (Array.getElem?_eq_some_iff.1 h2).1, fun i d hd => ?_⟩, h3, by omega⟩
    have hi : i < D.length := (List.getElem?_eq_some_iff.1 hd).1
    obtain ⟨v, h7, g', rfl, h8⟩ := h.each i d hi hd
    refine ⟨_, _, ?_, rmy_sl h8 (hn d (List.mem_of_getElem? hd)) (hl d (List.mem_of_getElem? hd))⟩
    rw [Nat.zero_add, World.ownsRow.cellAt h0 i (by omega)]
    exact h7

/-- A constraint and its copy. -/
structure RmC (w : World) (y y' : Cn) : Prop where
  con : y'.con = y.con
  vs : y'.vs = y.vs ∧ y'.cs = y.cs ∧ y'.k = y.k ∧ y'.op = y.op ∧ y'.c = y.c
  va : Rmy 3 (-7) w (.slice y'.vp y'.vs.length y'.vc) y.vs
  co : Rmy 2 (-7) w (.slice y'.cp y'.cs.length y'.cc) y.cs
theorem RmC.gr {w w' : World} {y y' : Cn} (h : RmC w y y') (hg : Gr w w') : RmC w' y y' := ⟨h.con, h.vs, h.va.gr hg, h.co.gr hg⟩
theorem RmC.kp {w w' : World} {y y' : Cn} (h : RmC w y y') {C : Nat → Prop} (hk : Kp C w w') (hC : ∀ b, C b → ¬ OfT w b 3 ∧ ¬ OfT w b 2) : RmC w' y y' :=
  ⟨h.con, h.vs, h.va.kp hk fun g hg hc => (hC g hc).1 (h.va.type hg), h.co.kp hk fun g hg hc => (hC g hc).2 (h.co.type hg)⟩
theorem RmC.in_ {w : World} {y y' : Cn} (h : RmC w y y') (hy : y.In w) (h1 : y.vs.length * 8 ≤ 140737488351232) (h2 : y.cs.length * 8 ≤ 140737488351232) : y'.In w := by
  obtain ⟨e1, e2, e3, e4, e5⟩ := h.vs
  obtain ⟨g, k1, k2⟩ := h.va
  obtain ⟨g', k3, k4⟩ := h.co
  obtain ⟨i1, i2, i3, i4, i5⟩ := hy
  injection k1 with a1 a2 a3
  injection k3 with c1 c2 c3
  refine ⟨?_, ?_, by rw [e3]; exact i3, by rw [e4]; exact i4, by rw [e5]; exact i5⟩
  · rw [e1, a1, a3]; exact rmy_sl k2 i1.2.2.1 h1
  · rw [e2, c1, c3]; exact rmy_sl k4 i2.2.2.1 h2
/-- The other problem, as it is built. -/
structure QM (x : Pb) (w1 : World) (bq : Nat) (dv : Value) (xs : List Value) (cv0 cv : Value) (L : List Cn) (j : Nat) (w : World) : Prop where
  blk : BlkT w bq 25 #[dv, cv0]
  rmd : RmD w1 x.D dv xs x.D.length w
  own : CnOwn w w1.heap.size cv L
  len : L.length = j
  each : ∀ (i : Nat) (y : Cn), i < j → x.C[i]? = some y → ∃ y', L[i]? = some y' ∧ RmC w y y'
  gr : Gr w1 w
  ge : w1.heap.size ≤ bq
section
variable {x : Pb} {w1 w w' : World} {bq : Nat} {dv : Value} {xs : List Value} {cv0 cv : Value} {L : List Cn} {j : Nat}
theorem QM.gr' (h : QM x w1 bq dv xs cv0 cv L j w) (hg : Gr w w') : QM x w1 bq dv xs cv0 cv L j w' := ⟨h.blk.gr hg, h.rmd.gr hg, ownsRow_gr h.own hg, h.len, fun i y hi hy => by
  obtain ⟨y', h1, h2⟩ := h.each i y hi hy
  exact ⟨y', h1, h2.gr hg⟩, h.gr.trans hg, h.ge⟩
/-- Turns of new blocks of another type. -/
theorem QM.kpT (h : QM x w1 bq dv xs cv0 cv L j w) {C : Nat → Prop} (hk : Kp C w w') {τ : TypeId} (hC : ∀ b, C b → OfT w b τ ∧ w1.heap.size ≤ b) (h1 : τ ≠ 25) (h2 : τ ≠ 38) (h3 : τ ≠ 2) (h4 : τ ≠ 3) (hcv : ∀ g, cv.ownBlock = some g → ¬ C g) : QM x w1 bq dv xs cv0 cv L j w' :=
  ⟨h.blk.kp hk fun hc => OfT.ne (hC _ hc).1 (.of h.blk) h1 rfl, h.rmd.kp hk fun b hb => ⟨(hC b hb).1.not h2, (hC b hb).1.not h3⟩, ownsRow_kpN h.own hk hcv, h.len, fun i y hi hy => by
    obtain ⟨y', k1, k2⟩ := h.each i y hi hy
    exact ⟨y', k1, k2.kp hk fun b hb => ⟨(hC b hb).1.not h4, (hC b hb).1.not h3⟩⟩, Below.trans h.gr (hk.below (fun b hb => (hC b hb).2) h.gr.size), h.ge⟩
theorem QM.push (h : QM x w1 bq dv xs cv0 cv L j w) {y y' : Cn} (hy : x.C[j]? = some y) (hr : RmC w y y') (hl : (j + 1) * 72 ≤ 140737488355328) (ty : TypeId) (b : Nat) (hb : BlkT w b 42 y'.arr) :
    ∃ v' w', (Builtin.append_ #[23, 23] ty #[cv, .slice (some ⟨b, 0, none⟩) 1 1]).run Try.prog w = .ok v' w' ∧ QM x w1 bq dv xs cv0 v' (L ++ [y']) (j + 1) w' := by
  obtain ⟨v', w', hrun, ho, hk, -⟩ := h.own.push y' h.gr.size (by rw [h.len]; exact hl) ty b hb
  have ht : ∀ b, cv.ownBlock = some b → OfT w b 42 ∧ w1.heap.size ≤ b := fun b hb => ownsRow_typeN h.own hb
  refine ⟨v', w', hrun, ⟨h.blk.kp hk fun hc => OfT.ne (ht _ hc).1 (.of h.blk) (by decide) rfl, h.rmd.kp hk fun b hb => ⟨(ht b hb).1.not (by decide), (ht b hb).1.not (by decide)⟩, ho, by rw [List.length_append, h.len]; rfl, fun i u hi hu => ?_, Below.trans h.gr (hk.below (fun b hb => (ht b hb).2) h.gr.size), h.ge⟩⟩
  have hrk : ∀ {y y' : Cn}, RmC w y y' → RmC w' y y' := fun h => h.kp hk fun b hb => ⟨(ht b hb).1.not (by decide), (ht b hb).1.not (by decide)⟩
  by_cases hij : i < j
  · obtain ⟨u', k1, k2⟩ := h.each i u hij hu
    exact ⟨u', by rw [List.getElem?_append_left (by rw [h.len]; exact hij)]; exact k1, hrk k2⟩
  · obtain rfl : i = j := by omega
    rw [hy] at hu; cases hu
    exact ⟨y', by rw [List.getElem?_append_right (by rw [h.len]; exact Nat.le_refl _), h.len, Nat.sub_self]; rfl, hrk hr⟩
theorem QM.store (h : QM x w1 bq dv xs cv0 cv L j w) : QM x w1 bq dv xs cv cv L j (w.setCell ⟨bq, 1, none⟩ cv) := by
  have hk : Kp (· = bq) w (w.setCell ⟨bq, 1, none⟩ cv) := Kp.set rfl
  have hb : ∀ b, b = bq → OfT w b 25 ∧ w1.heap.size ≤ b := fun b hb => by rw [hb]; exact ⟨.of h.blk, h.ge⟩
  exact ⟨h.blk.set 1 cv, h.rmd.kp hk fun b hc => ⟨(hb b hc).1.not (by decide), (hb b hc).1.not (by decide)⟩, ownsRow_kpN h.own hk fun g hg hc => OfT.ne (ownsRow_typeN h.own hg).1 (hb g hc).1 (by decide) rfl, h.len, fun i y hi hy => by
    obtain ⟨y', k1, k2⟩ := h.each i y hi hy
    exact ⟨y', k1, k2.kp hk fun b hc => ⟨(hb b hc).1.not (by decide), (hb b hc).1.not (by decide)⟩⟩, Below.trans h.gr (hk.below (fun b hc => (hb b hc).2) h.gr.size), h.ge⟩
end

/-- Rows that may be written over: their blocks are new, whatever stands in them. -/
def Shape (B : Nat) (w : World) (p : Option Addr) (ns : List Nat) : Prop :=
  ns = [] ∨ ∃ b vs, p = some ⟨b, 0, none⟩ ∧ B ≤ b ∧ BlkT w b 38 vs ∧ ∀ (i n : Nat), ns[i]? = some n → n ≤ 1000000 ∧ ∃ q c xs, vs[i]? = some (.slice q n c) ∧ w.ownsRow B 2 1 (.slice q n c) n xs
theorem Shape.of {B : Nat} {w : World} {p : Option Addr} {E : List (List Int)} (h : RowsOwn B w p E) (hl : ∀ d ∈ E, d.length ≤ 1000000) : Shape B w p (E.map List.length) := by
  rcases h with h | ⟨b, vs, h1, h2, h3, h4⟩
  · exact .inl (by rw [h]; rfl)
  · refine .inr ⟨b, vs, h1, h2, h3, fun i n hn => ?_⟩
    rw [List.getElem?_map] at hn
    cases hd : E[i]? with
    | none => rw [hd] at hn; cases hn
    | some d =>
      rw [hd] at hn; cases hn
      obtain ⟨v, h5, h6⟩ := h4 i d hd
      obtain ⟨q, c, rfl⟩ := h6.form
      exact ⟨hl d (List.mem_of_getElem? hd), q, c, _, h5, h6⟩
/-- Behind what has been written over. -/
theorem Shape.spoil {B : Nat} {w w' : World} {p : Option Addr} {ns : List Nat} (h : Shape B w p ns) {u : Value} {m : Nat} {zs : List Value} (hu : w.ownsRow B 2 1 u m zs) (hk : Kp (fun b => u.ownBlock = some b) w w') (hu' : ∃ zs', w'.ownsRow B 2 1 u m zs') : Shape B w' p ns := by
  refine h.imp id ?_
  rintro ⟨b, vs, h1, h2, h3, h4⟩
  refine ⟨b, vs, h1, h2, h3.kp hk fun hc => OfT.ne (ownsRow_type hu hc).1 (.of h3) (by decide) rfl, fun i n hn => ?_⟩
  obtain ⟨h5, q, c, xs, h6, h7⟩ := h4 i n hn
  refine ⟨h5, q, c, ?_⟩
  by_cases hg : ∃ g, (Value.slice q n c).ownBlock = some g ∧ u.ownBlock = some g
  · obtain ⟨g, hg1, hg2⟩ := hg
    obtain ⟨zs', hz⟩ := hu'
    rcases hz.2 with ⟨rfl, _⟩ | ⟨g', cap, cur, rfl, k1, k2, k3, k4, k5, k6⟩
    · cases hg2
    · cases hg2
      rcases hu.2 with ⟨e0, _⟩ | ⟨g2, cap2, cur2, e0, _, l2, _, _, l5, _⟩
      · cases e0
      · cases e0
        rcases h7.2 with ⟨e1, _⟩ | ⟨g3, cap3, cur3, e1, m1, m2, m3, m4, m5, _⟩
        · rw [e1] at hg1; cases hg1
        · cases e1
          cases hg1
          rw [l2] at m2
          cases m2
          have hcap : c = cap := by rw [Nat.mul_one] at m5 l5; omega
          subst hcap
          exact ⟨cur.toList.take n, h6, by rw [List.length_take, Array.length_toList, k5]; omega, .inr ⟨_, _, cur, rfl, m1, k2, m3, k4, k5, by rw [Nat.mul_one]⟩⟩
  · exact ⟨xs, h6, ownsRow_kp h7 hk fun g hg1 hg2 => hg ⟨g, hg1, hg2⟩⟩
/-- Reduce and Solve hand back rows of their own. -/
theorem reduce_own (z : Pb) (W : World) (hz : z.In W) : Calls Try.prog 10 #[z.val] W fun en w' => ∃ (E : List (List Int)) (p : Option Addr) (c : Nat) (ok : Bool) (ec : Int), en = .returned (.tuple #[.slice p E.length c, .bool ok, .int .i64 ec]) ∧ Shape W.heap.size w' p (E.map List.length) ∧ E.length ≤ c ∧ c ≤ 9223372036854775807 ∧ Gr W w' :=
  (reduceP_calls z W hz).mono fun en w' h => by
    obtain ⟨hg, h⟩ := h
    rcases h with ⟨_, h⟩ | ⟨_, _, h⟩ | ⟨_, E, p, c, _, h2, h3, h4, h5, _, h6⟩
    · exact ⟨[], none, 0, false, _, h, .inl rfl, Nat.le_refl _, by omega, hg⟩
    · exact ⟨[], none, 0, false, _, h, .inl rfl, Nat.le_refl _, by omega, hg⟩
    · exact ⟨E, p, c, true, 0, h2, Shape.of h3 fun d hd => by have := h6 d hd; omega, h4, h5, hg⟩
theorem solve_own (z : Pb) (most : Int) (W : World) (hz : z.In W) (hm : most ≤ 20000) : Calls Try.prog 15 #[z.val, .int .i64 most] W fun en w' => ∃ (L : List (List Int)) (p : Option Addr) (c : Nat) (ec : Int), en = .returned (.tuple #[.slice p L.length c, .int .i64 ec]) ∧ Shape W.heap.size w' p (L.map List.length) ∧ L.length ≤ c ∧ c ≤ 9223372036854775807 ∧ Gr W w' :=
  (solve_calls z most W hz hm).mono fun en w' h => by
    obtain ⟨hg, h⟩ := h
    rcases h with ⟨_, h⟩ | ⟨h0, L, p, c, _, h2, h3, h4, h5, h6⟩
    · exact ⟨[], none, 0, _, h, .inl rfl, Nat.le_refl _, by omega, hg⟩
    · exact ⟨L, p, c, 0, h2, Shape.of h3 fun d hd => by have := (h6 d hd).1; have := (check_zero h0).2.2.1; omega, h4, h5, hg⟩
theorem firstSol_mem {C : List Con} {D : List (List Int)} {v : Nat} {s : List Int} : ∀ {l : List Int}, firstSol C D v l = some s → ∃ n, s ∈ sols C (D.set v [n])
  | [], h => by cases h
  | n :: ns, h => by
    rw [firstSol] at h
    cases hs : sols C (D.set v [n]) with
    | nil => rw [hs] at h; exact firstSol_mem h
    | cons s' l =>
      rw [hs] at h
      cases h
      exact ⟨n, by rw [hs]; exact List.mem_cons_self ..⟩
theorem best_own (z : Pb) (v : Int) (W : World) (hz : z.In W) (hv : In64 v) : Calls Try.prog 22 #[z.val, .int .i64 v] W fun en w' => ∃ (n : Nat) (p : Option Addr) (c : Nat) (ok : Bool) (f : Int), en = .returned (.tuple #[.slice p n c, .bool ok, .int .i64 f]) ∧ n ≤ 1000000 ∧ (∃ xs, w'.ownsRow W.heap.size 2 1 (.slice p n c) n xs) ∧ Gr W w' :=
  (best_calls z v W hz hv).mono fun en w' h => by
    obtain ⟨hg, h⟩ := h
    rcases h with ⟨_, h⟩ | ⟨_, _, h⟩ | ⟨_, _, _, h⟩ | ⟨h0, _, s, p, c, h1, h2, h3, _⟩
    · exact ⟨0, none, 0, _, _, h, by omega, ⟨[], World.ownsRow_nil _ _ _ 1⟩, hg⟩
    · exact ⟨0, none, 0, _, _, h, by omega, ⟨[], World.ownsRow_nil _ _ _ 1⟩, hg⟩
    · exact ⟨0, none, 0, _, _, h, by omega, ⟨[], World.ownsRow_nil _ _ _ 1⟩, hg⟩
    · refine ⟨s.length, p, c, _, _, h2, ?_, ⟨_, h3⟩, hg⟩
      obtain ⟨n, hn⟩ := firstSol_mem h1
      have := (mem_prodL.1 (mem_sols.1 hn).1).1
      rw [List.length_set] at this
      have := (check_zero h0).2.2.1
      omega
end Go.Proofs.Ytbapmokbkjmdcaa
