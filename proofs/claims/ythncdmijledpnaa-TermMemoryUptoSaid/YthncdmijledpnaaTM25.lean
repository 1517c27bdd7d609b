/-
  hornkeep.roomy of int, hornkeep.spoilt of int64.
  term.At: the part at a place.
  hornref.At: the part at a place.
-/
import Derived.Test.YthncdmijledpnaaTM14
import Derived.Test.YthncdmijledpnaaTM09
import Derived.Test.YthncdmijledpnaaTM12
import Derived.Test.YthncdmijledpnaaTM18
import Derived.Test.YthncdmijledpnaaTM21
import Derived.BigQuiet
namespace Go.Proofs.Ythncdmijledpnaa
open Go.RowKit Go.Maps Go.Lib

theorem infoInt : (Try.prog.info? 3).map (fun i => (i.zero, i.size, i.bytes)) = some (some (.int .i64 0), 1, 8) := by kernel_rfl
def ints (L : List Int) : Array Value := (L.map (Value.int .i64)).toArray
/-- append where there is room. -/
theorem append_intoI {P : Program} (w : World) (t ty e : TypeId) (i : TypeInfo) (ht : P.underlying t = some (.slice e)) (hi : P.info? e = some i) (hsz : i.size = 1) (g n cap : Nat) (cur : Array Value) (hg : w.heap[g]? = some (.cells cur e)) (hc : cur.size = cap)
    (a : Addr) (m c : Nat) (news : List Value) (hl : news.length = m) (hnews : ∀ j u, news[j]? = some u → w.cell? (a.add j) = some u) (h1 : ∀ u ∈ news, u.oneCell' = true) (hroom : n + m ≤ cap) :
    ∃ w', (Builtin.append_ #[t, t] ty #[.slice (some ⟨g, 0, none⟩) n cap, .slice (some a) m c]).run P w = .ok (.slice (some ⟨g, 0, none⟩) (n + m) cap) w' ∧
      w'.heap[g]? = some (.cells (cur.toList.take n ++ news ++ cur.toList.drop (n + news.length)).toArray e) ∧ Kp (fun b => b = g) w w' := by
  have hr := run_append_room (P := P) w t ty e i ht hi g n cap cur hg a m c news (by rw [hsz, Nat.mul_one]; exact hl) hnews h1 hroom (by rw [hsz, hl, hc]; omega)
  rw [hsz, Nat.mul_one] at hr
  exact ⟨_, hr, setRow_heap w g cur _ e _ hg, ⟨rfl, rfl, rfl, by simp, fun k _ hk => setRow_other w g k _ hk⟩⟩
theorem ints_one' (L : List Int) : ∀ u ∈ L.map (Value.int .i64), u.oneCell' = true := fun u hu => by
  obtain ⟨y, _, rfl⟩ := List.mem_map.1 hu
  rfl
theorem into_ints {P : Program} (w : World) (t ty e : TypeId) (i : TypeInfo) (ht : P.underlying t = some (.slice e)) (hi : P.info? e = some i) (hsz : i.size = 1) (g n cap : Nat) (cur : Array Value) (hg : w.heap[g]? = some (.cells cur e)) (hc : cur.size = cap)
    (p : Option Addr) (c : Nat) (L : List Int) (h : IntSl w p c L) (hroom : n + L.length ≤ cap) :
    ∃ w', (Builtin.append_ #[t, t] ty #[.slice (some ⟨g, 0, none⟩) n cap, .slice p L.length c]).run P w = .ok (.slice (some ⟨g, 0, none⟩) (n + L.length) cap) w' ∧
      w'.heap[g]? = some (.cells (cur.toList.take n ++ L.map (Value.int .i64) ++ cur.toList.drop (n + L.length)).toArray e) ∧ Kp (fun b => b = g) w w' := by
  by_cases h0 : L = []
  · subst h0
    refine ⟨w, ?_, ?_, Kp.refl _ _⟩
    · exact run_append_empty w t ty e i ht hi (some ⟨g, 0, none⟩) n cap p c (by simpa using hroom)
    · rw [hg]; simp
  · obtain ⟨b, o, rfl, _, hr⟩ := h.ptr (List.length_pos_iff.2 h0)
    obtain ⟨w', h1, h2, h3⟩ := append_intoI (P := P) w t ty e i ht hi hsz g n cap cur hg hc ⟨b, o, none⟩ L.length c (L.map (Value.int .i64)) (List.length_map ..) (fun j u hu => by
      rw [Go.WideShapes.add_plain]
      rw [List.getElem?_map] at hu
      cases hl : L[j]? with
      | none => rw [hl] at hu; cases hu
      | some y => rw [hl] at hu; cases hu; exact hr j y hl) (ints_one' L) hroom
    rw [List.length_map] at h2
    exact ⟨w', h1, h2, h3⟩
theorem into_blk {P : Program} (w : World) (t ty e : TypeId) (i : TypeInfo) (ht : P.underlying t = some (.slice e)) (hi : P.info? e = some i) (hsz : i.size = 1) (g n cap : Nat) (cur : Array Value) (hg : w.heap[g]? = some (.cells cur e)) (hc : cur.size = cap)
    (b : Nat) (L : List Int) (h : BlkT w b e (ints L)) (hroom : n + L.length ≤ cap) :
    ∃ w', (Builtin.append_ #[t, t] ty #[.slice (some ⟨g, 0, none⟩) n cap, .slice (some ⟨b, 0, none⟩) L.length L.length]).run P w = .ok (.slice (some ⟨g, 0, none⟩) (n + L.length) cap) w' ∧
      w'.heap[g]? = some (.cells (cur.toList.take n ++ L.map (Value.int .i64) ++ cur.toList.drop (n + L.length)).toArray e) ∧ Kp (fun b => b = g) w w' := by
  obtain ⟨w', h1, h2, h3⟩ := append_intoI (P := P) w t ty e i ht hi hsz g n cap cur hg hc ⟨b, 0, none⟩ L.length L.length (L.map (Value.int .i64)) (List.length_map ..) (fun j u hu => by
    rw [Go.WideShapes.add_plain, Nat.zero_add]
    exact h.cell j (by rw [ints, List.getElem?_toArray]; exact hu)) (ints_one' L) hroom
  rw [List.length_map] at h2
  exact ⟨w', h1, h2, h3⟩
/-- A list with three marks behind it is handed back. -/
def RetRoomyI (t : TypeId) (L : List Int) (mark : Int) (w : World) (e : Ending) (w' : World) : Prop :=
  ∃ g, e = .returned (.slice (some ⟨g, 0, none⟩) L.length (L.length + 3)) ∧ w.heap.size ≤ g ∧ BlkT w' g t (ints (L ++ [mark, mark, mark])) ∧ Gr w w'

set_option maxHeartbeats 2000000 in
set_option maxRecDepth 100000 in
theorem roomyI_calls (p : Option Addr) (c : Nat) (L : List Int) (mark : Int) (w : World) (h : IntSl w p c L) (hlen : L.length * 8 ≤ 140737488351232) : Calls Try.prog 35 #[.slice p L.length c, .int .i64 mark] w (RetRoomyI 3 L mark w) := by
  have hR : Hid (∀ g w', w.heap.size ≤ g → BlkT w' g 3 (ints (L ++ [mark, mark, mark])) → Gr w w' → RetRoomyI 3 L mark w (.returned (.slice (some ⟨g, 0, none⟩) L.length (L.length + 3))) w') := fun g w' h1 h2 h3 => ⟨g, rfl, h1, h2, h3⟩
  generalize RetRoomyI 3 L mark w = Q at hR ⊢
  have hlc := h.1
  have hcc := h.2.1
  have H := Lib.hid h
  obtain ⟨i0, hi, hz0, hz1, hz2⟩ := info_parts infoInt
  have Hi := Lib.hid hi
  clear hi h
  go_enter Try.func35, Try.ntmps35
  try simp only [List.append_eq, List.cons_append, List.nil_append]
  go_upto_region 2 with (first
    | (refine wpList_make_own _ rfl _ _ 55 rfl (w.heap.size) 3 i0 _ 1 Try.underlying55 Hi.out hz0 hz1 .i64 .i64 _ (L.length + 3) rfl rfl (by simp) (by rw [hz2]; omega) (by simp only [maxLen]; omega) (by omega) ?_
       intro w2 hown hgrow
       have gB := grownBy_below hgrow (Nat.le_refl _) fun k hk => by cases hk)
    | fail)
  obtain ⟨cur, hg0, hcur⟩ : ∃ cur : Array Value, w2.heap[w.heap.size]? = some (.cells cur 3) ∧ cur.size = (L.length + 3) * 1 := by
    rcases hown.2 with ⟨h0, _⟩ | ⟨g, cap, cur, h0, _, h1, _, _, h2, _⟩
    · cases h0
    · cases h0; exact ⟨cur, h1, h2⟩
  have hgl : w.heap.size < w2.heap.size := (Array.getElem?_eq_some_iff.1 hg0).1
  have GB := Lib.hid (show Gr w w2 from gB)
  clear gB
  generalize hge : w.heap.size = g at *
  have HGE := Lib.hid hge
  clear hge
  obtain ⟨w3, hr3, hg3, hk3⟩ := into_ints (P := Try.prog) w2 55 55 3 i0 Try.underlying55 Hi.out hz1 g 0 (L.length + 3) cur hg0 (by rw [hcur, Nat.mul_one]) p c L (H.out.mono GB.out) (by omega)
  rw [Nat.zero_add] at hr3
  have Hr3 := Lib.hid hr3
  clear hown hgrow hr3
  go_upto_region 3 with (first
    | (refine wpList_append_run w2 rfl _ _ _ _ rfl _ _ (by rfl) (by rfl) _ _ Hr3.out ?_)
    | fail)
  have hs3 := hk3.size
  have hbm : BlkT (w3.alloc (.cells #[.int .i64 mark, .int .i64 mark, .int .i64 mark] 3)) w3.heap.size 3 (ints [mark, mark, mark]) := BlkT.new w3 _ _
  have hg4 : (w3.alloc (.cells #[.int .i64 mark, .int .i64 mark, .int .i64 mark] 3)).heap[g]? = _ := (heap_alloc_old w3 _ (by omega)).trans hg3
  obtain ⟨w5, hr5, hg5, hk5⟩ := into_blk (P := Try.prog) (w3.alloc (.cells #[.int .i64 mark, .int .i64 mark, .int .i64 mark] 3)) 55 55 3 i0 Try.underlying55 Hi.out hz1 g L.length (L.length + 3) _ hg4
    (by simp only [List.size_toArray, List.length_append, List.length_take, List.length_drop, List.length_map, Array.length_toList, hcur]; omega) w3.heap.size [mark, mark, mark] hbm (Nat.le_refl _)
  have Hr5 := Lib.hid hr5
  have hfin : Hid (BlkT w5 g 3 (ints (L ++ [mark, mark, mark]))) := by
    show w5.heap[g]? = _
    rw [hg5]
    have e1 : (cur.toList.take 0 ++ L.map (Value.int .i64) ++ cur.toList.drop (0 + L.length)).take L.length = L.map (Value.int .i64) := by
      rw [List.take_zero, List.nil_append, List.take_left' (by rw [List.length_map])]
    have e2 : (cur.toList.take 0 ++ L.map (Value.int .i64) ++ cur.toList.drop (0 + L.length)).drop (L.length + [mark, mark, mark].length) = [] := by
      apply List.drop_eq_nil_of_le
      simp only [List.length_append, List.length_take, List.length_drop, List.length_map, Array.length_toList, hcur, List.length_cons, List.length_nil]
      omega
    rw [e1, e2, List.append_nil, ints, List.map_append]
  have hgw : Gr w w5 := by
    have k1 : Gr w w3 := Below.trans GB.out (hk3.below (B := w.heap.size) (fun x hx => by rw [hx, HGE.out]; exact Nat.le_refl _) GB.out.size)
    have k2 : Gr w (w3.alloc (.cells #[.int .i64 mark, .int .i64 mark, .int .i64 mark] 3)) := k1.trans (by go_grown)
    exact Below.trans k2 (hk5.below (B := w.heap.size) (fun x hx => by rw [hx, HGE.out]; exact Nat.le_refl _) k2.size)
  have HGW := Lib.hid hgw
  clear hg0 hcur hr5 hg5 hk5 hk3 hg3 hg4 hbm hgw
  go_wp2_with (first
    | (refine wpList_append_run _ rfl _ _ _ _ rfl _ _ (by rfl) (by rfl) _ _ Hr5.out ?_)
    | fail)
  exact hR.out g _ (Nat.le_refl _) hfin.out HGW.out

/-- What is handed in is written over. -/
def RetSpoilI (B n : Nat) (v : Value) (w : World) (e : Ending) (w' : World) : Prop := e = .returned (.tuple #[]) ∧ Kp (fun b => v.ownBlock = some b) w w' ∧ ∃ xs, w'.ownsRow B 2 1 v n xs

set_option maxHeartbeats 2000000 in
set_option maxRecDepth 100000 in
theorem spoilI_none (B : Nat) (mark : Int) (w : World) : Calls Try.prog 19 #[.slice none 0 0, .int .i64 mark] w (RetSpoilI B 0 (.slice none 0 0) w) := by
  have hR : Hid (∀ w', Gr w w' → RetSpoilI B 0 (.slice none 0 0) w (.returned (.tuple #[])) w') := fun w' h => ⟨rfl, Kp.of_gr h, [], World.ownsRow_nil w' _ _ 1⟩
  generalize RetSpoilI B 0 (.slice none 0 0) w = Q at hR ⊢
  obtain ⟨i0, hi, hz0, hz1, hz2⟩ := info_parts infoI64
  have Hi := Lib.hid hi
  clear hi
  go_enter Try.func19, Try.ntmps19
  try simp only [List.append_eq, List.cons_append, List.nil_append]
  go_wp2_with fail
  go_loopg [12] 0 (fun _ i wr => i = .int .i64 0 ∧ w = wr)
  case atStart => exact ⟨rfl, rfl⟩
  case round =>
    obtain ⟨rfl, rfl⟩ := hrel
    have hbm : BlkT (w.alloc (.cells #[.int .i64 mark, .int .i64 mark, .int .i64 mark] 2)) w.heap.size 2 (ints [mark, mark, mark]) := BlkT.new w _ _
    obtain ⟨v', w', hr, -, hg, -⟩ := run_append_own_fresh (P := Try.prog) (w.alloc (.cells #[.int .i64 mark, .int .i64 mark, .int .i64 mark] 2)) (w.alloc (.cells #[.int .i64 mark, .int .i64 mark, .int .i64 mark] 2)).heap.size 42 42 2 i0 (.int .i64 0) 1 8 Try.underlying42 Hi.out hz0 hz1 hz2 rfl (by decide) (.slice none 0 0) 0 [] (World.ownsRow_nil _ _ _ 1) ⟨w.heap.size, 0, none⟩ 3 3 ([mark, mark, mark].map (Value.int .i64)) rfl
      (fun j u hu => by rw [Go.WideShapes.add_plain, Nat.zero_add]; exact hbm.cell j (by rw [ints, List.getElem?_toArray]; exact hu)) (ints_one' _) (by simp only [maxLen]; omega) (by omega) (Nat.le_refl _) (by omega)
    have Hr := Lib.hid hr
    have HG : Hid (Gr w w') := Below.trans (show Gr w (w.alloc (.cells #[.int .i64 mark, .int .i64 mark, .int .i64 mark] 2)) by go_grown) (grownBy_below hg (by simp) fun k hk => by cases hk)
    clear hr hbm hg
    go_wp2_with (first
      | (refine wpList_append_run _ rfl _ _ _ _ rfl _ _ (by rfl) (by rfl) _ _ Hr.out ?_)
      | fail)
    go_end0
    exact hR.out _ HG.out

set_option maxHeartbeats 2000000 in
set_option maxRecDepth 100000 in
theorem spoilI_some (B g n cap : Nat) (cur : Array Value) (mark : Int) (w : World) (hgB : B ≤ g) (hc : BlkT w g 2 cur) (hnc : n ≤ cap) (hcm : cap ≤ 9223372036854775807) (hcs : cur.size = cap) (hn : n ≤ 1048577) :
    Calls Try.prog 19 #[.slice (some ⟨g, 0, none⟩) n cap, .int .i64 mark] w (RetSpoilI B n (.slice (some ⟨g, 0, none⟩) n cap) w) := by
  have hR : Hid (∀ w' (cur' : Array Value), Kp (· = g) w w' → BlkT w' g 2 cur' → cur'.size = cap → RetSpoilI B n (.slice (some ⟨g, 0, none⟩) n cap) w (.returned (.tuple #[])) w') := fun w' cur' h1 h2 h3 => ⟨rfl, h1.mono fun b hb => by rw [hb]; rfl, cur'.toList.take n, by rw [List.length_take, Array.length_toList, h3, Nat.mul_one]; omega, .inr ⟨g, cap, cur', rfl, hgB, h2, hnc, by simp only [maxLen]; exact hcm, by rw [h3, Nat.mul_one], by rw [Nat.mul_one]⟩⟩
  generalize RetSpoilI B n (.slice (some ⟨g, 0, none⟩) n cap) w = Q at hR ⊢
  obtain ⟨i0, hi, hz0, hz1, hz2⟩ := info_parts infoI64
  have Hi := Lib.hid hi
  have HC := Lib.hid hc
  clear hi hc
  go_enter Try.func19, Try.ntmps19
  try simp only [List.append_eq, List.cons_append, List.nil_append]
  go_wp2_with fail
  go_loopg [12] cap (fun m i wr => ∃ (k : Nat) (cur' : Array Value), k ≤ cap ∧ m = cap - k ∧ i = .int .i64 ((k : Nat) : Int) ∧ Hid (BlkT wr g 2 cur') ∧ cur'.size = cap ∧ Hid (Kp (· = g) w wr))
  case atStart => exact ⟨0, cur, Nat.zero_le _, rfl, rfl, HC, hcs, Kp.refl _ _⟩
  case round =>
    obtain ⟨k, cur', hk, rfl, rfl, hb, hcs', hkp⟩ := hrel
    by_cases hlt : k < cap
    case pos =>
      obtain ⟨u, hu⟩ : ∃ u, cur'[k]? = some u := ⟨_, Array.getElem?_eq_getElem (by omega)⟩
      have z0 := hb.out.cell k hu
      have zf := hb.out.open_ k
      have HB2 := Lib.hid (hb.out.set k (.int .i64 mark))
      have HK2 : Hid (Kp (· = g) w (wr.setCell ⟨g, k, none⟩ (.int .i64 mark))) := hkp.out.trans (Kp.set rfl)
      clear hu
      go_wp2_with fail
      go_roundg (cap - (k + 1))
      case measure => omega
      case rel => exact ⟨k + 1, _, by omega, rfl, by go_num, HB2, by rw [Array.size_setIfInBounds]; exact hcs', HK2⟩
    obtain rfl : k = cap := by omega
    have hbm : BlkT (wr.alloc (.cells #[.int .i64 mark, .int .i64 mark, .int .i64 mark] 2)) wr.heap.size 2 (ints [mark, mark, mark]) := BlkT.new wr _ _
    have gb : Gr wr (wr.alloc (.cells #[.int .i64 mark, .int .i64 mark, .int .i64 mark] 2)) := by go_grown
    have hb4 := hb.out.gr gb
    obtain ⟨v', w', cur2, hr, hb5, hcs5, hk5⟩ : ∃ v' w' cur2, (Builtin.append_ #[42, 42] 42 #[.slice (some ⟨g, 0, none⟩) n k, .slice (some ⟨wr.heap.size, 0, none⟩) 3 3]).run Try.prog (wr.alloc (.cells #[.int .i64 mark, .int .i64 mark, .int .i64 mark] 2)) = .ok v' w' ∧ BlkT w' g 2 cur2 ∧ cur2.size = k ∧ Kp (· = g) (wr.alloc (.cells #[.int .i64 mark, .int .i64 mark, .int .i64 mark] 2)) w' := by
      by_cases hroom : n + 3 ≤ k
      · obtain ⟨w5, h1, h2, h3⟩ := into_blk (P := Try.prog) _ 42 42 2 i0 Try.underlying42 Hi.out hz1 g n k cur' hb4 hcs' wr.heap.size [mark, mark, mark] hbm hroom
        exact ⟨_, w5, _, h1, h2, by simp only [List.size_toArray, List.length_append, List.length_take, List.length_drop, List.length_map, Array.length_toList, List.length_cons, List.length_nil, hcs']; omega, h3⟩
      · have hr := run_append_grow (P := Try.prog) (wr.alloc (.cells #[.int .i64 mark, .int .i64 mark, .int .i64 mark] 2)) 42 42 2 i0 _ Try.underlying42 Hi.out hz0 ⟨g, 0, none⟩ n k (cur'.toList.take n) (by rw [hz1, List.length_take, Array.length_toList, hcs', Nat.mul_one]; omega)
          (fun j u hu => by
            rw [Go.WideShapes.add_plain, Nat.zero_add]
            refine hb4.cell j ?_
            rw [List.getElem?_take] at hu
            split at hu
            · rw [← Array.getElem?_toList]; exact hu
            · cases hu) ⟨wr.heap.size, 0, none⟩ 3 3 ([mark, mark, mark].map (Value.int .i64)) (by rw [hz1]; rfl)
          (fun j u hu => by rw [Go.WideShapes.add_plain, Nat.zero_add]; exact hbm.cell j (by rw [ints, List.getElem?_toArray]; exact hu)) (by omega) (by omega) (growslice_fits (by omega) (by rw [hz2]; omega))
        exact ⟨_, _, cur', hr, hb4.gr (by go_grown), hcs', Kp.of_gr (by go_grown)⟩
    have Hr := Lib.hid hr
    have HB5 := Lib.hid hb5
    have HK5 : Hid (Kp (· = g) w w') := (hkp.out.trans (Kp.of_gr gb)).trans hk5
    clear hr hb5 hk5 hbm gb hb4
    go_wp2_with (first
      | (refine wpList_append_run _ rfl _ _ _ _ rfl _ _ (by rfl) (by rfl) _ _ Hr.out ?_)
      | fail)
    go_end0
    exact hR.out _ cur2 HK5.out HB5.out hcs5
theorem spoilI_calls {B n : Nat} {v : Value} {xs : List Value} (mark : Int) {w : World} (h : w.ownsRow B 2 1 v n xs) (hn : n ≤ 1048577) : Calls Try.prog 19 #[v, .int .i64 mark] w (RetSpoilI B n v w) := by
  rcases h.2 with ⟨rfl, rfl⟩ | ⟨g, cap, cur, rfl, h1, h2, h3, h4, h5, _⟩
  · exact spoilI_none B mark w
  · simp only [maxLen] at h4
    exact spoilI_some B g n cap cur mark w h1 h2 h3 (by omega) (by rw [h5, Nat.mul_one]) hn
end Go.Proofs.Ythncdmijledpnaa

namespace Go.Proofs.Ythncdmijledpnaa
open Go.RowKit Go.Maps Go.Lib

def T.at : T → List Int → Option T
  | t, [] => some t
  | t, i :: is => match (if 0 ≤ i then t.l[i.toNat]? else none) with
    | none => none
    | some x => T.at x is
theorem at_out {t : T} {i : Int} {is : List Int} (h : ¬ (0 ≤ i ∧ i < t.l.length)) : T.at t (i :: is) = none := by
  rw [T.at]
  by_cases h0 : 0 ≤ i
  · rw [if_pos h0, List.getElem?_eq_none (by omega)]
  · rw [if_neg h0]
theorem at_in {t : T} {i : Int} {is : List Int} (h0 : 0 ≤ i) (h : i.toNat < t.l.length) : T.at t (i :: is) = T.at t.l[i.toNat] is := by
  rw [T.at, if_pos h0, List.getElem?_eq_getElem h]
theorem erase_ls (t : Tm) : t.erase.l = Tm.eraseL t.l := by
  obtain ⟨k, n, s, p, c, l⟩ := t
  rw [Tm.erase]; rfl
theorem eraseL_map : ∀ l : List Tm, Tm.eraseL l = l.map Tm.erase
  | [] => by rw [Tm.eraseL]; rfl
  | x :: xs => by rw [Tm.eraseL, eraseL_map xs]; rfl
theorem eraseL_nth (l : List Tm) (i : Nat) (h : i < (Tm.eraseL l).length) (h' : i < l.length) : (Tm.eraseL l)[i] = l[i].erase := by
  simp only [eraseL_map, List.getElem_map]
theorem at_tm {t : Tm} {i : Int} {is : List Int} (h0 : 0 ≤ i) (h : i.toNat < t.l.length) : T.at t.erase (i :: is) = T.at t.l[i.toNat].erase is := by
  have hl : i.toNat < t.erase.l.length := by rw [erase_ls, Tm.eraseL_length]; exact h
  rw [at_in h0 hl]
  congr 1
  have : t.erase.l[i.toNat] = (Tm.eraseL t.l)[i.toNat]'(by rw [Tm.eraseL_length]; exact h) := by congr 1; exact erase_ls t
  rw [this, eraseL_nth]
theorem at_tmN {t : Tm} {j : Nat} {is : List Int} (h : j < t.l.length) : T.at t.erase ((j : Int) :: is) = T.at t.l[j].erase is := by
  have := at_tm (t := t) (i := (j : Int)) (is := is) (by omega) (by simpa using h)
  simpa using this

/-- At's answer. -/
def RetAt (t : T) (L : List Int) (w : World) (e : Ending) (w' : World) : Prop := Gr w w' ∧
  ((t.formed = false ∧ e = .returned (.tuple #[zeroTm.val, .int .i64 2])) ∨
   (t.formed = true ∧ T.at t L = none ∧ e = .returned (.tuple #[zeroTm.val, .int .i64 8])) ∨
   (t.formed = true ∧ ∃ (x : T) (g : Tm), T.at t L = some x ∧ e = .returned (.tuple #[g.val, .int .i64 0]) ∧ g.In w' ∧ g.erase = x ∧ g.On (w.heap.size ≤ ·) ∧ g.Whole w' ∧ g.Tree w.heap.size w'.heap.size))

set_option maxHeartbeats 4000000 in
set_option maxRecDepth 100000 in
theorem at_calls (t : Tm) (p : Option Addr) (c : Nat) (L : List Int) (w : World) (it : t.In w) (hL : IntSl w p c L) : Calls Try.prog 43 #[t.val, .slice p L.length c] w (RetAt t.erase L w) := by
  have It := Lib.hid it
  have HL := Lib.hid hL
  have hLc := hL.1
  have hLc2 := hL.2.1
  have Hfo := Lib.hid (fun (w' : World) (g : Gr w w') => show Calls Try.prog 96 #[.agg #[.int .i64 t.k, .int .i64 t.n, .string t.s, .slice t.p t.l.length t.c]] w' _ from formed_calls (t := t) (Tm.In_below g it))
  have hR1 : Hid (∀ w', t.erase.formed = false → Gr w w' → RetAt t.erase L w (.returned (.tuple #[.agg #[.int .i64 0, .int .i64 0, .string ⟨#[]⟩, .slice none 0 0], .int .i64 2])) w') := fun w' h1 h2 => ⟨h2, .inl ⟨h1, rfl⟩⟩
  have hR2 : Hid (∀ w', t.erase.formed = true → T.at t.erase L = none → Gr w w' → RetAt t.erase L w (.returned (.tuple #[.agg #[.int .i64 0, .int .i64 0, .string ⟨#[]⟩, .slice none 0 0], .int .i64 8])) w') := fun w' h1 h3 h2 => ⟨h2, .inr (.inl ⟨h1, h3, rfl⟩)⟩
  have hR3 : Hid (∀ (g : Tm) w', t.erase.formed = true → T.at t.erase L = some g.erase → Gr w w' → g.In w' → g.On (w.heap.size ≤ ·) → g.Whole w' → g.Tree w.heap.size w'.heap.size → RetAt t.erase L w (.returned (.tuple #[.agg #[.int .i64 g.k, .int .i64 g.n, .string g.s, .slice g.p g.l.length g.c], .int .i64 0])) w') := fun g w' h1 h3 h2 h4 h5 h6 h7 => ⟨h2, .inr (.inr ⟨h1, _, g, h3, rfl, h4, rfl, h5, h6, h7⟩)⟩
  generalize RetAt t.erase L w = Q at hR1 hR2 hR3 ⊢
  have HR1 := hR1
  have HR2 := hR2
  have HR3 := hR3
  clear it hL hR1 hR2 hR3
  rw [show t.val = .agg #[.int .i64 t.k, .int .i64 t.n, .string t.s, .slice t.p t.l.length t.c] from rfl]
  go_enter Try.func43, Try.ntmps43
  try simp only [List.append_eq, List.cons_append, List.nil_append]
  go_upto_region 1 with fail
  obtain ⟨h3, h4, gA⟩ := two_blocks w (.int .i64 t.k) (.int .i64 t.n) (.string t.s) (.slice t.p t.l.length t.c) (.int .i64 0) (.int .i64 0) (.string ⟨#[]⟩) (.slice none 0 0)
  have sA : ((w.alloc (.cells #[.int .i64 t.k, .int .i64 t.n, .string t.s, .slice t.p t.l.length t.c] 25)).alloc (.cells #[.int .i64 0, .int .i64 0, .string ⟨#[]⟩, .slice none 0 0] 25)).heap.size = w.heap.size + 2 := by simp
  generalize ((w.alloc (.cells #[.int .i64 t.k, .int .i64 t.n, .string t.s, .slice t.p t.l.length t.c] 25)).alloc (.cells #[.int .i64 0, .int .i64 0, .string ⟨#[]⟩, .slice none 0 0] 25)) = wA at *
  obtain ⟨⟨x0, x1, x2, x3⟩, _, _⟩ := h3.out.parts
  have Hfo2 := Lib.hid (Hfo.out wA gA)
  go_wp2_with fail
  refine Hfo2.out.mono ?_
  rintro e w1 ⟨rfl, g1⟩
  replace g1 : Gr wA w1 := g1
  clear x0 x1 x2 x3
  have gw1 : Gr w w1 := gA.trans g1
  by_cases hf : t.erase.formed = true
  · have Hf := Lib.hid hf
    rewrite [hf]
    clear hf
    go_wp2_with fail
    go_loopg [14] L.length (fun m i wr => ∃ (k : Nat) (x : Tm), k ≤ L.length ∧ m = L.length - k ∧ i = .int .i64 k ∧ Hid (x.In wr ∧ x.On (· < w.heap.size) ∧ x.erase.formed = true ∧ T.at t.erase L = T.at x.erase (L.drop k)) ∧ Hid (Blk4 wr w.heap.size (.int .i64 x.k) (.int .i64 x.n) (.string x.s) (.slice x.p x.l.length x.c)) ∧ Kp (· = w.heap.size) w1 wr)
    case atStart => exact ⟨0, t, Nat.zero_le _, rfl, rfl, ⟨Tm.In_below gw1 It.out, It.out.on, Hf.out, rfl⟩, h3.out.gr g1, Kp.refl _ _⟩
    case round =>
      obtain ⟨k, x, hk, rfl, rfl, hx, hb, kr⟩ := hrel
      have hsr : w.heap.size + 2 ≤ wr.heap.size := by have := g1.size; have := kr.size; omega
      have hkw : Kp (· = w.heap.size) w wr := (Kp.of_gr gw1).trans kr
      have gwr : Gr w wr := Below.trans gw1 (kr.below (B := w.heap.size) (fun b hb => by omega) gw1.size)
      have B4 := Lib.hid ((h4.out.gr g1).kp kr (by omega))
      obtain ⟨⟨x0, x1, x2, x3⟩, ⟨f0, f1, f2, f3⟩, _⟩ := hb.out.parts
      by_cases hlt : k < L.length
      · obtain ⟨b, o, rfl, hbl, hcells⟩ := HL.out.ptr (by omega)
        have hc := hkw.cell (hcells k _ (List.getElem?_eq_getElem hlt)) (by show ¬ b = _; omega)
        have hni : In64 L[k] := HL.out.2.2.1 _ (List.getElem_mem hlt)
        have hdr : L.drop k = L[k] :: L.drop (k + 1) := List.drop_eq_getElem_cons hlt
        have hx2 := hx.out
        rw [hdr] at hx2
        clear hx hdr
        generalize L[k] = n at *
        by_cases hin : 0 ≤ n ∧ n < x.l.length
        · obtain ⟨hn0, hn1⟩ := hin
          obtain ⟨j, rfl⟩ : ∃ j : Nat, n = j := ⟨n.toNat, by omega⟩
          have hnl : j < x.l.length := by omega
          obtain ⟨hxi, hxo, hxf, hxa⟩ := hx2
          rw [at_tmN hnl] at hxa
          have hxo' := hxo
          have hxi' := hxi
          obtain ⟨xk, xn, xs, xp, xc, xl⟩ := x
          simp only [Tm.k, Tm.n, Tm.s, Tm.p, Tm.c, Tm.l] at hb hnl hn1 hxa x0 x1 x2 x3 ⊢
          obtain ⟨b2, o2, rfl⟩ := hxi.sl.ptr (by omega)
          obtain ⟨⟨c0, c1, c2, c3⟩, hyi, _⟩ := hxi.sl.elem j hnl
          rw [Tm.In] at hxi'
          rw [Tm.On] at hxo'
          have hxlc := hxi'.2.2.2.1
          have hxlb := hxi'.2.2.2.2.1
          have hyo : xl[j].On (· < w.heap.size) := Tm.OnL_mem hxo'.2 _ (List.getElem_mem hnl)
          have hyf : xl[j].erase.formed = true := by
            have := formed_args' hxf
            rw [Tm.erase] at this
            exact formedL_nth xl _ hnl this
          have hb2 : b2 ≠ w.heap.size := by
            rcases hxo'.1 with h | ⟨b', o', he, h⟩
            · rw [h] at hnl; simp at hnl
            · cases he; omega
          have hHY := Lib.hid (And.intro hyi (And.intro hyo (And.intro hyf hxa)))
          have hge : ¬ (j : Int) < 0 := by omega
          have hlt2 : ¬ (xl.length : Int) ≤ j := by omega
          clear hyi hyo hyf hxa hxi hxo hxf hxi' hxo'
          generalize xl[j] = y at *
          go_wp2_with fail
          have kk := Kp.sets (C := (· = w.heap.size)) (w := wr) (b := w.heap.size) rfl (.int .i64 y.k) (.int .i64 y.n) (.string y.s) (.slice y.p y.l.length y.c)
          have hbb := Blk4.sets hb.out (.int .i64 y.k) (.int .i64 y.n) (.string y.s) (.slice y.p y.l.length y.c)
          go_roundg (L.length - (k + 1))
          case measure => omega
          case rel => exact ⟨k + 1, y, by omega, rfl, by go_num, ⟨kp_in hHY.out.1 hHY.out.2.1 (fun b hb e => by omega) kk, hHY.out.2.1, hHY.out.2.2.1, hHY.out.2.2.2⟩, hbb, kr.trans kk⟩
        · have hat : T.at t.erase L = none := by
            rw [hx2.2.2.2]
            refine at_out fun h => hin ?_
            rw [erase_ls, Tm.eraseL_length] at h
            exact h
          obtain ⟨⟨z0, z1, z2, z3⟩, ⟨r0, r1, r2, r3⟩, _⟩ := B4.out.parts
          have kk := Kp.sets (C := (· = w.heap.size + 1)) (w := wr) (b := w.heap.size + 1) rfl (.int .i64 0) (.int .i64 0) (.string ⟨#[]⟩) (.slice none 0 0)
          have Hb := Lib.hid (HR2.out _ Hf.out hat (Below.trans gwr (kk.below (B := w.heap.size) (fun b hb => by omega) gwr.size)))
          have hcase : n < 0 ∨ (¬ n < 0 ∧ (x.l.length : Int) ≤ n) := by omega
          clear hx2 hat hin kk
          rcases hcase with hneg | ⟨hneg, hge⟩
          · go_wp2_with fail
            exact bodyPost_ret (v := .tuple #[.agg #[.int .i64 0, .int .i64 0, .string ⟨#[]⟩, .slice none 0 0], .int .i64 8]) (by simp (maxDischargeDepth := 9) [results, Try.results43, go_sem, z0, z1, z2, z3]) rfl Hb.out
          · go_wp2_with fail
            exact bodyPost_ret (v := .tuple #[.agg #[.int .i64 0, .int .i64 0, .string ⟨#[]⟩, .slice none 0 0], .int .i64 8]) (by simp (maxDischargeDepth := 9) [results, Try.results43, go_sem, z0, z1, z2, z3]) rfl Hb.out
      · obtain rfl : k = L.length := by omega
        have hx2 := hx.out
        rw [List.drop_length, T.at] at hx2
        obtain ⟨hxi, hxo, hxf, hxa⟩ := hx2
        have Hc := Lib.hid (show Calls Try.prog 82 #[.agg #[.int .i64 x.k, .int .i64 x.n, .string x.s, .slice x.p x.l.length x.c]] wr _ from copyT_calls hxi hxf)
        have Hxa := Lib.hid hxa
        clear hx hxi hxo hxf hxa
        go_wp2_with fail
        refine Hc.out.mono ?_
        rintro e w5 ⟨g, gin, ge, rfl, g5, gon, gwh, gtr⟩
        rw [show g.val = .agg #[.int .i64 g.k, .int .i64 g.n, .string g.s, .slice g.p g.l.length g.c] from rfl]
        obtain ⟨⟨z0, z1, z2, z3⟩, ⟨r0, r1, r2, r3⟩, _⟩ := (B4.out.gr g5).parts
        have kk := Kp.sets (C := (· = w.heap.size + 1)) (w := w5) (b := w.heap.size + 1) rfl (.int .i64 g.k) (.int .i64 g.n) (.string g.s) (.slice g.p g.l.length g.c)
        have hs5 : wr.heap.size ≤ w5.heap.size := g5.size
        have gw5 : Gr w w5 := gwr.trans g5
        have Hb := Lib.hid (HR3.out g _ Hf.out (by rw [Hxa.out, ge]) (Below.trans gw5 (kk.below (B := w.heap.size) (fun b hb => by omega) gw5.size)) (kp_in gin gon (fun b hb e => by have hb' : wr.heap.size ≤ b := hb; omega) kk) (gon.mono fun b hb => by have hb' : wr.heap.size ≤ b := hb; omega)
          (Tm.Whole.same (S := fun b => wr.heap.size ≤ b ∧ b < w5.heap.size) (fun b hb => kk.block b hb.2 (by have := hb.1; omega)) (Tm.On.and gon gin.on) gwh) (gtr.mono (by omega) kk.size))
        clear x0 x1 x2 x3 f0 f1 f2 f3 kk gin ge gon gwh gtr
        go_wp2_with fail
        exact bodyPost_ret (v := .tuple #[.agg #[.int .i64 g.k, .int .i64 g.n, .string g.s, .slice g.p g.l.length g.c], .int .i64 0]) (by simp (maxDischargeDepth := 9) [results, Try.results43, go_sem, z0, z1, z2, z3]) rfl Hb.out
  · have hf0 : t.erase.formed = false := Bool.eq_false_iff.2 hf
    rewrite [hf0]
    obtain ⟨⟨z0, z1, z2, z3⟩, ⟨r0, r1, r2, r3⟩, _⟩ := (h4.out.gr g1).parts
    have kk := Kp.sets (C := (· = w.heap.size + 1)) (w := w1) (b := w.heap.size + 1) rfl (.int .i64 0) (.int .i64 0) (.string ⟨#[]⟩) (.slice none 0 0)
    have Hb := Lib.hid (HR1.out _ hf0 (Below.trans gw1 (kk.below (B := w.heap.size) (fun b hb => by omega) gw1.size)))
    clear hf hf0 kk
    go_wp2_with fail
    exact bodyPost_ret (v := .tuple #[.agg #[.int .i64 0, .int .i64 0, .string ⟨#[]⟩, .slice none 0 0], .int .i64 2]) (by simp (maxDischargeDepth := 9) [results, Try.results43, go_sem, z0, z1, z2, z3]) rfl Hb.out
end Go.Proofs.Ythncdmijledpnaa

namespace Go.Proofs.Ythncdmijledpnaa
open Go.RowKit Go.Maps Go.Lib

def Tm.at : Tm → List Int → Option Tm
  | t, [] => some t
  | t, i :: is => match (if 0 ≤ i then t.l[i.toNat]? else none) with
    | none => none
    | some x => Tm.at x is
theorem tmat_erase : ∀ (L : List Int) (t : Tm), T.at t.erase L = (Tm.at t L).map Tm.erase
  | [], t => by rw [T.at, Tm.at]; rfl
  | i :: is, t => by
    by_cases h : 0 ≤ i ∧ i.toNat < t.l.length
    · rw [at_tm h.1 h.2, Tm.at, if_pos h.1, List.getElem?_eq_getElem h.2, tmat_erase is]
    · rw [at_out (fun h' => h ⟨h'.1, by rw [erase_ls, Tm.eraseL_length] at h'; omega⟩), Tm.at]
      by_cases h0 : 0 ≤ i
      · rw [if_pos h0, List.getElem?_eq_none (by omega)]; rfl
      · rw [if_neg h0]; rfl
theorem tmat_step {t : Tm} {j : Nat} {is : List Int} (h : j < t.l.length) : Tm.at t ((j : Int) :: is) = Tm.at t.l[j] is := by
  rw [Tm.at, if_pos (by omega), Int.toNat_natCast, List.getElem?_eq_getElem h]
theorem tmat_out {t : Tm} {i : Int} {is : List Int} (h : ¬ (0 ≤ i ∧ i < t.l.length)) : Tm.at t (i :: is) = none := by
  rw [Tm.at]
  by_cases h0 : 0 ≤ i
  · rw [if_pos h0, List.getElem?_eq_none (by omega)]
  · rw [if_neg h0]
end Go.Proofs.Ythncdmijledpnaa
