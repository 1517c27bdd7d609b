/-
  slices.Insert at []int in general: the row that the caller owns.
  A base in general: what it holds, and that it stays so.
  The rely rule with a tail, for a region some of whose operations turn more than new memory: R is what any operation keeps; J what is known by which operations are over.
-/
import Derived.Test.YtjdoflfdlhpbmaaGreatBF13
import Derived.Test.YtjdoflfdlhpbmaaGreatBF12
import Derived.Test.YtjdoflfdlhpbmaaGreatBF02
namespace Go.Proofs.YtjdoflfdlhpbmaaGreat
open Go.RowKit Go.Maps Go.Lib

theorem heap_setCells {g : Nat} {e : TypeId} {fz : Nat × Nat} : ∀ (vs : List Value) (o : Nat) (w : World) (cur : Array Value), w.heap[g]? = some (.cells cur e fz) →
    ∃ cur', (w.setCells g o vs).heap[g]? = some (.cells cur' e fz) ∧ cur'.size = cur.size ∧ ∀ k, cur'[k]? = if o ≤ k ∧ k < o + vs.length ∧ k < cur.size then vs[k - o]? else cur[k]?
  | [], o, w, cur, h => ⟨cur, h, rfl, fun k => by rw [if_neg (by simp; omega)]⟩
  | v :: r, o, w, cur, h => by
    have h1 : (w.setCell ⟨g, o, none⟩ v).heap[g]? = some (.cells (cur.setIfInBounds o v) e fz) := by
      simp [World.setCell, Array.getElem?_modify, h]
    obtain ⟨cur', h2, h3, h4⟩ := heap_setCells r (o + 1) _ _ h1
    refine ⟨cur', h2, by simpa using h3, fun k => ?_⟩
    rw [h4 k, Array.getElem?_setIfInBounds, Array.size_setIfInBounds]
    by_cases hk : o = k
    · subst hk
      rw [if_neg (by omega), if_pos rfl]
      by_cases hs : o < cur.size
      · rw [if_pos hs, if_pos ⟨Nat.le_refl _, by simp, hs⟩, Nat.sub_self]; rfl
      · rw [if_neg hs, if_neg (by omega), Array.getElem?_eq_none (by omega)]
    · rw [if_neg hk]
      by_cases hc : o + 1 ≤ k ∧ k < o + 1 + r.length ∧ k < cur.size
      · rw [if_pos hc, if_pos ⟨by omega, by simp; omega, hc.2.2⟩, show k - o = (k - (o + 1)) + 1 by omega, List.getElem?_cons_succ]
      · rw [if_neg hc, if_neg (by simp; omega)]

theorem owns_of {w : World} {g cap n B : Nat} {e : TypeId} {cur : Array Value} {xs : List Value} (hB : B ≤ g) (hg : w.heap[g]? = some (.cells cur e (0, 0))) (hn : n ≤ cap) (hc : cap ≤ maxLen)
    (hs : cur.size = cap) (hl : xs.length = n) (hx : ∀ k, k < n → cur[k]? = xs[k]?) : w.ownsRow B e 1 (.slice (some ⟨g, 0, none⟩) n cap) n xs := by
  refine ⟨by omega, .inr ⟨g, cap, cur, rfl, hB, hg, hn, hc, by omega, ?_⟩⟩
  apply List.ext_getElem?
  intro k
  rw [List.getElem?_take, Nat.mul_one, Array.getElem?_toList]
  by_cases hk : k < n
  · rw [if_pos hk, hx k hk]
  · rw [if_neg hk, List.getElem?_eq_none (by omega)]

theorem ins_at (cs : List Value) (x : Value) (i : Nat) (hi : i ≤ cs.length) (k : Nat) :
    (cs.take i ++ x :: cs.drop i)[k]? = if k < i then cs[k]? else if k = i then some x else cs[k - 1]? := by
  have hl : (cs.take i).length = i := by rw [List.length_take]; omega
  by_cases hk : k < i
  · rw [if_pos hk, List.getElem?_append_left (by omega), List.getElem?_take, if_pos hk]
  · rw [if_neg hk, List.getElem?_append_right (by omega), hl]
    by_cases he : k = i
    · rw [if_pos he, he, Nat.sub_self]; rfl
    · rw [if_neg he, show k - i = (k - 1 - i) + 1 by omega, List.getElem?_cons_succ, List.getElem?_drop, show i + (k - 1 - i) = k - 1 by omega]

theorem ins_len (cs : List Value) (x : Value) (i : Nat) (hi : i ≤ cs.length) : (cs.take i ++ x :: cs.drop i).length = cs.length + 1 := by
  rw [List.length_append, List.length_cons, List.length_take, List.length_drop]; omega

theorem Kp.cells {C : Nat → Prop} {g : Nat} (hg : C g) : ∀ (vs : List Value) (o : Nat) (w : World), Kp C w (w.setCells g o vs)
  | [], _, w => Kp.refl _ w
  | _ :: r, o, _ => (Kp.set hg).trans (Kp.cells hg r (o + 1) _)

theorem zeros_size (n : Nat) : (Builtin.zeroCells (Value.int .i64 0).cells n).size = n := by
  simp [Builtin.zeroCells, Value.cells]

theorem owns_grown {w : World} {B n cap : Nat} {e : TypeId} {xs : List Value} (hB : B ≤ w.heap.size) (hl : xs.length = n) (hn : n ≤ cap) (hc : cap ≤ maxLen) :
    (w.drew.alloc (.cells (xs.toArray ++ Builtin.zeroCells (Value.int .i64 0).cells (cap - n)) e)).ownsRow B e 1 (.slice (some ⟨w.heap.size, 0, none⟩) n cap) n xs := by
  have hnew : (w.drew.alloc (.cells (xs.toArray ++ Builtin.zeroCells (Value.int .i64 0).cells (cap - n)) e)).heap[w.heap.size]? = _ := heap_alloc_new w.drew _
  refine owns_of hB hnew hn hc (by rw [Array.size_append, zeros_size, List.size_toArray]; omega) hl (fun k hk => ?_)
  rw [Array.getElem?_append_left (by rw [List.size_toArray]; omega), List.getElem?_toArray]

/-- What slices.Insert answers where the row is the caller's. -/
def Inserted (B : Nat) (v : Value) (cs : List Value) (w : World) : Ending → World → Prop := fun e w' =>
  ∃ v', e = .returned v' ∧ w'.ownsRow B 3 1 v' cs.length cs ∧ Kp (fun b => v.ownBlock = some b) w w' ∧ (v'.ownBlock = v.ownBlock ∨ v'.ownBlock = some w.heap.size)

theorem insert_gen (B : Nat) (v : Value) (L : List Int) (i vb : Nat) (x : Int) (w : World) (hown : w.ownsRow B 3 1 v L.length (L.map (.int .i64))) (hi : i ≤ L.length) (hB : B ≤ w.heap.size)
    (hvb : w.heap[vb]? = some (.cells #[.int .i64 x] 3 (0, 0))) (hne : v.ownBlock ≠ some vb) (hbig : (L.length + 1) * 8 ≤ 140737488355328) :
    Calls Tryz.prog 29 #[v, .int .i64 i, .slice (some ⟨vb, 0, none⟩) 1 1] w
      (Inserted B v ((L.take i ++ x :: L.drop i).map (.int .i64)) w) := by
  have hmap : (L.take i ++ x :: L.drop i).map (Value.int .i64) = (L.map (.int .i64)).take i ++ (.int .i64 x) :: (L.map (.int .i64)).drop i := by simp
  rw [hmap]
  have h1c : ∀ u ∈ L.map (Value.int .i64), u.oneCell' = true := by
    intro u hu
    obtain ⟨y, _, rfl⟩ := List.mem_map.1 hu
    rfl
  have hll : (L.map (Value.int .i64)).length = L.length := List.length_map ..
  generalize L.map (Value.int .i64) = cs at *
  rw [← hll] at hown hi hbig
  clear hmap hll
  have h1v : ∀ u ∈ [Value.int .i64 x], u.oneCell' = true := by
    intro u hu
    obtain rfl := List.mem_singleton.1 hu
    rfl
  have hvs : ∀ j u, [Value.int .i64 x][j]? = some u → w.cell? ⟨vb, 0 + j, none⟩ = some u := by
    intro j u hu
    match j, hu with
    | 0, hu => cases hu; simp [World.cell?, hvb]
    | j + 1, hu => simp at hu
  have hil := ins_len cs (.int .i64 x) i hi
  have hia := ins_at cs (.int .i64 x) i hi
  generalize hxs : cs.take i ++ (Value.int .i64 x) :: cs.drop i = xs at *
  rcases hown.2 with ⟨rfl, h0⟩ | ⟨g, cap, cur, rfl, hbg, hg, hnc, hcm, hsz, htk⟩
  · -- nothing is there yet
    obtain rfl : cs = [] := List.length_eq_zero_iff.1 h0
    obtain rfl : i = 0 := by simpa using hi
    refine (Any2.slices_Insert_int_end_grow insLays none 0 0 vb 0 1 1 [] [.int .i64 x] w (by decide) (Nat.le_refl _) (by decide) (by decide) rfl rfl (fun _ => rfl) (fun a ha => by cases ha) hvs h1v).mono ?_
    rintro e w' ⟨rfl, rfl⟩
    have hge := grownCap_ge w (0 + 1) 0 3
    have hle := grownCap_le_maxLen w (0 + 1) 0 3 (by decide)
    have hrow := owns_grown (w := w) (B := B) (e := 3) (xs := xs) (n := 0 + 1) hB hil hge hle
    rw [← hxs] at hrow ⊢
    exact ⟨_, rfl, hrow, Kp.of_gr ((Below.refl _ w).drew.alloc (Nat.le_refl _) _), .inr rfl⟩
  · have hcell : ∀ j u, cs[j]? = some u → w.cell? ⟨g, 0 + j, none⟩ = some u := by
      intro j u hu
      have hj := (List.getElem?_eq_some_iff.1 hu).1
      simp only [World.cell?, hg]
      rw [← htk, List.getElem?_take, if_pos (by omega), Array.getElem?_toList] at hu
      simpa using hu
    have hcur : ∀ k, k < cs.length → cur[k]? = cs[k]? := by
      intro k hk
      rw [← htk, List.getElem?_take, if_pos (by omega), Array.getElem?_toList]
    have hthere : ∀ j, j < cap → (w.cell? ⟨g, j, none⟩).isSome = true := by
      intro j hj
      simp [World.cell?, hg, Array.getElem?_eq_getElem (show j < cur.size by omega)]
    have hfz : ∀ j, w.frozen? ⟨g, j, none⟩ = false := by
      intro j
      simp [World.frozen?, hg]
    have hgv : vb ≠ g := fun h => hne (by rw [h]; rfl)
    have hc63 : cap ≤ 9223372036854775807 := hcm
    by_cases hroom : cs.length + 1 ≤ cap
    · by_cases hlt : i < cs.length
      · refine (Any2.slices_Insert_int_shift insLays g 0 cs.length cap i vb 0 1 1 cs [.int .i64 x] w hlt (by decide) hroom hc63 hgv rfl rfl hcell (fun j hj => by rw [Nat.zero_add]; exact hthere j (by omega)) (fun j _ => hfz _) hvs h1c h1v
          3 3 1 cur.size (by simp [World.shape?, hvb]) (by simp [World.shape?, hg]) (by omega) (by simp [World.frozen?, hvb]) (by simp [World.frozen?, hvb])).mono ?_
        rintro e w' ⟨rfl, rfl⟩
        obtain ⟨cur1, h1, h2, h3⟩ := heap_setCells (g := g) (e := 3) (fz := (0, 0)) (cs.drop i) (0 + (i + 1)) w.drew cur hg
        obtain ⟨cur2, k1, k2, k3⟩ := heap_setCells (g := g) (e := 3) (fz := (0, 0)) [.int .i64 x] (0 + i) _ cur1 h1
        have hdl : (cs.drop i).length = cs.length - i := List.length_drop ..
        have hrow : World.ownsRow ((w.drew.setCells g (0 + (i + 1)) (cs.drop i)).setCells g (0 + i) [.int .i64 x]) B 3 1 (.slice (some ⟨g, 0, none⟩) (cs.length + 1) cap) (cs.length + 1) xs := by
          refine owns_of hbg k1 hroom hcm (by omega) hil (fun k hk => ?_)
          rw [k3 k, h3 k, hia k, hdl, List.length_singleton]
          by_cases hki : k < i
          · rw [if_neg (by omega), if_neg (by omega), if_pos hki, hcur k (by omega)]
          · by_cases hke : k = i
            · rw [if_pos (by omega), if_neg hki, if_pos hke, hke]; simp
            · rw [if_neg (by omega), if_pos (by omega), if_neg hki, if_neg hke, List.getElem?_drop, show i + (k - (0 + (i + 1))) = k - 1 by omega]
        exact ⟨_, rfl, hil ▸ hrow, (Kp.of_gr (Gr.drewN (Gr.rfl' w) 1)).trans ((Kp.cells (C := fun b => (Value.slice (some ⟨g, 0, none⟩) cs.length cap).ownBlock = some b) (g := g) rfl _ _ _).trans (Kp.cells (C := fun b => (Value.slice (some ⟨g, 0, none⟩) cs.length cap).ownBlock = some b) (g := g) rfl _ _ _)), .inl rfl⟩
      · obtain rfl : i = cs.length := by omega
        refine (Any2.slices_Insert_int_end_room insLays g 0 cs.length cap vb 0 1 1 [.int .i64 x] w (by decide) hroom hc63 rfl (fun j hj => hthere _ (by omega)) (fun j _ => hfz _) hvs h1v).mono ?_
        rintro e w' ⟨rfl, rfl⟩
        obtain ⟨cur2, k1, k2, k3⟩ := heap_setCells (g := g) (e := 3) (fz := (0, 0)) [.int .i64 x] (0 + cs.length) _ cur hg
        have hrow : World.ownsRow (w.setCells g (0 + cs.length) [.int .i64 x]) B 3 1 (.slice (some ⟨g, 0, none⟩) (cs.length + 1) cap) (cs.length + 1) xs := by
          refine owns_of hbg k1 hroom hcm (by omega) hil (fun k hk => ?_)
          rw [k3 k, hia k, List.length_singleton]
          by_cases hki : k < cs.length
          · rw [if_neg (by omega), if_pos hki, hcur k hki]
          · rw [if_pos (by omega), if_neg hki, if_pos (by omega), show k - (0 + cs.length) = 0 by omega]; rfl
        exact ⟨_, rfl, hil ▸ hrow, Kp.cells (C := fun b => (Value.slice (some ⟨g, 0, none⟩) cs.length cap).ownBlock = some b) (g := g) rfl _ _ _, .inl rfl⟩
    · have hge := grownCap_ge w (cs.length + 1) cap 3
      have hle := grownCap_le_maxLen w (cs.length + 1) cap 3 (by simp only [maxLen]; omega)
      by_cases hlt : i < cs.length
      · refine (Any2.slices_Insert_int_grow insLays g 0 cs.length cap i vb 0 1 1 cs [.int .i64 x] w hlt (by decide) hnc (by omega) hbig rfl rfl hcell hvs h1c h1v).mono ?_
        rintro e w' ⟨rfl, rfl⟩
        simp only [show insRen.t 3 = 3 from rfl]
        have hnew := heap_alloc_new w (.cells ((cs.take i).toArray ++ Builtin.zeroCells (Value.int .i64 0).cells (cs.length + 1 - i) ++ Builtin.zeroCells (Value.int .i64 0).cells (grownCap w (cs.length + 1) cap 3 - (cs.length + 1))) 3)
        have hs0 : ((cs.take i).toArray ++ Builtin.zeroCells (Value.int .i64 0).cells (cs.length + 1 - i) ++ Builtin.zeroCells (Value.int .i64 0).cells (grownCap w (cs.length + 1) cap 3 - (cs.length + 1))).size = grownCap w (cs.length + 1) cap 3 := by
          rw [Array.size_append, Array.size_append, zeros_size, zeros_size, List.size_toArray, List.length_take]; omega
        have hg0 : ∀ k, k < i → ((cs.take i).toArray ++ Builtin.zeroCells (Value.int .i64 0).cells (cs.length + 1 - i) ++ Builtin.zeroCells (Value.int .i64 0).cells (grownCap w (cs.length + 1) cap 3 - (cs.length + 1)))[k]? = cs[k]? := by
          intro k hk
          rw [Array.getElem?_append_left (by rw [Array.size_append, List.size_toArray, List.length_take]; omega), Array.getElem?_append_left (by rw [List.size_toArray, List.length_take]; omega), List.getElem?_toArray, List.getElem?_take, if_pos hk]
        have hkp : Kp (fun b => b = w.heap.size) w (w.alloc (.cells ((cs.take i).toArray ++ Builtin.zeroCells (Value.int .i64 0).cells (cs.length + 1 - i) ++ Builtin.zeroCells (Value.int .i64 0).cells (grownCap w (cs.length + 1) cap 3 - (cs.length + 1))) 3)) :=
          Kp.of_gr ((Below.refl _ w).alloc (Nat.le_refl _) _)
        generalize ((cs.take i).toArray ++ Builtin.zeroCells (Value.int .i64 0).cells (cs.length + 1 - i) ++ Builtin.zeroCells (Value.int .i64 0).cells (grownCap w (cs.length + 1) cap 3 - (cs.length + 1))) = cur0 at *
        obtain ⟨cur1, h1, h2, h3⟩ := heap_setCells (g := w.heap.size) (e := 3) (fz := (0, 0)) [.int .i64 x] i (w.alloc (.cells cur0 3)).drew cur0 hnew
        obtain ⟨cur2, k1, k2, k3⟩ := heap_setCells (g := w.heap.size) (e := 3) (fz := (0, 0)) (cs.drop i) (i + 1) ((w.alloc (.cells cur0 3)).drew.setCells w.heap.size i [.int .i64 x]).drew cur1 h1
        have hdl : (cs.drop i).length = cs.length - i := List.length_drop ..
        have hrow : World.ownsRow ((((w.alloc (.cells cur0 3)).drew.setCells w.heap.size i [.int .i64 x]).drew).setCells w.heap.size (i + 1) (cs.drop i)) B 3 1 (.slice (some ⟨w.heap.size, 0, none⟩) (cs.length + 1) (grownCap w (cs.length + 1) cap 3)) (cs.length + 1) xs := by
          refine owns_of hB k1 hge hle (by omega) hil (fun k hk => ?_)
          rw [k3 k, h3 k, hia k, hdl, List.length_singleton]
          by_cases hki : k < i
          · rw [if_neg (by omega), if_neg (by omega), if_pos hki, hg0 k hki]
          · by_cases hke : k = i
            · rw [if_neg (by omega), if_pos (by omega), if_neg hki, if_pos hke, hke, Nat.sub_self]; rfl
            · rw [if_pos (by omega), if_neg hki, if_neg hke, List.getElem?_drop, show i + (k - (i + 1)) = k - 1 by omega]
        have hk2 : Kp (fun b => b = w.heap.size) w ((((w.alloc (.cells cur0 3)).drew.setCells w.heap.size i [.int .i64 x]).drew).setCells w.heap.size (i + 1) (cs.drop i)) :=
          hkp.trans ((Kp.of_gr (Gr.drewN (Gr.rfl' _) 1)).trans ((Kp.cells (C := fun b => b = w.heap.size) (g := w.heap.size) rfl _ _ _).trans ((Kp.of_gr (Gr.drewN (Gr.rfl' _) 1)).trans (Kp.cells (C := fun b => b = w.heap.size) (g := w.heap.size) rfl _ _ _))))
        exact ⟨_, rfl, by rw [hil]; exact hrow, hk2.weaken (fun b hb he => absurd he (Nat.ne_of_lt hb)), .inr rfl⟩
      · obtain rfl : i = cs.length := by omega
        refine (Any2.slices_Insert_int_end_grow insLays (some ⟨g, 0, none⟩) cs.length cap vb 0 1 1 cs [.int .i64 x] w (by decide) hnc (by omega) hbig rfl rfl (fun h => by cases h) (fun a ha j u hu => by cases ha; rw [Addr.add_lit]; exact hcell j u hu) hvs h1v).mono ?_
        rintro e w' ⟨rfl, rfl⟩
        have hrow := owns_grown (w := w) (B := B) (e := 3) (xs := xs) (n := cs.length + 1) hB hil hge hle
        have hx' : xs = cs ++ [.int .i64 x] := by rw [← hxs]; simp
        rw [hx'] at hrow hil ⊢
        exact ⟨_, rfl, by rw [hil]; exact hrow, Kp.of_gr ((Below.refl _ w).drew.alloc (Nat.le_refl _) _), .inr rfl⟩

end Go.Proofs.YtjdoflfdlhpbmaaGreat

namespace Go.Proofs.YtjdoflfdlhpbmaaGreat
open Go.RowKit Go.Maps Go.Lib

theorem hcells_nine (x : Hd) : x.cells.length = 9 := rfl
theorem hcells_len : ∀ l : List Hd, (l.flatMap Hd.cells).length = l.length * 9
  | [] => rfl
  | x :: xs => by rw [List.flatMap_cons, List.length_append, hcells_len xs, List.length_cons, hcells_nine]; omega
theorem hcells_at : ∀ {l : List Hd} {i : Nat} {x : Hd}, l[i]? = some x → ∀ j, j < 9 → (l.flatMap Hd.cells)[i * 9 + j]? = x.cells[j]?
  | y :: ys, 0, x, h, j, hj => by
    simp only [List.getElem?_cons_zero, Option.some.injEq] at h
    subst h
    rw [List.flatMap_cons, Nat.zero_mul, Nat.zero_add, List.getElem?_append_left (by rw [hcells_nine]; exact hj)]
  | y :: ys, i + 1, x, h, j, hj => by
    simp only [List.getElem?_cons_succ] at h
    rw [List.flatMap_cons, List.getElem?_append_right (by rw [hcells_nine]; omega), hcells_nine, show (i + 1) * 9 + j - 9 = i * 9 + j by omega]
    exact hcells_at h j hj
theorem hcells_one (l : List Hd) : ∀ u ∈ l.flatMap Hd.cells, u.oneCell' = true := by
  intro u hu
  obtain ⟨x, _, hx⟩ := List.mem_flatMap.1 hu
  exact heldCells_one _ _ _ u hx

/-- A list of clauses as a slice and its cells. -/
theorem HSl.rw {S : Nat → Prop} {w : World} {p : Option Addr} {c : Nat} {L : List Hd} (h : HSl S w p c L) : Rw.In 9 w ⟨p, L.length, c, L.flatMap Hd.cells⟩ := by
  refine ⟨hcells_len L, hcells_one L, ?_⟩
  rcases h.row with rfl | ⟨b, o, hp, _, _, hr⟩
  · exact .inl rfl
  · refine .inr ⟨b, o, hp, fun j u hu => ?_⟩
    have hj : j < L.length * 9 := by rw [← hcells_len L]; exact (List.getElem?_eq_some_iff.1 hu).1
    have hx : L[j / 9]? = some L[j / 9] := List.getElem?_eq_getElem (by omega)
    have h9 := hcells_at hx (j % 9) (Nat.mod_lt _ (by decide))
    rw [show j / 9 * 9 + j % 9 = j by omega] at h9
    have := hr (j / 9) _ hx (j % 9) u (h9.symm.trans hu)
    rwa [show o + j / 9 * 9 + j % 9 = o + j by omega] at this

/-- A row of one's own as a list of clauses. -/
theorem HSl.of_own {S : Nat → Prop} {w : World} {base : Nat} {v : Value} {L : List Hd} (h : w.ownsRow base 73 9 v L.length (L.flatMap Hd.cells)) (hS : ∀ g, base ≤ g → g < w.heap.size → S g) (hbd : L.length * 120 ≤ 140737488351232)
    (hels : ∀ x ∈ L, x.h.In w ∧ x.b.In w ∧ x.h.erase.formed = true ∧ x.b.erase.formed = true ∧ x.h.On S ∧ x.b.On S) : ∃ p c, v = .slice p L.length c ∧ HSl S w p c L := by
  rcases h.2 with ⟨rfl, h0⟩ | ⟨g, cap, cur, rfl, hg, hb, hn, hc, _⟩
  · rw [h0]
    exact ⟨none, 0, rfl, ⟨by omega, hbd, by omega, .inl (List.eq_nil_of_length_eq_zero h0), hels⟩⟩
  · refine ⟨_, _, rfl, ⟨hn, hbd, by simp only [maxLen] at hc; omega, .inr ⟨g, 0, rfl, hS g hg (Array.getElem?_eq_some_iff.1 hb).1, (Array.getElem?_eq_some_iff.1 hb).1, fun i x hx j u hu => ?_⟩, hels⟩⟩
    have hj : j < 9 := by rw [← hcells_nine x]; exact (List.getElem?_eq_some_iff.1 hu).1
    have := World.ownsRow.cells (g := g) h rfl (i * 9 + j) u ((hcells_at hx j hj).trans hu)
    rwa [Go.WideShapes.add_plain, ← Nat.add_assoc] at this
theorem HSl.mono {S S' : Nat → Prop} {w : World} {p : Option Addr} {c : Nat} {L : List Hd} (h : HSl S w p c L) (hS : ∀ b, S b → b < w.heap.size → S' b) : HSl S' w p c L := by
  refine ⟨h.len, h.bd, h.cap, h.row.imp id fun ⟨b, o, h1, h2, h3, h4⟩ => ⟨b, o, h1, hS b h2 h3, h3, h4⟩, fun x hx => ?_⟩
  obtain ⟨h1, h2, h3, h4, h5, h6⟩ := h.els x hx
  exact ⟨h1, h2, h3, h4, (Tm.On.and h5 h1.on).mono fun b hb => hS b hb.1 hb.2, (Tm.On.and h6 h2.on).mono fun b hb => hS b hb.1 hb.2⟩

/-- What a base knows: the last id, all ids in their order, the clauses of each predicate, the predicate of each id. -/
structure BSt where
  last : Int
  all : List Int
  pr : ByteArray × Int → Option (List HdT)
  wh : Int → Option (ByteArray × Int)

/-- The blocks that a base writes to. -/
def Mut (B M1 M2 : Nat) (va : Value) : Nat → Prop := fun b => b = B ∨ b = M1 ∨ b = M2 ∨ va.ownBlock = some b

def rowIs (S : Nat → Prop) (w : World) (v : Option Value) : Option (List HdT) → Prop
  | none => v = none
  | some L => ∃ (p : Option Addr) (c : Nat) (M : List Hd), v = some (.slice p M.length c) ∧ HSl S w p c M ∧ M.map Hd.er = L
theorem rowIs.kp {C S : Nat → Prop} {w w' : World} {v : Option Value} {r : Option (List HdT)} (h : rowIs S w v r) (hK : Kp C w w') (hC : ∀ b, S b → ¬ C b) : rowIs S w' v r := by
  cases r with
  | none => exact h
  | some L => obtain ⟨p, c, M, h1, h2, h3⟩ := h; exact ⟨p, c, M, h1, h2.kp hK hC, h3⟩
theorem rowIs.mono {S S' : Nat → Prop} {w : World} {v : Option Value} {r : Option (List HdT)} (h : rowIs S w v r) (hS : ∀ b, S b → b < w.heap.size → S' b) : rowIs S' w v r := by
  cases r with
  | none => exact h
  | some L => obtain ⟨p, c, M, h1, h2, h3⟩ := h; exact ⟨p, c, M, h1, h2.mono hS, h3⟩

/-- A base: all that it holds lies on S, apart from what it writes to. -/
structure BaseG (S : Nat → Prop) (w : World) (B M1 M2 : Nat) (va : Value) (st : BSt) : Prop where
  blk : BlkT w B 57 #[.int .i64 st.last, va, .map (some M1), .map (some M2)]
  all : w.ownsRow 0 3 1 va st.all.length (st.all.map (.int .i64))
  m1 : ∃ g, GMap 68 kPred w M1 g ∧ ∀ k, rowIs S w (g k) (st.pr k)
  m2 : GMap 3 kInt w M2 fun n => (st.wh n).map kPred
  whk : ∀ n k, st.wh n = some k → k.1.size ≤ 1000 ∧ 0 ≤ k.2 ∧ k.2 ≤ 1000
  wha : ∀ n k, st.wh n = some k → n ∈ st.all
  hds : ∀ k L, st.pr k = some L → ∀ x ∈ L, (x.h.l.length : Int) = k.2
  bdp : ∀ k L, st.pr k = some L → (L.length : Int) ≤ st.last
  bda : (st.all.length : Int) ≤ st.last
  n1 : M1 ≠ B
  n2 : M2 ≠ B
  n3 : M1 ≠ M2
  na : va.ownBlock ≠ some B ∧ va.ownBlock ≠ some M1 ∧ va.ownBlock ≠ some M2
  sep : ∀ b, S b → ¬ Mut B M1 M2 va b

theorem ownsRow_kpv {C : Nat → Prop} {w w' : World} {base : Nat} {e : TypeId} {size : Nat} {v : Value} {n : Nat} {xs : List Value} (h : w.ownsRow base e size v n xs) (hK : Kp C w w') (hC : ∀ b, v.ownBlock = some b → ¬ C b) : w'.ownsRow base e size v n xs := by
  refine ⟨h.1, h.2.imp id ?_⟩
  rintro ⟨g, cap, cur, rfl, h2, h3, h4⟩
  exact ⟨g, cap, cur, rfl, h2, by rw [hK.block g (Array.getElem?_eq_some_iff.1 h3).1 (hC g rfl)]; exact h3, h4⟩
theorem ownsRow_lt {w : World} {base : Nat} {e : TypeId} {size : Nat} {v : Value} {n : Nat} {xs : List Value} (h : w.ownsRow base e size v n xs) {b : Nat} (hb : v.ownBlock = some b) : b < w.heap.size := by
  rcases h.2 with ⟨rfl, _⟩ | ⟨g, cap, cur, rfl, _, h3, _⟩
  · cases hb
  · cases hb; exact (Array.getElem?_eq_some_iff.1 h3).1

theorem BaseG.kp {C S : Nat → Prop} {w w' : World} {B M1 M2 : Nat} {va : Value} {st : BSt} (h : BaseG S w B M1 M2 va st) (hK : Kp C w w') (hC : ∀ b, Mut B M1 M2 va b → ¬ C b) (hS : ∀ b, S b → ¬ C b) : BaseG S w' B M1 M2 va st := by
  obtain ⟨g, hg, hr⟩ := h.m1
  exact ⟨h.blk.kp hK (hC B (.inl rfl)), ownsRow_kpv h.all hK fun b hb => hC b (.inr (.inr (.inr hb))), ⟨g, hg.kp hK (hC M1 (.inr (.inl rfl))), fun k => (hr k).kp hK hS⟩, h.m2.kp hK (hC M2 (.inr (.inr (.inl rfl)))), h.whk, h.wha, h.hds, h.bdp, h.bda, h.n1, h.n2, h.n3, h.na, h.sep⟩
theorem BaseG.gr {S : Nat → Prop} {w w' : World} {B M1 M2 : Nat} {va : Value} {st : BSt} (h : BaseG S w B M1 M2 va st) (hg : Gr w w') : BaseG S w' B M1 M2 va st := h.kp (C := fun _ => False) (Kp.of_gr hg) (fun _ _ h => h) fun _ _ h => h
theorem BaseG.mono {S S' : Nat → Prop} {w : World} {B M1 M2 : Nat} {va : Value} {st : BSt} (h : BaseG S w B M1 M2 va st) (hS : ∀ b, S b → b < w.heap.size → S' b) (hm : ∀ b, S' b → ¬ Mut B M1 M2 va b) : BaseG S' w B M1 M2 va st := by
  obtain ⟨g, hg, hr⟩ := h.m1
  exact ⟨h.blk, h.all, ⟨g, hg, fun k => (hr k).mono hS⟩, h.m2, h.whk, h.wha, h.hds, h.bdp, h.bda, h.n1, h.n2, h.n3, h.na, hm⟩
theorem BaseG.lt {S : Nat → Prop} {w : World} {B M1 M2 : Nat} {va : Value} {st : BSt} (h : BaseG S w B M1 M2 va st) : ∀ b, Mut B M1 M2 va b → b < w.heap.size := by
  obtain ⟨g, hg, _⟩ := h.m1
  rintro b (rfl | rfl | rfl | hb)
  · exact h.blk.lt
  · exact hg.lt
  · exact h.m2.lt
  · exact ownsRow_lt h.all hb

/-- What Add makes of what a base knows. -/
structure Added (st : BSt) (k : ByteArray × Int) (first : Bool) (h b : T) (st' : BSt) : Prop where
  last : st'.last = st.last + 1
  all : st'.all = if first then (st.last + 1) :: st.all else st.all ++ [st.last + 1]
  here : st'.pr k = some (if first then ⟨st.last + 1, h, b⟩ :: (st.pr k).getD [] else (st.pr k).getD [] ++ [⟨st.last + 1, h, b⟩])
  pr : ∀ y, y ≠ k → st'.pr y = st.pr y
  its : st'.wh (st.last + 1) = some k
  wh : ∀ n, n ≠ st.last + 1 → st'.wh n = st.wh n
theorem Added.exists (st : BSt) (k : ByteArray × Int) (first : Bool) (h b : T) : ∃ st', Added st k first h b st' := by
  classical
  exact ⟨⟨st.last + 1, _, fun y => if y = k then some (if first then ⟨st.last + 1, h, b⟩ :: (st.pr k).getD [] else (st.pr k).getD [] ++ [⟨st.last + 1, h, b⟩]) else st.pr y, fun n => if n = st.last + 1 then some k else st.wh n⟩,
    ⟨rfl, rfl, if_pos rfl, fun y hy => if_neg hy, if_pos rfl, fun n hn => if_neg hn⟩⟩

/-- What Add leaves. -/
def RetAddG (S : Nat → Prop) (B M1 M2 : Nat) (va : Value) (st : BSt) (k : ByteArray × Int) (first : Bool) (h b : T) (w : World) (e : Ending) (w' : World) : Prop :=
  ∃ (va' : Value) (st' : BSt), Added st k first h b st' ∧ e = .returned (.tuple #[.int .i64 (st.last + 1), .int .i64 0]) ∧ BaseG (fun x => S x ∨ (w.heap.size ≤ x ∧ va'.ownBlock ≠ some x)) w' B M1 M2 va' st' ∧ Kp (Mut B M1 M2 va) w w' ∧
    (va'.ownBlock = va.ownBlock ∨ ∃ g, va'.ownBlock = some g ∧ w.heap.size ≤ g)
end Go.Proofs.YtjdoflfdlhpbmaaGreat

namespace Go.Proofs.YtjdoflfdlhpbmaaGreat
open Go.RowKit

def StableR (R : World → World → Prop) (Vs : List VP) : Prop := ∀ V ∈ Vs, ∀ v w w', V v w → R w w' → V v w'
section
variable {R : World → World → Prop}
theorem StableR.nil : StableR R [] := fun _ h => by cases h
theorem StableR.fix {c : Value} {Vs : List VP} (h : StableR R Vs) : StableR R (fx c :: Vs) := fun V hV => by
  rcases List.mem_cons.1 hV with rfl | hV
  · exact fun _ _ _ h _ => h
  · exact h V hV
theorem StableR.cons {W : VP} {Vs : List VP} (hW : ∀ v w w', W v w → R w w' → W v w') (h : StableR R Vs) : StableR R (W :: Vs) := fun V hV => by
  rcases List.mem_cons.1 hV with rfl | hV
  · exact hW
  · exact h V hV
end

section
variable {P : Program} {ops : List Oper} {Vs : List VP} {a₀ : Act} {w₀ : World} {Q : Exit → Act → World → Prop} {R : World → World → Prop} {J : Array Bool → World → Prop} {m : Nat}

end
end Go.Proofs.YtjdoflfdlhpbmaaGreat
