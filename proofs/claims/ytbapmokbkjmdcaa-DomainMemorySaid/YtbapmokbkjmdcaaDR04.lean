/-
  slices.DeleteFunc and slices.Clone at []int64.
  slices.Clone at []int64.
  Finite domains: what a constraint says; support; domains that are consistent, and the greatest ones: plain.
-/
import Derived.Test.YtbapmokbkjmdcaaDR03
import Derived.Lib.SliceRun
import Derived.Lib.Hide
namespace Go.Proofs.Ytbapmokbkjmdcaa
open Go.RowKit Go.Maps Go.Lib

theorem filter_take_succ {L : List Int} {j : Nat} (p : Int → Bool) (h : j < L.length) : (L.take (j + 1)).filter p = (L.take j).filter p ++ (if p L[j] then [L[j]] else []) := by
  rw [List.take_add_one, List.getElem?_eq_getElem h, List.filter_append]
  cases hp : p L[j] <;> simp [hp]

/-- Within DeleteFunc: what is kept of the first j stands ahead, the others stand where they stood. -/
structure DelSt (pr : Int → Bool) (L : List Int) (G : Nat) (n : Nat) (w wr : World) (i j : Nat) : Prop where
  kp : Kp (· = G) w wr
  le : j ≤ L.length
  cnt : i = ((L.take j).filter fun x => !pr x).length
  before : i < j
  blk : ∃ cur : Array Value, wr.heap[G]? = some (.cells cur 2 (0, 0)) ∧ cur.size = n ∧ (∀ (m : Nat) (x : Int), ((L.take j).filter fun x => !pr x)[m]? = some x → cur[m]? = some (Value.int .i64 x)) ∧ ∀ (m : Nat) (x : Int), j ≤ m → L[m]? = some x → cur[m]? = some (Value.int .i64 x)

theorem DelSt.start {pr : Int → Bool} {L : List Int} {G n : Nat} {w wr : World} {cur : Array Value} {k : Nat} (hkp : Kp (· = G) w wr) (hk : k < L.length) (hit : ∃ y, L[k]? = some y ∧ pr y = true) (hno : ∀ (i : Nat) (y : Int), i < k → L[i]? = some y → pr y = false) (hb : wr.heap[G]? = some (.cells cur 2 (0, 0))) (hsz : cur.size = n) (ht : ∀ (m : Nat) (x : Int), L[m]? = some x → cur[m]? = some (Value.int .i64 x)) : DelSt pr L G n w wr k (k + 1) := by
  obtain ⟨y, hy, hp⟩ := hit
  have hall : (L.take k).filter (fun x => !pr x) = L.take k := List.filter_eq_self.2 fun x hx => by
    obtain ⟨i, hi, he⟩ := List.getElem_of_mem hx
    have hik : i < k := by rw [List.length_take] at hi; omega
    rw [List.getElem_take] at he
    rw [hno i x hik (by rw [List.getElem?_eq_getElem (by omega), he])]; rfl
  have hf : (L.take (k + 1)).filter (fun x => !pr x) = L.take k := by
    rw [filter_take_succ _ hk, hall, show L[k] = y from Option.some.inj ((List.getElem?_eq_getElem hk).symm.trans hy), hp]; simp
  refine ⟨hkp, hk, by rw [hf, List.length_take]; omega, by omega, cur, hb, hsz, fun m x hm => ?_, fun m x _ hm => ht m x hm⟩
  rw [hf, List.getElem?_take] at hm
  split at hm
  · exact ht m x hm
  · cases hm
theorem DelSt.drop {pr : Int → Bool} {L : List Int} {G n : Nat} {w wr wr' : World} {i j : Nat} {y : Int} (h : DelSt pr L G n w wr i j) (hy : L[j]? = some y) (hp : pr y = true) (hg : Gr wr wr') (hG : G < wr.heap.size) : DelSt pr L G n w wr' i (j + 1) := by
  obtain ⟨hj, rfl⟩ := List.getElem?_eq_some_iff.1 hy
  obtain ⟨h1, h2, h3, h4, cur, hb, hsz, h5, h6⟩ := h
  have hf : (L.take (j + 1)).filter (fun x => !pr x) = (L.take j).filter fun x => !pr x := by rw [filter_take_succ _ hj, hp]; simp
  exact ⟨h1.trans (Kp.of_gr hg), hj, by rw [hf]; exact h3, by omega, cur, (hg.block G hG).trans hb, hsz, by rw [hf]; exact h5, fun m x hm => h6 m x (by omega)⟩
theorem DelSt.keep {pr : Int → Bool} {L : List Int} {G n : Nat} {w wr wr' : World} {i j : Nat} {y : Int} (h : DelSt pr L G n w wr i j) (hy : L[j]? = some y) (hp : pr y = false) (hn : L.length ≤ n) (hg : Gr wr wr') (hG : G < wr.heap.size) : DelSt pr L G n w (wr'.setCell ⟨G, i, none⟩ (Value.int .i64 y)) (i + 1) (j + 1) := by
  obtain ⟨hj, rfl⟩ := List.getElem?_eq_some_iff.1 hy
  obtain ⟨h1, h2, h3, h4, cur, hb, hsz, h5, h6⟩ := h
  have hf : (L.take (j + 1)).filter (fun x => !pr x) = ((L.take j).filter fun x => !pr x) ++ [L[j]] := by rw [filter_take_succ _ hj, hp]; simp
  refine ⟨(h1.trans (Kp.of_gr hg)).trans (Kp.set rfl), hj, by rw [hf, List.length_append, ← h3]; rfl, by omega, cur.setIfInBounds i (.int .i64 L[j]), heap_setCell_same _ G i _ _ _ ((hg.block G hG).trans hb), by simpa using hsz, fun m x hm => ?_, fun m x hm hx => ?_⟩
  · rw [hf, List.getElem?_append] at hm
    split at hm
    · rename_i hlt
      rw [Array.getElem?_setIfInBounds_ne (by omega)]
      exact h5 m x hm
    · have hm0 : m - ((L.take j).filter fun x => !pr x).length = 0 := by
        cases he : m - ((L.take j).filter fun x => !pr x).length with
        | zero => rfl
        | succ z => rw [he] at hm; simp at hm
      rw [hm0] at hm
      have hmi : m = i := by omega
      subst hmi
      rw [Array.getElem?_setIfInBounds_self_of_lt (by omega)]
      simpa using congrArg (Option.map (Value.int .i64)) hm
  · rw [Array.getElem?_setIfInBounds_ne (by omega)]
    exact h6 m x (by omega) hx
theorem DelSt.cell {pr : Int → Bool} {L : List Int} {G n : Nat} {w wr : World} {i j : Nat} {y : Int} (h : DelSt pr L G n w wr i j) (hy : L[j]? = some y) : wr.cell? ⟨G, j, none⟩ = some (Value.int .i64 y) := by
  obtain ⟨_, _, _, _, cur, hb, _, _, h6⟩ := h
  rw [cell_of_row wr G j _ _ _ hb]
  exact h6 j _ (Nat.le_refl _) hy
theorem DelSt.lt_size {pr : Int → Bool} {L : List Int} {G n : Nat} {w wr : World} {i j : Nat} (h : DelSt pr L G n w wr i j) : G < wr.heap.size := by
  obtain ⟨_, _, _, _, cur, hb, _⟩ := h
  exact (Array.getElem?_eq_some_iff.1 hb).1
theorem DelSt.open_ {pr : Int → Bool} {L : List Int} {G n : Nat} {w wr : World} {i j : Nat} (h : DelSt pr L G n w wr i j) : wr.frozen? ⟨G, i, none⟩ = false := by
  obtain ⟨_, _, _, _, cur, hb, _⟩ := h
  exact frozen_of_row wr G i _ _ hb

theorem DelSt.gr {pr : Int → Bool} {L : List Int} {G n : Nat} {w wr wr' : World} {i j : Nat} (h : DelSt pr L G n w wr i j) (hg : Gr wr wr') : DelSt pr L G n w wr' i j := by
  have hG := h.lt_size
  obtain ⟨h1, h2, h3, h4, cur, hb, hsz, h5, h6⟩ := h
  exact ⟨h1.trans (Kp.of_gr hg), h2, h3, h4, cur, (hg.block G hG).trans hb, hsz, h5, h6⟩
theorem DelSt.old {pr : Int → Bool} {L : List Int} {G n : Nat} {w wr : World} {i j : Nat} (h : DelSt pr L G n w wr i j) (hn : L.length ≤ n) : ∃ u, wr.cell? ⟨G, i, none⟩ = some u := by
  obtain ⟨_, h2, _, h4, cur, hb, hsz, _, _⟩ := h
  have : i < cur.size := by omega
  exact ⟨cur[i], by rw [cell_of_row wr G i _ _ _ hb, Array.getElem?_eq_getElem this]⟩
theorem DelSt.there {pr : Int → Bool} {L : List Int} {G n : Nat} {w wr : World} {i j : Nat} (h : DelSt pr L G n w wr i j) (_ : L.length ≤ n) (m : Nat) (hm : m < n) : (wr.cell? ⟨G, m, none⟩).isSome = true := by
  obtain ⟨_, h2, _, h4, cur, hb, hsz, _, _⟩ := h
  have : m < cur.size := by omega
  rw [cell_of_row wr G m _ _ _ hb, Array.getElem?_eq_getElem this]; rfl
theorem DelSt.opens {pr : Int → Bool} {L : List Int} {G n : Nat} {w wr : World} {i j : Nat} (h : DelSt pr L G n w wr i j) (m : Nat) : wr.frozen? ⟨G, m, none⟩ = false := by
  obtain ⟨_, _, _, _, cur, hb, _⟩ := h
  exact frozen_of_row wr G m _ _ hb
theorem setCells_keep {G : Nat} {e : TypeId} : ∀ (vs : List Value) (o : Nat) (w : World) (cur : Array Value), w.heap[G]? = some (.cells cur e (0, 0)) → ∃ cur' : Array Value, (w.setCells G o vs).heap[G]? = some (.cells cur' e (0, 0)) ∧ cur'.size = cur.size ∧ (∀ m : Nat, m < o → cur'[m]? = cur[m]?) ∧ Kp (· = G) w (w.setCells G o vs)
  | [], o, w, cur, h => ⟨cur, h, rfl, fun _ _ => rfl, Kp.refl _ _⟩
  | v :: vs, o, w, cur, h => by
    obtain ⟨cur', h1, h2, h3, h4⟩ := setCells_keep vs (o + 1) (w.setCell ⟨G, o, none⟩ v) (cur.setIfInBounds o v) (heap_setCell_same _ G o _ _ _ h)
    refine ⟨cur', h1, h2.trans (by simp), fun m hm => ?_, Kp.trans (C := (· = G)) (Kp.set rfl) h4⟩
    rw [h3 m (by omega), Array.getElem?_setIfInBounds_ne (by omega)]
theorem DelSt.done {pr : Int → Bool} {L : List Int} {G n : Nat} {w wr : World} {i j : Nat} (h : DelSt pr L G n w wr i j) (hj : j = L.length) (B : Nat) (hB : B ≤ G) (hn : L.length ≤ n) (hm : n ≤ maxLen) (us : List Value) :
    i = (L.filter fun x => !pr x).length ∧ IntsOwn (wr.setCells G i us) B (.slice (some ⟨G, 0, none⟩) i n) (L.filter fun x => !pr x) ∧ Kp (· = G) w (wr.setCells G i us) := by
  obtain ⟨h1, h2, h3, h4, cur, hb, hsz, h5, h6⟩ := h
  subst hj
  rw [List.take_length] at h3 h5
  obtain ⟨cur', k1, k2, k3, k4⟩ := setCells_keep us i wr cur hb
  refine ⟨h3, ⟨by simp, .inr ⟨G, n, cur', by rw [← h3], hB, k1, by omega, hm, by rw [k2, hsz, Nat.mul_one], ?_⟩⟩, h1.trans k4⟩
  rw [Nat.mul_one]
  apply List.ext_getElem?
  intro m
  rw [List.getElem?_take, List.getElem?_map]
  split
  · rename_i hlt
    rw [Array.getElem?_toList, k3 m (by omega), List.getElem?_eq_getElem hlt, h5 m _ (List.getElem?_eq_getElem hlt)]; rfl
  · rename_i hlt
    rw [List.getElem?_eq_none (by omega)]; rfl

set_option maxHeartbeats 4000000 in
set_option maxRecDepth 100000 in
theorem deleteFunc_i64 (g : FuncId) (cap : Array Value) (pr : Int → Bool) (S : Int → Prop) (w0 : World) (hf : IntPred g cap pr S w0) (B : Nat) (v : Value) (L : List Int) (w : World) (h : IntsOwn w B v L) (hL : ∀ n ∈ L, In64 n) (hw : Gr w0 w) (hB : w0.heap.size ≤ B) (hS : ∀ n ∈ L, S n) :
    Calls Try.prog 52 #[v, .func (.func g) #[] cap] w fun e w' => ∃ v', e = .returned v' ∧ IntsOwn w' B v' (L.filter fun x => !pr x) ∧ Kp (fun b => v.ownBlock = some b) w w' ∧ v'.ownBlock = v.ownBlock := by
  obtain ⟨p, c, rfl⟩ := h.form
  obtain ⟨_, hsl⟩ := h.sl hL
  have hlc := hsl.1
  have hcm := hsl.2.1
  have HI := Lib.hid (indexFunc_i64 g cap pr S w0 hf p c L w hsl hw hS)
  generalize hQ : (fun (e : Ending) (w' : World) => ∃ v', e = .returned v' ∧ IntsOwn w' B v' (L.filter fun x => !pr x) ∧ Kp (fun b => (Value.slice p L.length c).ownBlock = some b) w w' ∧ v'.ownBlock = (Value.slice p L.length c).ownBlock) = Q
  have hQ1 : Hid (∀ v' w', IntsOwn w' B v' (L.filter fun x => !pr x) → Kp (fun b => (Value.slice p L.length c).ownBlock = some b) w w' → v'.ownBlock = (Value.slice p L.length c).ownBlock → Q (.returned v') w') := fun v' w' a b d => by rw [← hQ]; exact ⟨v', rfl, a, b, d⟩
  have H := Lib.hid h
  have Hcall := Lib.hid hf.2
  have hq := hf.1
  have Hw := Lib.hid hw
  have HL := Lib.hid hS
  clear hQ h hf hw hsl hL hS
  by_cases h1 : firstOf pr L = -1
  · have hall : L.filter (fun x => !pr x) = L := List.filter_eq_self.2 fun x hx => by rw [firstOf_none h1 x hx]; rfl
    have hQ2 := Lib.hid (fun w' (hg : Gr w w') => hQ1.out (.slice p L.length c) w' (by rw [hall]; exact H.out.gr hg) (Kp.of_gr hg) rfl)
    rw [h1] at HI
    clear hQ1 hall h1
    go_enter Try.func52, Try.ntmps52
    try simp only [List.append_eq, List.cons_append, List.nil_append]
    go_wp2_with (first
      | (go_at_call 56; refine HI.out.mono ?_; rintro e w1 ⟨rfl, hb⟩; have HG := Lib.hid hb; clear hb)
      | fail)
    exact hQ2.out _ HG.out
  · obtain ⟨k, e1, hk, hit, hno⟩ := firstOf_some h1
    rw [e1] at HI
    have hb := H.out.2
    rcases hb with ⟨hv, _⟩ | ⟨G, cp, cur, hv, hBG, hblk, hnc, hcml, hsz, htk⟩
    · injection hv with _ h2 _; omega
    cases hv
    rw [Nat.mul_one] at hsz htk
    have hG0 : w0.heap.size ≤ G := Nat.le_trans hB hBG
    have ht : ∀ (m : Nat) (x : Int), L[m]? = some x → cur[m]? = some (Value.int .i64 x) := fun m x hm => by
      have hml := (List.getElem?_eq_some_iff.1 hm).1
      have : (cur.toList.take L.length)[m]? = (L.map (Value.int .i64))[m]? := by rw [htk]
      rw [List.getElem?_take_of_lt hml, List.getElem?_map, hm, Array.getElem?_toList] at this
      exact this
    have HS : Hid (∀ w1, Gr w w1 → DelSt pr L G c w w1 k (k + 1)) := fun w1 hg => DelSt.start (Kp.of_gr hg) hk hit hno ((hg.block G (Array.getElem?_eq_some_iff.1 hblk).1).trans hblk) hsz ht
    have HD : Hid (∀ wr i j us, DelSt pr L G c w wr i j → j = L.length → Q (.returned (.slice (some ⟨G, 0, none⟩) i c)) (wr.setCells G i us)) := fun wr i j us hd hj => by
      obtain ⟨_, a2, a3⟩ := hd.done hj B hBG hlc hcml us
      exact hQ1.out _ _ a2 (a3.mono fun b hb => by rw [hb]; rfl) rfl
    have HG0 := Lib.hid hG0
    clear hQ1 h1 e1 hit hno hblk hsz htk ht hBG hB H
    have hzv : ∀ W : World, (zeroValue 2).run Try.prog W = .ok (.int .i64 0) W := fun W => by kernel_rfl
    go_enter Try.func52, Try.ntmps52
    try simp only [List.append_eq, List.cons_append, List.nil_append]
    go_wp2_with (first
      | (go_at_call 56; refine HI.out.mono ?_; rintro e w1 ⟨rfl, hb⟩; have HS1 := Lib.hid (HS.out w1 hb); clear hb HI HS)
      | fail)
    go_loopg [5, 6] (L.length - (k + 1)) (fun m vi vj wr => ∃ i j : Nat, m = L.length - j ∧ vi = .int .i64 i ∧ vj = .int .i64 j ∧ i < j ∧ j ≤ L.length ∧ Hid (DelSt pr L G c w wr i j))
    case atStart => exact ⟨k, k + 1, rfl, rfl, by go_num, by omega, by omega, HS1⟩
    case round =>
      obtain ⟨i, j, rfl, rfl, rfl, hij, hjl, hd⟩ := hrel
      clear HS1
      by_cases hlt : j < L.length
      · obtain ⟨y, hy⟩ : ∃ y, L[j]? = some y := ⟨_, List.getElem?_eq_getElem hlt⟩
        have c0 := hd.out.cell hy
        have f0 := hd.out.open_
        have hGs := Lib.hid hd.out.lt_size
        have hin : Hid (S y) := HL.out _ (List.mem_of_getElem? hy)
        obtain ⟨bb, hbb⟩ : ∃ bb, pr y = bb := ⟨_, rfl⟩
        have HB := Lib.hid hbb
        have hgw : Hid (Gr w0 wr) := Below.trans Hw.out (hd.out.kp.below (B := w0.heap.size) (fun b hb => by rw [hb]; exact HG0.out) Hw.out.size)
        have hqy := hq y
        have Hlt := Lib.hid hlt
        have HY := Lib.hid hy
        clear hbb hy
        cases bb with
        | true =>
          go_wp2_with (first
            | (refine (Hcall.out y _ hin.out hgw.out).mono ?_; rewrite [HB.out]; rintro e w1 ⟨rfl, hb⟩; have HG := Lib.hid (show Gr wr w1 from hb); clear hb c0 f0)
            | fail)
          have hd2 := Lib.hid (hd.out.drop HY.out HB.out HG.out hGs.out)
          have := Hlt.out
          go_roundg (L.length - (j + 1))
          case measure => omega
          case rel => exact ⟨i, j + 1, rfl, rfl, by go_num, by omega, by omega, hd2⟩
        | false =>
          have hlc2 := Lib.hid hlc
          have hx := hqy
          go_wp2_with (first
            | (refine (Hcall.out y _ hin.out hgw.out).mono ?_; rewrite [HB.out]; rintro e w1 ⟨rfl, hb⟩; have HG := Lib.hid (show Gr wr w1 from hb); have hd1 := Lib.hid (hd.out.gr (show Gr wr w1 from hb)); obtain ⟨u1, c1⟩ := (hd.out.gr (show Gr wr w1 from hb)).old hlc2.out; have f1 := (hd.out.gr (show Gr wr w1 from hb)).open_; have hli : i < L.length := (by have := Hlt.out; omega); clear hb c0 f0)
            | fail)
          have hd2 := Lib.hid (hd.out.keep HY.out HB.out hlc2.out HG.out hGs.out)
          have := Hlt.out
          go_roundg (L.length - (j + 1))
          case measure => omega
          case rel => exact ⟨i + 1, j + 1, rfl, by go_num, by go_num, by omega, by omega, hd2⟩
      · have hj : j = L.length := by omega
        have hfin := Lib.hid (fun us => HD.out wr i j us hd.out hj)
        have hcl := run_clear_slice (P := Try.prog) wr 38 2 0 (.int .i64 0) Try.underlying38 hzv rfl rfl G i (L.length - i) (c - i) (by omega) (fun m hm => by rw [hd.out.there hlc (i + m) (by omega)]) (fun m hm => hd.out.opens (i + m))
        have HF := Lib.hid hd.out.kp
        subst hj
        generalize hus : List.replicate (L.length - i) (Value.int .i64 0) = us at hcl
        go_wp2_with fail
        exact hfin.out us
end Go.Proofs.Ytbapmokbkjmdcaa

namespace Go.Proofs.Ytbapmokbkjmdcaa
open Go.RowKit Go.Maps Go.Lib

/-- The call returned numbers of its own. -/
def RetInts (L : List Int) (w : World) (e : Ending) (w' : World) : Prop := ∃ v, e = .returned v ∧ IntsOwn w' w.heap.size v L ∧ Gr w w'

set_option maxHeartbeats 1000000 in
set_option maxRecDepth 100000 in
theorem clone_i64 (p : Option Addr) (c : Nat) (L : List Int) (w : World) (h : IntSl w p c L) (hl : L.length * 8 ≤ 140737488351232) : Calls Try.prog 48 #[.slice p L.length c] w (RetInts L w) := by
  have hQ1 : Hid (∀ v w', IntsOwn w' w.heap.size v L → Gr w w' → RetInts L w (.returned v) w') := fun v w' a b => ⟨v, rfl, a, b⟩
  generalize hQ : RetInts L w = Q at hQ1 ⊢
  clear hQ
  have hlc := h.1
  have hc := h.2.1
  have H := Lib.hid h
  clear h
  have hnil := fun (W : World) (a : Option Addr) (n c : Nat) => run_eql_slice_nil (P := Try.prog) W 38 2 a n c 0 0 Try.underlying38
  rcases p with _ | ⟨b, o, fz⟩
  · have hL : L = [] := by
      rcases H.out.2.2.2 with h0 | ⟨b, o, h0, _⟩
      · exact h0
      · cases h0
    subst hL
    have HQ := Lib.hid (fun w' (hg : Gr w w') => hQ1.out (.slice none 0 0) w' (IntsOwn.nil _ _) hg)
    clear hQ1 H
    go_enter Try.func48, Try.ntmps48
    try simp only [List.append_eq, List.cons_append, List.nil_append]
    go_wp2_with fail
    exact HQ.out _ (Gr.rfl' _)
  · have hE : IntsOwn (w.alloc (.cells #[] 2)) w.heap.size (.slice (some ⟨w.heap.size, 0, none⟩) 0 0) [] :=
      ⟨rfl, .inr ⟨w.heap.size, 0, #[], rfl, Nat.le_refl _, heap_alloc_new _ _, Nat.le_refl _, Nat.zero_le _, rfl, rfl⟩⟩
    by_cases h0 : L = []
    · subst h0
      have HQ := Lib.hid (hQ1.out _ _ hE (by go_grown))
      clear H hE hQ1
      go_enter Try.func48, Try.ntmps48
      try simp only [List.append_eq, List.cons_append, List.nil_append]
      go_wp2_with fail
      exact HQ.out
    · obtain ⟨b', o', hp, hb, hr⟩ := H.out.ptr (List.length_pos_iff.2 h0)
      cases hp
      obtain ⟨i0, hi, hz0, hz1, hz2⟩ := info_parts infoI64
      obtain ⟨v, w1, hrun, hown, hgr, _⟩ := run_append_own_fresh (P := Try.prog) (w.alloc (.cells #[] 2)) w.heap.size 38 38 2 i0 (.int .i64 0) 1 8 Try.underlying38 hi hz0 hz1 hz2 rfl (by decide)
        (.slice (some ⟨w.heap.size, 0, none⟩) 0 0) 0 [] hE ⟨b, o, none⟩ L.length c (L.map (Value.int .i64)) (by simp) (by
          intro j u hu
          rw [List.getElem?_map] at hu
          cases hl : L[j]? with
          | none => rw [hl] at hu; cases hu
          | some x =>
            rw [hl] at hu; cases hu
            rw [Go.WideShapes.add_plain]
            exact Gr.at (w := w) (by go_grown) (hr j x hl)) (by
          intro u hu
          obtain ⟨x, _, rfl⟩ := List.mem_map.1 hu
          rfl) (by simp only [maxLen]; omega) (by omega) (by simp) (List.length_pos_iff.2 h0)
      have HR := Lib.hid hrun
      have HQ := Lib.hid (hQ1.out v w1 (by simpa [IntsOwn] using hown) (Below.trans (b := w.alloc (.cells #[] 2)) (by go_grown) (grownBy_below hgr (by simp) fun k hk => by cases hk; exact Nat.le_refl _)))
      clear hrun hown hgr hQ1 hE hr hb H
      go_enter Try.func48, Try.ntmps48
      try simp only [List.append_eq, List.cons_append, List.nil_append]
      go_wp2_with (first
        | (refine wpList_append_run _ rfl _ _ _ _ rfl _ _ (by rfl) (by rfl) _ _ HR.out ?_)
        | fail)
      exact HQ.out
end Go.Proofs.Ytbapmokbkjmdcaa

namespace Go.Proofs.Ytbapmokbkjmdcaa
/-- A constraint. -/
structure Con where
  kind : Int
  vars : List Int
  coefs : List Int
  op : Int
  c : Int

def sumC (a : Int → Int) : List Int → List Int → Int
  | v :: vs, k :: ks => k * a v + sumC a vs ks
  | _, _ => 0

/-- Does it hold? -/
def Con.sat (c : Con) (a : Int → Int) : Bool :=
  if c.kind = 1 then
    if c.op = 1 then decide (sumC a c.vars c.coefs = c.c)
    else if c.op = 2 then decide (sumC a c.vars c.coefs ≤ c.c)
    else decide (sumC a c.vars c.coefs ≠ c.c)
  else if c.kind = 2 then decide (c.vars.map a).Nodup
  else if c.kind = 3 then decide (a (c.vars.getD 0 0) * a (c.vars.getD 1 0) = a (c.vars.getD 2 0))
  else decide (0 ≤ a (c.vars.getD 0 0)) && decide (a (c.vars.getD 0 0) < c.coefs.length) && decide (c.coefs.getD (a (c.vars.getD 0 0)).toNat 0 = a (c.vars.getD 1 0))

def within (m : Int) (l : List Int) : Bool := l.all fun n => decide (-m ≤ n) && decide (n ≤ m)

/-- May it be, with so many variables? -/
def Con.ok (c : Con) (n : Nat) : Bool :=
  (c.vars.all fun v => decide (0 ≤ v) && decide (v < n)) &&
  if c.kind = 1 then decide (1 ≤ c.vars.length) && decide (c.vars.length ≤ 4) && decide (c.coefs.length = c.vars.length) && within 1000 c.coefs && decide (1 ≤ c.op) && decide (c.op ≤ 3) && decide (-1000000000000 ≤ c.c) && decide (c.c ≤ 1000000000000)
  else decide (c.op = 0) && decide (c.c = 0) &&
    if c.kind = 2 then decide (c.vars.length ≤ 8) && decide c.vars.Nodup && decide (c.coefs.length = 0)
    else if c.kind = 3 then decide (c.vars.length = 3) && decide (c.coefs.length = 0)
    else if c.kind = 4 then decide (c.vars.length = 2) && decide (c.coefs.length ≤ 100) && within 1000000 c.coefs
    else false

theorem sumC_congr {a b : Int → Int} : ∀ (vs ks : List Int), (∀ v ∈ vs, a v = b v) → sumC a vs ks = sumC b vs ks
  | [], _, _ => by simp [sumC]
  | _ :: _, [], _ => by simp [sumC]
  | v :: vs, k :: ks, h => by
    rw [sumC, sumC, h v (List.mem_cons_self ..), sumC_congr vs ks fun u hu => h u (List.mem_cons_of_mem _ hu)]

theorem Con.ok_var {c : Con} {n : Nat} (h : c.ok n = true) {v : Int} (hv : v ∈ c.vars) : 0 ≤ v ∧ v < n := by
  simp only [Con.ok, Bool.and_eq_true, List.all_eq_true] at h
  have := h.1 v hv
  simp only [decide_eq_true_eq] at this
  exact this
theorem getD_lt {α : Type} {l : List α} {i : Nat} (d : α) (h : i < l.length) : l.getD i d = l[i] := by rw [List.getD_eq_getElem?_getD, List.getElem?_eq_getElem h]; rfl
theorem mem_getD {l : List Int} {i : Nat} (h : i < l.length) : l.getD i 0 ∈ l := by
  rw [getD_lt _ h]; exact List.getElem_mem h

theorem Con.sat_congr {c : Con} {n : Nat} (hok : c.ok n = true) {a b : Int → Int} (h : ∀ v ∈ c.vars, a v = b v) : c.sat a = c.sat b := by
  unfold Con.sat
  by_cases h1 : c.kind = 1
  · rw [if_pos h1, if_pos h1, sumC_congr _ _ h]
  rw [if_neg h1, if_neg h1]
  by_cases h2 : c.kind = 2
  · rw [if_pos h2, if_pos h2, List.map_congr_left h]
  rw [if_neg h2, if_neg h2]
  simp only [Con.ok, h1, h2, if_false, Bool.and_eq_true] at hok
  by_cases h3 : c.kind = 3
  · rw [if_pos h3, if_pos h3]
    simp only [h3, if_true, Bool.and_eq_true, decide_eq_true_eq] at hok
    have hl := hok.2.2.1
    rw [h _ (mem_getD (by omega)), h _ (mem_getD (i := 1) (by omega)), h _ (mem_getD (i := 2) (by omega))]
  rw [if_neg h3, if_neg h3]
  by_cases h4 : c.kind = 4
  · rw [if_neg h3, if_pos h4] at hok
    simp only [Bool.and_eq_true, decide_eq_true_eq] at hok
    have hl := hok.2.2.1.1
    rw [h _ (mem_getD (by omega)), h _ (mem_getD (i := 1) (by omega))]
  · simp [h3, h4] at hok

/-- A variable's domain. -/
def dom (D : List (List Int)) (v : Int) : List Int := D.getD v.toNat []

/-- A number has support in a constraint. -/
def Sup (D : List (List Int)) (c : Con) (v x : Int) : Prop := ∃ a : Int → Int, (∀ u ∈ c.vars, a u ∈ dom D u) ∧ a v = x ∧ c.sat a = true
/-- All numbers of its variables have support in it. -/
def Cst (D : List (List Int)) (c : Con) : Prop := ∀ v ∈ c.vars, ∀ x ∈ dom D v, Sup D c v x
def AC (C : List Con) (D : List (List Int)) : Prop := ∀ c ∈ C, Cst D c

theorem Sup.mono {D E : List (List Int)} {c : Con} {v x : Int} (h : Sup E c v x) (hs : ∀ u ∈ c.vars, ∀ y ∈ dom E u, y ∈ dom D u) : Sup D c v x := by
  obtain ⟨a, h1, h2, h3⟩ := h
  exact ⟨a, fun u hu => hs u hu _ (h1 u hu), h2, h3⟩
theorem Cst.congr {D E : List (List Int)} {c : Con} (h : Cst E c) (hs : ∀ u ∈ c.vars, dom E u = dom D u) : Cst D c := by
  intro v hv x hx
  rw [← hs v hv] at hx
  exact (h v hv x hx).mono fun u hu y hy => hs u hu ▸ hy

/-- Each domain is a part of the other one. -/
def SubD (E D : List (List Int)) : Prop := E.length = D.length ∧ ∀ i : Nat, (E.getD i []).Sublist (D.getD i [])
/-- Each number is one of the other's. -/
def InD (E D : List (List Int)) : Prop := E.length = D.length ∧ ∀ i : Nat, ∀ x ∈ E.getD i [], x ∈ D.getD i []
theorem SubD.refl (D : List (List Int)) : SubD D D := ⟨rfl, fun _ => List.Sublist.refl _⟩
theorem SubD.trans {A B D : List (List Int)} (h : SubD A B) (k : SubD B D) : SubD A D := ⟨h.1.trans k.1, fun i => (h.2 i).trans (k.2 i)⟩
theorem SubD.inD {A B : List (List Int)} (h : SubD A B) : InD A B := ⟨h.1, fun i _ hx => (h.2 i).subset hx⟩
theorem InD.refl (D : List (List Int)) : InD D D := (SubD.refl D).inD

/-- What reducing leaves. -/
structure RedOk (C : List Con) (D E : List (List Int)) : Prop where
  sub : SubD E D
  ac : AC C E
  ne : ∀ d ∈ E, d ≠ []
  most : ∀ F, AC C F → InD F D → InD F E
/-- A domain is empty. -/
def RedNo (C : List Con) (D : List (List Int)) : Prop := ∀ F, AC C F → InD F D → ∃ d ∈ F, d = []

theorem sublist_filter : ∀ {l d : List Int}, l.Sublist d → d.Nodup → l = d.filter (fun x => decide (x ∈ l)) := by
  intro l d h
  induction h with
  | slnil => intro _; rfl
  | @cons l1 l2 a h ih =>
    intro hn
    rw [List.nodup_cons] at hn
    have : a ∉ l1 := fun ha => hn.1 (h.subset ha)
    rw [List.filter_cons_of_neg (by simpa using this)]
    exact ih hn.2
  | @cons_cons l1 l2 a h ih =>
    intro hn
    rw [List.nodup_cons] at hn
    rw [List.filter_cons_of_pos (by simp)]
    congr 1
    refine (ih hn.2).trans (List.filter_congr fun x hx => ?_)
    have : x ≠ a := fun e => hn.1 (e ▸ hx)
    simp [this]
theorem sub_eq {E F D : List (List Int)} (hD : ∀ d ∈ D, d.Nodup) (hE : SubD E D) (hF : SubD F D) (h1 : InD E F) (h2 : InD F E) : E = F := by
  apply List.ext_getElem (hE.1.trans hF.1.symm)
  intro i hi hj
  have hk : i < D.length := hE.1 ▸ hi
  have hd : (D.getD i []).Nodup := by rw [getD_lt _ hk]; exact hD _ (List.getElem_mem hk)
  have e1 := sublist_filter (hE.2 i) hd
  have e2 := sublist_filter (hF.2 i) hd
  have : E.getD i [] = F.getD i [] := by
    rw [e1, e2]
    refine List.filter_congr fun x _ => ?_
    rw [decide_eq_decide]
    exact ⟨h1.2 i x, h2.2 i x⟩
  rwa [getD_lt _ hi, getD_lt _ hj] at this

theorem RedOk.uniq {C : List Con} {D E F : List (List Int)} (hD : ∀ d ∈ D, d.Nodup) (h : RedOk C D E) (k : RedOk C D F) : E = F :=
  sub_eq hD h.sub k.sub (k.most E h.ac h.sub.inD) (h.most F k.ac k.sub.inD)
theorem RedOk.not {C : List Con} {D E : List (List Int)} (h : RedOk C D E) (k : RedNo C D) : False := by
  obtain ⟨d, hd, h0⟩ := k E h.ac h.sub.inD
  exact h.ne d hd h0
theorem RedOk.self {C : List Con} {D : List (List Int)} (h : AC C D) (hs : ∀ d ∈ D, d ≠ []) : RedOk C D D := ⟨SubD.refl D, h, hs, fun _ _ k => k⟩
theorem RedOk.again {C : List Con} {D E : List (List Int)} (h : RedOk C D E) : RedOk C E E := RedOk.self h.ac h.ne
theorem AC.perm {C C' : List Con} (h : ∀ c, c ∈ C ↔ c ∈ C') {D : List (List Int)} : AC C D ↔ AC C' D := ⟨fun k c hc => k c ((h c).2 hc), fun k c hc => k c ((h c).1 hc)⟩
theorem RedOk.perm {C C' : List Con} (h : ∀ c, c ∈ C ↔ c ∈ C') {D E : List (List Int)} (k : RedOk C D E) : RedOk C' D E := ⟨k.sub, (AC.perm h).1 k.ac, k.ne, fun F hF => k.most F ((AC.perm h).2 hF)⟩
theorem RedNo.perm {C C' : List Con} (h : ∀ c, c ∈ C ↔ c ∈ C') {D : List (List Int)} (k : RedNo C D) : RedNo C' D := fun F hF => k F ((AC.perm h).2 hF)
end Go.Proofs.Ytbapmokbkjmdcaa
