/-
  term.At: the part at a place.
  hornref.At: the part at a place.
-/
import Derived.Test.YtcblmkhhhibddaaTS23
import Derived.Test.YtcblmkhhhibddaaTS19
import Derived.Test.YtcblmkhhhibddaaTS24
import Derived.Test.YtcblmkhhhibddaaTS09
import Derived.BigQuiet
namespace Go.Proofs.Ytcblmkhhhibddaa
open Go.RowKit Go.Maps Go.Lib

def T.at : T → List Int → Option T
  | t, [] => some t
  | t, i :: is => match (if 0 ≤ i then t.l[i.toNat]? else none) with
    | none => none
    | some x => T.at x is
theorem at_out {t : T} {i : Int} {is : List Int} (h : ¬ (0 ≤ i ∧ i < t.l.length)) : T.at t (i :: is) = none := by
  rw [T.at]
  by_cases h0 : 0 ≤ i
  · rw [if_pos h0, List.getElem?_eq_none (by omega)]
  · rw [if_neg h0]
theorem at_in {t : T} {i : Int} {is : List Int} (h0 : 0 ≤ i) (h : i.toNat < t.l.length) : T.at t (i :: is) = T.at t.l[i.toNat] is := by
  rw [T.at, if_pos h0, List.getElem?_eq_getElem h]
theorem erase_ls (t : Tm) : t.erase.l = Tm.eraseL t.l := by
  obtain ⟨k, n, s, p, c, l⟩ := t
  rw [Tm.erase]; rfl
theorem eraseL_map : ∀ l : List Tm, Tm.eraseL l = l.map Tm.erase
  | [] => by rw [Tm.eraseL]; rfl
  | x :: xs => by rw [Tm.eraseL, eraseL_map xs]; rfl
theorem eraseL_nth (l : List Tm) (i : Nat) (h : i < (Tm.eraseL l).length) (h' : i < l.length) : (Tm.eraseL l)[i] = l[i].erase := by
  simp only [eraseL_map, List.getElem_map]
theorem at_tm {t : Tm} {i : Int} {is : List Int} (h0 : 0 ≤ i) (h : i.toNat < t.l.length) : T.at t.erase (i :: is) = T.at t.l[i.toNat].erase is := by
  have hl : i.toNat < t.erase.l.length := by rw [erase_ls, Tm.eraseL_length]; exact h
  rw [at_in h0 hl]
  congr 1
  have : t.erase.l[i.toNat] = (Tm.eraseL t.l)[i.toNat]'(by rw [Tm.eraseL_length]; exact h) := by congr 1; exact erase_ls t
  rw [this, eraseL_nth]
theorem at_tmN {t : Tm} {j : Nat} {is : List Int} (h : j < t.l.length) : T.at t.erase ((j : Int) :: is) = T.at t.l[j].erase is := by
  have := at_tm (t := t) (i := (j : Int)) (is := is) (by omega) (by simpa using h)
  simpa using this

/-- At's answer. -/
def RetAt (t : T) (L : List Int) (w : World) (e : Ending) (w' : World) : Prop := Gr w w' ∧
  ((t.formed = false ∧ e = .returned (.tuple #[zeroTm.val, .int .i64 2])) ∨
   (t.formed = true ∧ T.at t L = none ∧ e = .returned (.tuple #[zeroTm.val, .int .i64 8])) ∨
   (t.formed = true ∧ ∃ (x : T) (g : Tm), T.at t L = some x ∧ e = .returned (.tuple #[g.val, .int .i64 0]) ∧ g.In w' ∧ g.erase = x ∧ g.On (w.heap.size ≤ ·) ∧ g.Whole w' ∧ g.Tree w.heap.size w'.heap.size))

set_option maxHeartbeats 4000000 in
set_option maxRecDepth 100000 in
theorem at_calls (t : Tm) (p : Option Addr) (c : Nat) (L : List Int) (w : World) (it : t.In w) (hL : IntSl w p c L) : Calls Try.prog 46 #[t.val, .slice p L.length c] w (RetAt t.erase L w) := by
  have It := Lib.hid it
  have HL := Lib.hid hL
  have hLc := hL.1
  have hLc2 := hL.2.1
  have Hfo := Lib.hid (fun (w' : World) (g : Gr w w') => show Calls Try.prog 95 #[.agg #[.int .i64 t.k, .int .i64 t.n, .string t.s, .slice t.p t.l.length t.c]] w' _ from formed_calls (t := t) (Tm.In_below g it))
  have hR1 : Hid (∀ w', t.erase.formed = false → Gr w w' → RetAt t.erase L w (.returned (.tuple #[.agg #[.int .i64 0, .int .i64 0, .string ⟨#[]⟩, .slice none 0 0], .int .i64 2])) w') := fun w' h1 h2 => ⟨h2, .inl ⟨h1, rfl⟩⟩
  have hR2 : Hid (∀ w', t.erase.formed = true → T.at t.erase L = none → Gr w w' → RetAt t.erase L w (.returned (.tuple #[.agg #[.int .i64 0, .int .i64 0, .string ⟨#[]⟩, .slice none 0 0], .int .i64 8])) w') := fun w' h1 h3 h2 => ⟨h2, .inr (.inl ⟨h1, h3, rfl⟩)⟩
  have hR3 : Hid (∀ (g : Tm) w', t.erase.formed = true → T.at t.erase L = some g.erase → Gr w w' → g.In w' → g.On (w.heap.size ≤ ·) → g.Whole w' → g.Tree w.heap.size w'.heap.size → RetAt t.erase L w (.returned (.tuple #[.agg #[.int .i64 g.k, .int .i64 g.n, .string g.s, .slice g.p g.l.length g.c], .int .i64 0])) w') := fun g w' h1 h3 h2 h4 h5 h6 h7 => ⟨h2, .inr (.inr ⟨h1, _, g, h3, rfl, h4, rfl, h5, h6, h7⟩)⟩
  generalize RetAt t.erase L w = Q at hR1 hR2 hR3 ⊢
  have HR1 := hR1
  have HR2 := hR2
  have HR3 := hR3
  clear it hL hR1 hR2 hR3
  rw [show t.val = .agg #[.int .i64 t.k, .int .i64 t.n, .string t.s, .slice t.p t.l.length t.c] from rfl]
  go_enter Try.func46, Try.ntmps46
  try simp only [List.append_eq, List.cons_append, List.nil_append]
  go_upto_region 1 with fail
  obtain ⟨h3, h4, gA⟩ := two_blocks w (.int .i64 t.k) (.int .i64 t.n) (.string t.s) (.slice t.p t.l.length t.c) (.int .i64 0) (.int .i64 0) (.string ⟨#[]⟩) (.slice none 0 0)
  have sA : ((w.alloc (.cells #[.int .i64 t.k, .int .i64 t.n, .string t.s, .slice t.p t.l.length t.c] 25)).alloc (.cells #[.int .i64 0, .int .i64 0, .string ⟨#[]⟩, .slice none 0 0] 25)).heap.size = w.heap.size + 2 := by simp
  generalize ((w.alloc (.cells #[.int .i64 t.k, .int .i64 t.n, .string t.s, .slice t.p t.l.length t.c] 25)).alloc (.cells #[.int .i64 0, .int .i64 0, .string ⟨#[]⟩, .slice none 0 0] 25)) = wA at *
  obtain ⟨⟨x0, x1, x2, x3⟩, _, _⟩ := h3.out.parts
  have Hfo2 := Lib.hid (Hfo.out wA gA)
  go_wp2_with fail
  refine Hfo2.out.mono ?_
  rintro e w1 ⟨rfl, g1⟩
  replace g1 : Gr wA w1 := g1
  clear x0 x1 x2 x3
  have gw1 : Gr w w1 := gA.trans g1
  by_cases hf : t.erase.formed = true
  · have Hf := Lib.hid hf
    rewrite [hf]
    clear hf
    go_wp2_with fail
    go_loopg [14] L.length (fun m i wr => ∃ (k : Nat) (x : Tm), k ≤ L.length ∧ m = L.length - k ∧ i = .int .i64 k ∧ Hid (x.In wr ∧ x.On (· < w.heap.size) ∧ x.erase.formed = true ∧ T.at t.erase L = T.at x.erase (L.drop k)) ∧ Hid (Blk4 wr w.heap.size (.int .i64 x.k) (.int .i64 x.n) (.string x.s) (.slice x.p x.l.length x.c)) ∧ Kp (· = w.heap.size) w1 wr)
    case atStart => exact ⟨0, t, Nat.zero_le _, rfl, rfl, ⟨Tm.In_below gw1 It.out, It.out.on, Hf.out, rfl⟩, h3.out.gr g1, Kp.refl _ _⟩
    case round =>
      obtain ⟨k, x, hk, rfl, rfl, hx, hb, kr⟩ := hrel
      have hsr : w.heap.size + 2 ≤ wr.heap.size := by have := g1.size; have := kr.size; omega
      have hkw : Kp (· = w.heap.size) w wr := (Kp.of_gr gw1).trans kr
      have gwr : Gr w wr := Below.trans gw1 (kr.below (B := w.heap.size) (fun b hb => by omega) gw1.size)
      have B4 := Lib.hid ((h4.out.gr g1).kp kr (by omega))
      obtain ⟨⟨x0, x1, x2, x3⟩, ⟨f0, f1, f2, f3⟩, _⟩ := hb.out.parts
      by_cases hlt : k < L.length
      · obtain ⟨b, o, rfl, hbl, hcells⟩ := HL.out.ptr (by omega)
        have hc := hkw.cell (hcells k _ (List.getElem?_eq_getElem hlt)) (by show ¬ b = _; omega)
        have hni : In64 L[k] := HL.out.2.2.1 _ (List.getElem_mem hlt)
        have hdr : L.drop k = L[k] :: L.drop (k + 1) := List.drop_eq_getElem_cons hlt
        have hx2 := hx.out
        rw [hdr] at hx2
        clear hx hdr
        generalize L[k] = n at *
        by_cases hin : 0 ≤ n ∧ n < x.l.length
        · obtain ⟨hn0, hn1⟩ := hin
          obtain ⟨j, rfl⟩ : ∃ j : Nat, n = j := ⟨n.toNat, by omega⟩
          have hnl : j < x.l.length := by omega
          obtain ⟨hxi, hxo, hxf, hxa⟩ := hx2
          rw [at_tmN hnl] at hxa
          have hxo' := hxo
          have hxi' := hxi
          obtain ⟨xk, xn, xs, xp, xc, xl⟩ := x
          simp only [Tm.k, Tm.n, Tm.s, Tm.p, Tm.c, Tm.l] at hb hnl hn1 hxa x0 x1 x2 x3 ⊢
          obtain ⟨b2, o2, rfl⟩ := hxi.sl.ptr (by omega)
          obtain ⟨⟨c0, c1, c2, c3⟩, hyi, _⟩ := hxi.sl.elem j hnl
          rw [Tm.In] at hxi'
          rw [Tm.On] at hxo'
          have hxlc := hxi'.2.2.2.1
          have hxlb := hxi'.2.2.2.2.1
          have hyo : xl[j].On (· < w.heap.size) := Tm.OnL_mem hxo'.2 _ (List.getElem_mem hnl)
          have hyf : xl[j].erase.formed = true := by
            have := formed_args' hxf
            rw [Tm.erase] at this
            exact formedL_nth xl _ hnl this
          have hb2 : b2 ≠ w.heap.size := by
            rcases hxo'.1 with h | ⟨b', o', he, h⟩
            · rw [h] at hnl; simp at hnl
            · cases he; omega
          have hHY := Lib.hid (And.intro hyi (And.intro hyo (And.intro hyf hxa)))
          have hge : ¬ (j : Int) < 0 := by omega
          have hlt2 : ¬ (xl.length : Int) ≤ j := by omega
          clear hyi hyo hyf hxa hxi hxo hxf hxi' hxo'
          generalize xl[j] = y at *
          go_wp2_with fail
          have kk := Kp.sets (C := (· = w.heap.size)) (w := wr) (b := w.heap.size) rfl (.int .i64 y.k) (.int .i64 y.n) (.string y.s) (.slice y.p y.l.length y.c)
          have hbb := Blk4.sets hb.out (.int .i64 y.k) (.int .i64 y.n) (.string y.s) (.slice y.p y.l.length y.c)
          go_roundg (L.length - (k + 1))
          case measure => omega
          case rel => exact ⟨k + 1, y, by omega, rfl, by go_num, ⟨kp_in hHY.out.1 hHY.out.2.1 (fun b hb e => by omega) kk, hHY.out.2.1, hHY.out.2.2.1, hHY.out.2.2.2⟩, hbb, kr.trans kk⟩
        · have hat : T.at t.erase L = none := by
            rw [hx2.2.2.2]
            refine at_out fun h => hin ?_
            rw [erase_ls, Tm.eraseL_length] at h
            exact h
          obtain ⟨⟨z0, z1, z2, z3⟩, ⟨r0, r1, r2, r3⟩, _⟩ := B4.out.parts
          have kk := Kp.sets (C := (· = w.heap.size + 1)) (w := wr) (b := w.heap.size + 1) rfl (.int .i64 0) (.int .i64 0) (.string ⟨#[]⟩) (.slice none 0 0)
          have Hb := Lib.hid (HR2.out _ Hf.out hat (Below.trans gwr (kk.below (B := w.heap.size) (fun b hb => by omega) gwr.size)))
          have hcase : n < 0 ∨ (¬ n < 0 ∧ (x.l.length : Int) ≤ n) := by omega
          clear hx2 hat hin kk
          rcases hcase with hneg | ⟨hneg, hge⟩
          · go_wp2_with fail
            exact bodyPost_ret (v := .tuple #[.agg #[.int .i64 0, .int .i64 0, .string ⟨#[]⟩, .slice none 0 0], .int .i64 8]) (by simp (maxDischargeDepth := 9) [results, Try.results46, go_sem, z0, z1, z2, z3]) rfl Hb.out
          · go_wp2_with fail
            exact bodyPost_ret (v := .tuple #[.agg #[.int .i64 0, .int .i64 0, .string ⟨#[]⟩, .slice none 0 0], .int .i64 8]) (by simp (maxDischargeDepth := 9) [results, Try.results46, go_sem, z0, z1, z2, z3]) rfl Hb.out
      · obtain rfl : k = L.length := by omega
        have hx2 := hx.out
        rw [List.drop_length, T.at] at hx2
        obtain ⟨hxi, hxo, hxf, hxa⟩ := hx2
        have Hc := Lib.hid (show Calls Try.prog 81 #[.agg #[.int .i64 x.k, .int .i64 x.n, .string x.s, .slice x.p x.l.length x.c]] wr _ from copyT_calls hxi hxf)
        have Hxa := Lib.hid hxa
        clear hx hxi hxo hxf hxa
        go_wp2_with fail
        refine Hc.out.mono ?_
        rintro e w5 ⟨g, gin, ge, rfl, g5, gon, gwh, gtr⟩
        rw [show g.val = .agg #[.int .i64 g.k, .int .i64 g.n, .string g.s, .slice g.p g.l.length g.c] from rfl]
        obtain ⟨⟨z0, z1, z2, z3⟩, ⟨r0, r1, r2, r3⟩, _⟩ := (B4.out.gr g5).parts
        have kk := Kp.sets (C := (· = w.heap.size + 1)) (w := w5) (b := w.heap.size + 1) rfl (.int .i64 g.k) (.int .i64 g.n) (.string g.s) (.slice g.p g.l.length g.c)
        have hs5 : wr.heap.size ≤ w5.heap.size := g5.size
        have gw5 : Gr w w5 := gwr.trans g5
        have Hb := Lib.hid (HR3.out g _ Hf.out (by rw [Hxa.out, ge]) (Below.trans gw5 (kk.below (B := w.heap.size) (fun b hb => by omega) gw5.size)) (kp_in gin gon (fun b hb e => by have hb' : wr.heap.size ≤ b := hb; omega) kk) (gon.mono fun b hb => by have hb' : wr.heap.size ≤ b := hb; omega)
          (Tm.Whole.same (S := fun b => wr.heap.size ≤ b ∧ b < w5.heap.size) (fun b hb => kk.block b hb.2 (by have := hb.1; omega)) (Tm.On.and gon gin.on) gwh) (gtr.mono (by omega) kk.size))
        clear x0 x1 x2 x3 f0 f1 f2 f3 kk gin ge gon gwh gtr
        go_wp2_with fail
        exact bodyPost_ret (v := .tuple #[.agg #[.int .i64 g.k, .int .i64 g.n, .string g.s, .slice g.p g.l.length g.c], .int .i64 0]) (by simp (maxDischargeDepth := 9) [results, Try.results46, go_sem, z0, z1, z2, z3]) rfl Hb.out
  · have hf0 : t.erase.formed = false := Bool.eq_false_iff.2 hf
    rewrite [hf0]
    obtain ⟨⟨z0, z1, z2, z3⟩, ⟨r0, r1, r2, r3⟩, _⟩ := (h4.out.gr g1).parts
    have kk := Kp.sets (C := (· = w.heap.size + 1)) (w := w1) (b := w.heap.size + 1) rfl (.int .i64 0) (.int .i64 0) (.string ⟨#[]⟩) (.slice none 0 0)
    have Hb := Lib.hid (HR1.out _ hf0 (Below.trans gw1 (kk.below (B := w.heap.size) (fun b hb => by omega) gw1.size)))
    clear hf hf0 kk
    go_wp2_with fail
    exact bodyPost_ret (v := .tuple #[.agg #[.int .i64 0, .int .i64 0, .string ⟨#[]⟩, .slice none 0 0], .int .i64 2]) (by simp (maxDischargeDepth := 9) [results, Try.results46, go_sem, z0, z1, z2, z3]) rfl Hb.out
end Go.Proofs.Ytcblmkhhhibddaa

namespace Go.Proofs.Ytcblmkhhhibddaa
open Go.RowKit Go.Maps Go.Lib

def Tm.at : Tm → List Int → Option Tm
  | t, [] => some t
  | t, i :: is => match (if 0 ≤ i then t.l[i.toNat]? else none) with
    | none => none
    | some x => Tm.at x is
theorem tmat_erase : ∀ (L : List Int) (t : Tm), T.at t.erase L = (Tm.at t L).map Tm.erase
  | [], t => by rw [T.at, Tm.at]; rfl
  | i :: is, t => by
    by_cases h : 0 ≤ i ∧ i.toNat < t.l.length
    · rw [at_tm h.1 h.2, Tm.at, if_pos h.1, List.getElem?_eq_getElem h.2, tmat_erase is]
    · rw [at_out (fun h' => h ⟨h'.1, by rw [erase_ls, Tm.eraseL_length] at h'; omega⟩), Tm.at]
      by_cases h0 : 0 ≤ i
      · rw [if_pos h0, List.getElem?_eq_none (by omega)]; rfl
      · rw [if_neg h0]; rfl
theorem tmat_in {w : World} : ∀ (L : List Int) (t x : Tm), t.In w → Tm.at t L = some x → x.In w
  | [], t, x, h, hx => by rw [Tm.at] at hx; cases hx; exact h
  | i :: is, t, x, h, hx => by
    rw [Tm.at] at hx
    cases hy : (if 0 ≤ i then t.l[i.toNat]? else none) with
    | none => rw [hy] at hx; cases hx
    | some y =>
      rw [hy] at hx
      refine tmat_in is y x ?_ hx
      by_cases h0 : 0 ≤ i
      · rw [if_pos h0] at hy
        obtain ⟨k, n, s, p, c, l⟩ := t
        rw [Tm.In] at h
        exact Tm.InL_mem h.2.2.2.2.2.2 y (List.mem_of_getElem? hy)
      · rw [if_neg h0] at hy; cases hy
/-- The part that is handed back. -/
def Tm.atD (t : Tm) (L : List Int) : Tm := (Tm.at t L).getD zeroTm
theorem tmat_step {t : Tm} {j : Nat} {is : List Int} (h : j < t.l.length) : Tm.at t ((j : Int) :: is) = Tm.at t.l[j] is := by
  rw [Tm.at, if_pos (by omega), Int.toNat_natCast, List.getElem?_eq_getElem h]
theorem tmat_out {t : Tm} {i : Int} {is : List Int} (h : ¬ (0 ≤ i ∧ i < t.l.length)) : Tm.at t (i :: is) = none := by
  rw [Tm.at]
  by_cases h0 : 0 ≤ i
  · rw [if_pos h0, List.getElem?_eq_none (by omega)]
  · rw [if_neg h0]
theorem IntSl.kpL {C : Nat → Prop} {w w' : World} {p : Option Addr} {c : Nat} {L : List Int} (h : IntSl w p c L) (k : Kp C w w') (hC : ∀ b, b < w.heap.size → ¬ C b) : IntSl w' p c L := by
  obtain ⟨h1, h2, h3, h4⟩ := h
  refine ⟨h1, h2, h3, h4.imp id ?_⟩
  rintro ⟨b, o, hp, hb, hr⟩
  exact ⟨b, o, hp, Nat.lt_of_lt_of_le hb k.size, fun i n hn => k.cell (hr i n hn) (hC b hb)⟩
def ratOf (L : List Int) : Prop := ∀ (t : Tm) (p : Option Addr) (c : Nat) (w : World), t.In w → IntSl w p c L → Calls Try.prog 101 #[t.val, .slice p L.length c] w (Ret (.tuple #[(Tm.atD t L).val, .bool (Tm.at t L).isSome]) w)

set_option maxHeartbeats 1000000 in
set_option maxRecDepth 100000 in
theorem rat_nil : ratOf [] := by
  intro t p c w it hL
  have hR : Hid (∀ w', Gr w w' → Ret (.tuple #[(Tm.atD t []).val, .bool (Tm.at t []).isSome]) w (.returned (.tuple #[.agg #[.int .i64 t.k, .int .i64 t.n, .string t.s, .slice t.p t.l.length t.c], .bool true])) w') := fun w' h => ⟨by rw [Tm.atD, Tm.at]; rfl, h⟩
  generalize Ret (.tuple #[(Tm.atD t []).val, .bool (Tm.at t []).isSome]) w = Q at hR ⊢
  clear it hL
  rw [show t.val = .agg #[.int .i64 t.k, .int .i64 t.n, .string t.s, .slice t.p t.l.length t.c] from rfl]
  go_enter Try.func101, Try.ntmps101
  try simp only [List.append_eq, List.cons_append, List.nil_append]
  go_upto_region 1 with fail
  obtain ⟨h3, h4, gA⟩ := two_blocks w (.int .i64 t.k) (.int .i64 t.n) (.string t.s) (.slice t.p t.l.length t.c) (.int .i64 0) (.int .i64 0) (.string ⟨#[]⟩) (.slice none 0 0)
  have sA : ((w.alloc (.cells #[.int .i64 t.k, .int .i64 t.n, .string t.s, .slice t.p t.l.length t.c] 25)).alloc (.cells #[.int .i64 0, .int .i64 0, .string ⟨#[]⟩, .slice none 0 0] 25)).heap.size = w.heap.size + 2 := by simp
  generalize ((w.alloc (.cells #[.int .i64 t.k, .int .i64 t.n, .string t.s, .slice t.p t.l.length t.c] 25)).alloc (.cells #[.int .i64 0, .int .i64 0, .string ⟨#[]⟩, .slice none 0 0] 25)) = wA at *
  obtain ⟨⟨x0, x1, x2, x3⟩, _, _⟩ := h3.out.parts
  obtain ⟨⟨z0, z1, z2, z3⟩, ⟨r0, r1, r2, r3⟩, _⟩ := h4.out.parts
  have kk := Kp.sets (C := (· = w.heap.size + 1)) (w := wA) (b := w.heap.size + 1) rfl (.int .i64 t.k) (.int .i64 t.n) (.string t.s) (.slice t.p t.l.length t.c)
  have Hb := Lib.hid (hR.out _ (Below.trans gA (kk.below (B := w.heap.size) (fun b hb => by omega) gA.size)))
  clear kk
  go_wp2_with fail
  exact bodyPost_ret (v := .tuple #[.agg #[.int .i64 t.k, .int .i64 t.n, .string t.s, .slice t.p t.l.length t.c], .bool true]) (by simp (maxDischargeDepth := 9) [results, Try.results101, go_sem, z0, z1, z2, z3]) rfl Hb.out

set_option maxHeartbeats 2000000 in
set_option maxRecDepth 100000 in
theorem rat_cons (n : Int) (L : List Int) (ih : ratOf L) : ratOf (n :: L) := by
  intro t p c w it hL
  have hLc := hL.1
  have hLc2 := hL.2.1
  have hni : In64 n := hL.2.2.1 n (List.mem_cons_self ..)
  obtain ⟨b0, o0, rfl, hbl, hcells⟩ := hL.ptr (by simp)
  have hc := hcells 0 n rfl
  rw [Nat.add_zero] at hc
  obtain ⟨pq, hpq⟩ : ∃ pq : Option Addr, (if c = 1 then some ⟨b0, o0, none⟩ else some ⟨b0, o0 + 1, none⟩) = pq := ⟨_, rfl⟩
  have hL2 : IntSl w pq (c - 1) L := ⟨by simp at hLc; omega, by omega, fun x hx => hL.2.2.1 x (List.mem_cons_of_mem _ hx), by
    by_cases hc1 : c = 1
    · exact .inl (List.eq_nil_of_length_eq_zero (by simp at hLc; omega))
    · rw [if_neg hc1] at hpq
      exact .inr ⟨b0, o0 + 1, hpq.symm, hbl, fun i x hx => by
        have := hcells (i + 1) x (by simpa using hx)
        rwa [show o0 + 1 + i = o0 + (i + 1) by omega]⟩⟩
  have HL2 := Lib.hid hL2
  have It := Lib.hid it
  have Hih := Lib.hid ih
  have hR : Hid (∀ (e : Ending) w', Ret (.tuple #[(Tm.atD t (n :: L)).val, .bool (Tm.at t (n :: L)).isSome]) w e w' → Ret (.tuple #[(Tm.atD t (n :: L)).val, .bool (Tm.at t (n :: L)).isSome]) w e w') := fun e w' h => h
  generalize hQ : Ret (.tuple #[(Tm.atD t (n :: L)).val, .bool (Tm.at t (n :: L)).isSome]) w = Q at hR ⊢
  have HQ := Lib.hid hQ
  clear it hL hL2 hQ hR hcells ih
  rw [show t.val = .agg #[.int .i64 t.k, .int .i64 t.n, .string t.s, .slice t.p t.l.length t.c] from rfl, List.length_cons]
  rw [List.length_cons] at hLc
  go_enter Try.func101, Try.ntmps101
  try simp only [List.append_eq, List.cons_append, List.nil_append]
  go_upto_region 1 with fail
  obtain ⟨h3, h4, gA⟩ := two_blocks w (.int .i64 t.k) (.int .i64 t.n) (.string t.s) (.slice t.p t.l.length t.c) (.int .i64 0) (.int .i64 0) (.string ⟨#[]⟩) (.slice none 0 0)
  have sA : ((w.alloc (.cells #[.int .i64 t.k, .int .i64 t.n, .string t.s, .slice t.p t.l.length t.c] 25)).alloc (.cells #[.int .i64 0, .int .i64 0, .string ⟨#[]⟩, .slice none 0 0] 25)).heap.size = w.heap.size + 2 := by simp
  generalize ((w.alloc (.cells #[.int .i64 t.k, .int .i64 t.n, .string t.s, .slice t.p t.l.length t.c] 25)).alloc (.cells #[.int .i64 0, .int .i64 0, .string ⟨#[]⟩, .slice none 0 0] 25)) = wA at *
  obtain ⟨⟨x0, x1, x2, x3⟩, _, _⟩ := h3.out.parts
  have hcA := Gr.at gA hc
  clear hc
  by_cases hin : 0 ≤ n ∧ n < t.l.length
  · obtain ⟨hn0, hn1⟩ := hin
    obtain ⟨j, rfl⟩ : ∃ j : Nat, n = j := ⟨n.toNat, by omega⟩
    have hnl : j < t.l.length := by omega
    have hst := tmat_step (is := L) hnl
    obtain ⟨k, n0, s, p0, c0', l⟩ := t
    simp only [Tm.k, Tm.n, Tm.s, Tm.p, Tm.c, Tm.l] at *
    have hsl := It.out.sl
    obtain ⟨b2, o2, rfl⟩ := hsl.ptr (by omega)
    have hb2 : b2 < w.heap.size := by
      obtain ⟨⟨e0, _⟩, _⟩ := hsl.elem j hnl
      exact World.block_lt_of_cell? _ _ e0
    obtain ⟨⟨c0, c1, c2, c3⟩, hyi, _⟩ := (hsl.mono gA).elem j hnl
    have hlc := hsl.1
    have hlb := hsl.2.1
    have hyo := (hsl.elem j hnl).2.1
    have Hc := Lib.hid (fun (w' : World) (g : Kp (· = w.heap.size + 1) w w') => Hih.out l[j] pq (c - 1) w' (kp_in hyo hyo.on (fun b hb => by omega) g) (HL2.out.kpL g (fun b hb => by omega)))
    have Hfin : Hid (∀ w', Gr w w' → Q (.returned (.tuple #[(Tm.atD l[j] L).val, .bool (Tm.at l[j] L).isSome])) w') := fun w' g => by
      rw [← HQ.out]
      exact ⟨by rw [Tm.atD, Tm.atD, hst]; rfl, g⟩
    clear hst hyi hsl HQ hyo
    generalize l[j] = y at *
    generalize Tm.atD y L = g at *
    generalize (Tm.at y L).isSome = d at *
    rw [show y.val = .agg #[.int .i64 y.k, .int .i64 y.n, .string y.s, .slice y.p y.l.length y.c] from rfl, show g.val = .agg #[.int .i64 g.k, .int .i64 g.n, .string g.s, .slice g.p g.l.length g.c] from rfl] at Hc
    have hd1 : decide ((j : Int) < 0) = false := by simp
    have hd2 : decide ((l.length : Int) ≤ (j : Int)) = false := by simp; omega
    go_upto_region 3 with fail
    go_quiet (fail)
    have hL1 : (1 : Int) ≤ (L.length : Int) + 1 := by omega
    have n1 : ¬ b0 = w.heap.size + 1 := by omega
    have n2 : ¬ w.heap.size = w.heap.size + 1 := by omega
    have n3 : ¬ b2 = w.heap.size + 1 := by omega
    have gN : Gr wA (wA.drewN nq) := (Gr.rfl' wA).drewN nq
    have c0n := Gr.at gN c0
    have c1n := Gr.at gN c1
    have c2n := Gr.at gN c2
    have c3n := Gr.at gN c3
    have x3n := Gr.at gN x3
    have hcn := Gr.at gN hcA
    have H4 := h4.out.gr gN
    clear x0 x1 x2 x3 c0 c1 c2 c3 hcA
    generalize wA.drewN nq = wB at *
    have gwB : Gr w wB := gA.trans gN
    go_upto_region 5 with fail
    refine wp_region_relyA 14 [fx (.pointer (some ⟨w.heap.size, 3, none⟩)), fx (.slice (some ⟨b2, o2, none⟩) l.length c0'), fx (.slice (some ⟨b0, o0, none⟩) (L.length + 1) c), fx (.pointer (some ⟨b0, o0, none⟩)), fx (.int .i64 j), fx (.pointer (some ⟨b2, o2 + j * 4, none⟩)), fx (.agg #[.int .i64 y.k, .int .i64 y.n, .string y.s, .slice y.p y.l.length y.c]), fx (.slice (some ⟨b0, o0, none⟩) (L.length + 1) c), fx (.slice pq L.length (c - 1)), fx (.tuple #[.agg #[.int .i64 g.k, .int .i64 g.n, .string g.s, .slice g.p g.l.length g.c], .bool d]), fx (.agg #[.int .i64 g.k, .int .i64 g.n, .string g.s, .slice g.p g.l.length g.c]), fx (.bool d), fx undef, fx (.bool d)]
      (Kp (fun b => b = (w.heap.size + 1))) (FixJ [⟨12, (w.heap.size + 1), g⟩] 14) (by kernel_rfl) (by kernel_rfl) (by decide) (by kernel_rfl) (fun _ _ h => Kp.of_gr h) (fun _ _ _ h k => Kp.trans h k) (fun w h => FixJ.start (by intro x hx; simp only [List.mem_cons, List.mem_nil_iff, or_false] at hx; subst hx; exact ⟨_, _, _, _, Blk4.gr H4 h⟩)) (by repeat (first | exact StableR.nil | refine StableR.fix ?_)) ?_ ?_
    · refine ⟨stepA_plain (fun _ _ h => Kp.of_gr h) (fun listed a w w' v h hg => FixJ.other rfl listed a w w' v h hg) ?_, stepA_plain (fun _ _ h => Kp.of_gr h) (fun listed a w w' v h hg => FixJ.other rfl listed a w w' v h hg) ?_, stepA_plain (fun _ _ h => Kp.of_gr h) (fun listed a w w' v h hg => FixJ.other rfl listed a w w' v h hg) ?_, stepA_plain (fun _ _ h => Kp.of_gr h) (fun listed a w w' v h hg => FixJ.other rfl listed a w w' v h hg) ?_, stepA_plain (fun _ _ h => Kp.of_gr h) (fun listed a w w' v h hg => FixJ.other rfl listed a w w' v h hg) ?_, stepA_plain (fun _ _ h => Kp.of_gr h) (fun listed a w w' v h hg => FixJ.other rfl listed a w w' v h hg) ?_, stepA_plain (fun _ _ h => Kp.of_gr h) (fun listed a w w' v h hg => FixJ.other rfl listed a w w' v h hg) ?_, stepA_plain (fun _ _ h => Kp.of_gr h) (fun listed a w w' v h hg => FixJ.other rfl listed a w w' v h hg) ?_, stepA_plain (fun _ _ h => Kp.of_gr h) (fun listed a w w' v h hg => FixJ.other rfl listed a w w' v h hg) ?_, stepA_plain (fun _ _ h => Kp.of_gr h) (fun listed a w w' v h hg => FixJ.other rfl listed a w w' v h hg) ?b9, stepA_plain (fun _ _ h => Kp.of_gr h) (fun listed a w w' v h hg => FixJ.other rfl listed a w w' v h hg) ?_, stepA_plain (fun _ _ h => Kp.of_gr h) (fun listed a w w' v h hg => FixJ.other rfl listed a w w' v h hg) ?_, ?a12, stepA_plain (fun _ _ h => Kp.of_gr h) (fun listed a w w' v h hg => FixJ.other rfl listed a w w' v h hg) ?_, trivial⟩
      case a12 =>
        intro listed fr ww hj hl hpre hg hdef hold
        have h1 : fr.tmps[1]?.getD undef = .slice (some ⟨b0, o0, none⟩) (L.length + 1) c := hold 1 rfl
        have h2 : fr.tmps[2]?.getD undef = .pointer (some ⟨w.heap.size, 0, none⟩) := hold 2 rfl
        have h4 : fr.tmps[4]?.getD undef = .pointer (some ⟨w.heap.size + 1, 0, none⟩) := hold 4 rfl
        have z0 := Kp.cell hg c0n n3
        have z1 := Kp.cell hg c1n n3
        have z2 := Kp.cell hg c2n n3
        have z3 := Kp.cell hg c3n n3
        have z4 := Kp.cell hg x3n n2
        have z5 := Kp.cell hg hcn n1
        have Hg := Lib.hid hg
        clear hold x3n c0n c1n c2n c3n hcn
        clear hdef
        simp [predsImp, Region.binds, dstAt, fx]
        intros
        rename_i K hK
        obtain ⟨⟨u0, u1, u2, u3, q1⟩, -⟩ := hj.blk ⟨12, (w.heap.size + 1), g⟩ (by simp)
        simp only at q1
        have Hq := Lib.hid q1
        obtain ⟨⟨p0, p1, p2, p3⟩, ⟨f0, f1, f2, f3⟩, _⟩ := q1.parts
        clear q1
        go_simp
        exact hK _ _ rfl (Kp.sets (C := (· = (w.heap.size + 1))) rfl _ _ _ _) (FixJ.store (x0 := ⟨12, (w.heap.size + 1), g⟩) (by simp) rfl (by intro x hx; simp only [List.mem_cons, List.mem_nil_iff, or_false] at hx; subst hx; exact .inl rfl) hj (Kp.sets (C := (· = (w.heap.size + 1))) rfl _ _ _ _) (Blk4.sets Hq.out _ _ _ _) _)
      case b9 =>
        intro fr ww hg hold
        have h1 : fr.tmps[1]?.getD undef = .slice (some ⟨b0, o0, none⟩) (L.length + 1) c := hold 1 rfl
        have h2 : fr.tmps[2]?.getD undef = .pointer (some ⟨w.heap.size, 0, none⟩) := hold 2 rfl
        have h4 : fr.tmps[4]?.getD undef = .pointer (some ⟨w.heap.size + 1, 0, none⟩) := hold 4 rfl
        have z0 := Kp.cell hg c0n n3
        have z1 := Kp.cell hg c1n n3
        have z2 := Kp.cell hg c2n n3
        have z3 := Kp.cell hg c3n n3
        have z4 := Kp.cell hg x3n n2
        have z5 := Kp.cell hg hcn n1
        have Hg := Lib.hid hg
        clear hold x3n c0n c1n c2n c3n hcn
        have hcc := Hc.out ww ((Kp.of_gr gwB).trans hg)
        have Hcc := Lib.hid hcc
        clear hcc
        simp [predsImp, Region.binds, dstAt, fx]
        intros
        rename_i K hK
        go_simp
        refine Hcc.out.mono ?_
        rintro e w9 ⟨rfl, g9⟩
        exact hK _ _ rfl g9
      all_goals
        intro fr ww hg hold
        have h1 : fr.tmps[1]?.getD undef = .slice (some ⟨b0, o0, none⟩) (L.length + 1) c := hold 1 rfl
        have h2 : fr.tmps[2]?.getD undef = .pointer (some ⟨w.heap.size, 0, none⟩) := hold 2 rfl
        have h4 : fr.tmps[4]?.getD undef = .pointer (some ⟨w.heap.size + 1, 0, none⟩) := hold 4 rfl
        have z0 := Kp.cell hg c0n n3
        have z1 := Kp.cell hg c1n n3
        have z2 := Kp.cell hg c2n n3
        have z3 := Kp.cell hg c3n n3
        have z4 := Kp.cell hg x3n n2
        have z5 := Kp.cell hg hcn n1
        have Hg := Lib.hid hg
        clear hold x3n c0n c1n c2n c3n hcn
        simp [predsImp, Region.binds, dstAt, fx]
        intros
        rename_i K hK
        go_simp
      all_goals exact hK _ _ rfl (Gr.rfl' _)
    · intro wz hg
      rintro _ rfl _ rfl _ rfl _ rfl _ rfl _ rfl _ rfl _ rfl _ rfl _ rfl _ rfl _ rfl _ rfl _ rfl hap
      simp only [Act.put, List.setIfInBounds_toArray, List.set_cons_succ, List.set_cons_zero, List.drop_succ_cons, List.drop_zero] at hap ⊢
      obtain ⟨⟨r0, r1, r2, r3⟩, _, _⟩ := (hap.done (x := ⟨12, (w.heap.size + 1), g⟩) (by simp) (show (12 : Nat) < 14 by decide)).parts
      have gz : Gr w wz := Below.trans gwB (hg.below (fun b hb => by omega) gwB.size)
      have Hb := Lib.hid (Hfin.out wz gz)
      clear hap hg x3n c0n c1n c2n c3n hcn
      go_wp2_with fail
      exact bodyPost_ret (v := .tuple #[.agg #[.int .i64 g.k, .int .i64 g.n, .string g.s, .slice g.p g.l.length g.c], .bool d]) (by simp (maxDischargeDepth := 9) [results, Try.results101, go_sem, r0, r1, r2, r3]) rfl Hb.out
  · have Hfin : Hid (∀ w', Gr w w' → Q (.returned (.tuple #[.agg #[.int .i64 0, .int .i64 0, .string ⟨#[]⟩, .slice none 0 0], .bool false])) w') := fun w' g => by
      rw [← HQ.out]
      exact ⟨by rw [Tm.atD, tmat_out hin]; rfl, g⟩
    have hcase : (n < 0) ∨ (0 ≤ n ∧ (t.l.length : Int) ≤ n) := by omega
    clear HQ hin
    obtain ⟨⟨z0, z1, z2, z3⟩, ⟨r0, r1, r2, r3⟩, _⟩ := h4.out.parts
    have kk : ∀ nq, Kp (· = w.heap.size + 1) (wA.drewN nq) (((((wA.drewN nq).setCell ⟨w.heap.size + 1, 0, none⟩ (.int .i64 0)).setCell ⟨w.heap.size + 1, 1, none⟩ (.int .i64 0)).setCell ⟨w.heap.size + 1, 2, none⟩ (.string ⟨#[]⟩)).setCell ⟨w.heap.size + 1, 3, none⟩ (.slice none 0 0)) := fun nq => Kp.sets (C := (· = w.heap.size + 1)) rfl (.int .i64 0) (.int .i64 0) (.string ⟨#[]⟩) (.slice none 0 0)
    have Hk := Lib.hid (fun nq => Hfin.out _ (Below.trans (gA.trans ((Gr.rfl' wA).drewN nq)) ((kk nq).below (B := w.heap.size) (fun b hb => by omega) (by have := gA.size; simpa using this))))
    clear kk
    rcases hcase with h | ⟨h, h'⟩
    · have hd1 : decide (n < 0) = true := by simp [h]
      go_upto_region 3 with fail
      go_quiet (fail)
      have gN : Gr wA (wA.drewN nq) := (Gr.rfl' wA).drewN nq
      obtain ⟨⟨z0n, z1n, z2n, z3n⟩, ⟨r0n, r1n, r2n, r3n⟩, _⟩ := (h4.out.gr gN).parts
      have Hb := Lib.hid (Hk.out nq)
      clear Hk z0 z1 z2 z3 r0 r1 r2 r3 x0 x1 x2 x3 hcA
      generalize wA.drewN nq = wB at *
      go_wp2_with fail
      exact bodyPost_ret (v := .tuple #[.agg #[.int .i64 0, .int .i64 0, .string ⟨#[]⟩, .slice none 0 0], .bool false]) (by simp (maxDischargeDepth := 9) [results, Try.results101, go_sem, z0n, z1n, z2n, z3n]) rfl Hb.out
    · have hd1 : decide (n < 0) = false := by simp; omega
      have hd2 : decide ((t.l.length : Int) ≤ n) = true := by simp; omega
      go_upto_region 3 with fail
      go_quiet (fail)
      have gN : Gr wA (wA.drewN nq) := (Gr.rfl' wA).drewN nq
      obtain ⟨⟨z0n, z1n, z2n, z3n⟩, ⟨r0n, r1n, r2n, r3n⟩, _⟩ := (h4.out.gr gN).parts
      have Hb := Lib.hid (Hk.out nq)
      clear Hk z0 z1 z2 z3 r0 r1 r2 r3 x0 x1 x2 x3 hcA
      generalize wA.drewN nq = wB at *
      go_wp2_with fail
      exact bodyPost_ret (v := .tuple #[.agg #[.int .i64 0, .int .i64 0, .string ⟨#[]⟩, .slice none 0 0], .bool false]) (by simp (maxDischargeDepth := 9) [results, Try.results101, go_sem, z0n, z1n, z2n, z3n]) rfl Hb.out
theorem rat_any : ∀ L : List Int, ratOf L
  | [] => rat_nil
  | n :: L => rat_cons n L (rat_any L)
theorem rat_calls {t : Tm} {p : Option Addr} {c : Nat} {L : List Int} {w : World} (it : t.In w) (hL : IntSl w p c L) : Calls Try.prog 101 #[t.val, .slice p L.length c] w (Ret (.tuple #[(Tm.atD t L).val, .bool (Tm.at t L).isSome]) w) := rat_any L t p c w it hL
end Go.Proofs.Ytcblmkhhhibddaa
