/-
  term.Put: a term put at a place.
  Slices of pairs.
  Slices of pairs that a call makes by append.
  The pairs that term.general has met, in memory; what it answers.
-/
import Derived.Test.YtcblmkhhhibddaaTS27
import Derived.Test.YtcblmkhhhibddaaTS29
import Derived.Test.YtcblmkhhhibddaaTS13
import Derived.Test.YtcblmkhhhibddaaTS17
import Derived.Test.YtcblmkhhhibddaaTS03
import Derived.Test.YtcblmkhhhibddaaTS08
import Derived.Test.YtcblmkhhhibddaaTS06
namespace Go.Proofs.Ytcblmkhhhibddaa
open Go.RowKit Go.Maps Go.Lib

/-- Put's answer. -/
def RetPut (t : T) (L : List Int) (u : T) (w : World) (e : Ending) (w' : World) : Prop := Gr w w' ∧
  (((t.formed && u.formed) = false ∧ e = .returned (.tuple #[zeroTm.val, .int .i64 2])) ∨
   ((t.formed && u.formed) = true ∧ T.at t L = none ∧ e = .returned (.tuple #[zeroTm.val, .int .i64 8])) ∨
   ((t.formed && u.formed) = true ∧ (T.at t L).isSome = true ∧ ∃ g : Tm, e = .returned (.tuple #[g.val, .int .i64 0]) ∧ g.In w' ∧ g.erase = T.put t L u ∧ g.On (w.heap.size ≤ ·) ∧ g.Whole w'))

set_option maxHeartbeats 4000000 in
set_option maxRecDepth 100000 in
theorem put_calls (t : Tm) (p : Option Addr) (c : Nat) (L : List Int) (u : Tm) (w : World) (it : t.In w) (hL : IntSl w p c L) (iu : u.In w) : Calls Try.prog 48 #[t.val, .slice p L.length c, u.val] w (RetPut t.erase L u.erase w) := by
  have It := Lib.hid it
  have Iu := Lib.hid iu
  have HL := Lib.hid hL
  have hLc := hL.1
  have hLc2 := hL.2.1
  have hall : ∀ (w0 w' : World), Gr w w0 → Gr (w0.alloc (.cells #[.int .i64 t.k, .int .i64 t.n, .string t.s, .slice t.p t.l.length t.c, .int .i64 u.k, .int .i64 u.n, .string u.s, .slice u.p u.l.length u.c] 25)) w' → Calls Try.prog 79 #[.slice (some ⟨w0.heap.size, 0, none⟩) 2 2] w' (Ret (.bool (t.erase.formed && u.erase.formed)) w') := fun w0 w' h0 h1 => by
    have h2 := all_calls (two_new (Tm.In_below h0 it) (Tm.In_below h0 iu) h1)
    rw [show T.formedL (Tm.eraseL [t, u]) = (t.erase.formed && u.erase.formed) by simp [Tm.eraseL, T.formedL]] at h2
    exact h2
  have Hall := Lib.hid hall
  have Hat := Lib.hid (fun (w' : World) (g : Gr w w') => show Calls Try.prog 46 #[.agg #[.int .i64 t.k, .int .i64 t.n, .string t.s, .slice t.p t.l.length t.c], .slice p L.length c] w' _ from at_calls t p c L w' (Tm.In_below g it) (hL.mono g))
  have Hcopy := Lib.hid (fun (hf : t.erase.formed = true) (w' : World) (g : Gr w w') => show Calls Try.prog 81 #[.agg #[.int .i64 t.k, .int .i64 t.n, .string t.s, .slice t.p t.l.length t.c]] w' _ from copyT_calls (t := t) (Tm.In_below g it) hf)
  have Hcopu := Lib.hid (fun (hf : u.erase.formed = true) (w' : World) (g : Gr w w') => show Calls Try.prog 81 #[.agg #[.int .i64 u.k, .int .i64 u.n, .string u.s, .slice u.p u.l.length u.c]] w' _ from copyT_calls (t := u) (Tm.In_below g iu) hf)
  have hR1 : Hid (∀ w', (t.erase.formed && u.erase.formed) = false → Gr w w' → RetPut t.erase L u.erase w (.returned (.tuple #[.agg #[.int .i64 0, .int .i64 0, .string ⟨#[]⟩, .slice none 0 0], .int .i64 2])) w') := fun w' h1 h2 => ⟨h2, .inl ⟨h1, rfl⟩⟩
  have hR2 : Hid (∀ w', (t.erase.formed && u.erase.formed) = true → T.at t.erase L = none → Gr w w' → RetPut t.erase L u.erase w (.returned (.tuple #[.agg #[.int .i64 0, .int .i64 0, .string ⟨#[]⟩, .slice none 0 0], .int .i64 8])) w') := fun w' h1 h3 h2 => ⟨h2, .inr (.inl ⟨h1, h3, rfl⟩)⟩
  have hR3 : Hid (∀ (g : Tm) w', (t.erase.formed && u.erase.formed) = true → (T.at t.erase L).isSome = true → Gr w w' → g.In w' → g.erase = T.put t.erase L u.erase → g.On (w.heap.size ≤ ·) → g.Whole w' → RetPut t.erase L u.erase w (.returned (.tuple #[.agg #[.int .i64 g.k, .int .i64 g.n, .string g.s, .slice g.p g.l.length g.c], .int .i64 0])) w') := fun g w' h1 h3 h2 h4 h5 h6 h7 => ⟨h2, .inr (.inr ⟨h1, h3, g, rfl, h4, h5, h6, h7⟩)⟩
  generalize RetPut t.erase L u.erase w = Q at hR1 hR2 hR3 ⊢
  have HR1 := hR1
  have HR2 := hR2
  have HR3 := hR3
  clear it hL iu hall hR1 hR2 hR3
  rw [show t.val = .agg #[.int .i64 t.k, .int .i64 t.n, .string t.s, .slice t.p t.l.length t.c] from rfl, show u.val = .agg #[.int .i64 u.k, .int .i64 u.n, .string u.s, .slice u.p u.l.length u.c] from rfl]
  go_enter Try.func48, Try.ntmps48
  try simp only [List.append_eq, List.cons_append, List.nil_append]
  go_upto_region 1 with fail
  obtain ⟨h3, h4, h5, gA⟩ := three_blocks w (.int .i64 t.k) (.int .i64 t.n) (.string t.s) (.slice t.p t.l.length t.c) (.int .i64 u.k) (.int .i64 u.n) (.string u.s) (.slice u.p u.l.length u.c) (.int .i64 0) (.int .i64 0) (.string ⟨#[]⟩) (.slice none 0 0)
  have sA : (((w.alloc (.cells #[.int .i64 t.k, .int .i64 t.n, .string t.s, .slice t.p t.l.length t.c] 25)).alloc (.cells #[.int .i64 u.k, .int .i64 u.n, .string u.s, .slice u.p u.l.length u.c] 25)).alloc (.cells #[.int .i64 0, .int .i64 0, .string ⟨#[]⟩, .slice none 0 0] 25)).heap.size = w.heap.size + 3 := by simp
  generalize (((w.alloc (.cells #[.int .i64 t.k, .int .i64 t.n, .string t.s, .slice t.p t.l.length t.c] 25)).alloc (.cells #[.int .i64 u.k, .int .i64 u.n, .string u.s, .slice u.p u.l.length u.c] 25)).alloc (.cells #[.int .i64 0, .int .i64 0, .string ⟨#[]⟩, .slice none 0 0] 25)) = wA at *
  have SA := Lib.hid sA
  clear sA
  obtain ⟨⟨x0, x1, x2, x3⟩, _, _⟩ := h3.out.parts
  obtain ⟨⟨y0, y1, y2, y3⟩, _, _⟩ := h4.out.parts
  go_wp2_with fail
  refine (Hall.out _ _ gA (Gr.rfl' _)).mono ?_
  rintro e w1 ⟨rfl, g1⟩
  have gA1 : Gr wA w1 := Gr.trans (show Gr wA _ by go_grown) g1
  have gw1 : Gr w w1 := gA.trans gA1
  clear x0 x1 x2 x3 y0 y1 y2 y3 g1 Hall
  have hs1 : w.heap.size + 3 ≤ w1.heap.size := by have := gA1.size; have := SA.out; omega
  by_cases hf : (t.erase.formed && u.erase.formed) = true
  · have Hf := Lib.hid hf
    rewrite [hf]
    rw [Bool.and_eq_true] at hf
    obtain ⟨hft, hfu⟩ := hf
    have Hft := Lib.hid hft
    have Hfu := Lib.hid hfu
    clear hft hfu
    obtain ⟨⟨x0, x1, x2, x3⟩, _, _⟩ := (h3.out.gr gA1).parts
    have Hat2 := Lib.hid (Hat.out w1 gw1)
    go_wp2_with fail
    refine Hat2.out.mono ?_
    rintro e w2 ⟨g2, hcase⟩
    have gw2 : Gr w w2 := gw1.trans g2
    have hs2 : w1.heap.size ≤ w2.heap.size := g2.size
    clear x0 x1 x2 x3 Hat Hat2
    rcases hcase with ⟨h, -⟩ | ⟨-, hn, rfl⟩ | ⟨-, x, g0, hsome, rfl, -, -, -, -, -⟩
    · rw [Hft.out] at h; cases h
    · rw [show zeroTm.val = .agg #[.int .i64 0, .int .i64 0, .string ⟨#[]⟩, .slice none 0 0] from rfl]
      have Hn := Lib.hid hn
      clear hn
      go_upto_region 5 with fail
      have gB : Gr w2 (w2.alloc (.cells #[.int .i64 0, .int .i64 0, .string ⟨#[]⟩, .slice none 0 0] 25)) := by go_grown
      generalize w2.alloc (.cells #[.int .i64 0, .int .i64 0, .string ⟨#[]⟩, .slice none 0 0] 25) = w3 at *
      obtain ⟨⟨z0, z1, z2, z3⟩, ⟨r0, r1, r2, r3⟩, _⟩ := (h5.out.gr (gA1.trans (g2.trans gB))).parts
      have gw3 : Gr w w3 := gw2.trans gB
      have kk := Kp.sets (C := (· = w.heap.size + 2)) (w := w3) (b := w.heap.size + 2) rfl (.int .i64 0) (.int .i64 0) (.string ⟨#[]⟩) (.slice none 0 0)
      have Hb := Lib.hid (HR2.out _ Hf.out Hn.out (Below.trans gw3 (kk.below (B := w.heap.size) (fun b hb => by omega) gw3.size)))
      clear kk
      go_wp2_with fail
      exact bodyPost_ret (v := .tuple #[.agg #[.int .i64 0, .int .i64 0, .string ⟨#[]⟩, .slice none 0 0], .int .i64 8]) (by simp (maxDischargeDepth := 9) [results, Try.results48, go_sem, z0, z1, z2, z3]) rfl Hb.out
    · rw [show g0.val = .agg #[.int .i64 g0.k, .int .i64 g0.n, .string g0.s, .slice g0.p g0.l.length g0.c] from rfl]
      go_upto_region 6 with fail
      have gB : Gr w2 (w2.alloc (.cells #[.int .i64 g0.k, .int .i64 g0.n, .string g0.s, .slice g0.p g0.l.length g0.c] 25)) := by go_grown
      generalize w2.alloc (.cells #[.int .i64 g0.k, .int .i64 g0.n, .string g0.s, .slice g0.p g0.l.length g0.c] 25) = w3 at *
      have gA3 : Gr wA w3 := gA1.trans (g2.trans gB)
      have gw3 : Gr w w3 := gA.trans gA3
      have hs3 : w2.heap.size ≤ w3.heap.size := gB.size
      obtain ⟨⟨x0, x1, x2, x3⟩, _, _⟩ := (h3.out.gr gA3).parts
      have Hc := Lib.hid (Hcopy.out Hft.out w3 gw3)
      go_wp2_with fail
      refine Hc.out.mono ?_
      rintro e w4 ⟨g, gin, ge, rfl, g4, gon, gwh, gtr⟩
      clear x0 x1 x2 x3 Hc Hcopy
      rw [show g.val = .agg #[.int .i64 g.k, .int .i64 g.n, .string g.s, .slice g.p g.l.length g.c] from rfl]
      go_upto_region 7 with fail
      have hG := Blk4.new w4 (.int .i64 g.k) (.int .i64 g.n) (.string g.s) (.slice g.p g.l.length g.c)
      have gC : Gr w4 (w4.alloc (.cells #[.int .i64 g.k, .int .i64 g.n, .string g.s, .slice g.p g.l.length g.c] 25)) := by go_grown
      generalize w4.alloc (.cells #[.int .i64 g.k, .int .i64 g.n, .string g.s, .slice g.p g.l.length g.c] 25) = w5 at *
      have hs4 : w3.heap.size ≤ w4.heap.size := g4.size
      have gA5 : Gr wA w5 := gA3.trans (g4.trans gC)
      have gw5 : Gr w w5 := gA.trans gA5
      have HG := Lib.hid hG
      have Gin := Lib.hid (Tm.In_below gC gin)
      have Gwh := Lib.hid (gwh.gr gin gC)
      have Gon := Lib.hid gon
      have Gtr := Lib.hid gtr
      have Ge := Lib.hid ge
      have hat0 : (Tm.at g L).isSome = true := by
        have h1 := tmat_erase L g
        rw [ge, hsome] at h1
        cases h2 : Tm.at g L with
        | none => rw [h2] at h1; cases h1
        | some y => rfl
      have Hsome := Lib.hid (show (T.at t.erase L).isSome = true by rw [hsome]; rfl)
      have Hat0 := Lib.hid hat0
      clear hG gin gwh gon gtr ge hsome hat0
      go_wp2_with fail
      go_loopg [11, 34] L.length (fun m v11 i wr => ∃ (k : Nat) (x : Tm) (b o : Nat), k ≤ L.length ∧ m = L.length - k ∧ v11 = .pointer (some ⟨b, o, none⟩) ∧ i = .int .i64 k ∧ w5 = wr ∧ Hid (Tm.spot w4.heap.size 0 g L = Tm.spot b o x (L.drop k) ∧ Tm.at g L = Tm.at x (L.drop k) ∧ x.In w5) ∧
        w5.cell? ⟨b, o, none⟩ = some (.int .i64 x.k) ∧ w5.cell? ⟨b, o + 1, none⟩ = some (.int .i64 x.n) ∧ w5.cell? ⟨b, o + 2, none⟩ = some (.string x.s) ∧ w5.cell? ⟨b, o + 3, none⟩ = some (.slice x.p x.l.length x.c))
      case atStart => exact ⟨0, g, w4.heap.size, 0, Nat.zero_le _, rfl, rfl, rfl, rfl, ⟨rfl, rfl, Gin.out⟩, HG.out.parts.1.1, HG.out.parts.1.2.1, HG.out.parts.1.2.2.1, HG.out.parts.1.2.2.2⟩
      case round =>
        obtain ⟨k, x, b, o, hk, rfl, rfl, rfl, rfl, hx, e0, e1, e2, e3⟩ := hrel
        by_cases hlt : k < L.length
        · obtain ⟨b0, o0, rfl, hbl, hcells⟩ := HL.out.ptr (by omega)
          have hc := Gr.at gw5 (hcells k _ (List.getElem?_eq_getElem hlt))
          have hni : In64 L[k] := HL.out.2.2.1 _ (List.getElem_mem hlt)
          have hdr : L.drop k = L[k] :: L.drop (k + 1) := List.drop_eq_getElem_cons hlt
          have hx2 := hx.out
          rw [hdr] at hx2
          clear hx hdr
          generalize L[k] = n at *
          have hin : 0 ≤ n ∧ n < x.l.length := by
            refine Classical.byContradiction fun h => ?_
            have h1 := hx2.2.1
            rw [tmat_out h] at h1
            have h2 := Hat0.out
            rw [h1] at h2
            cases h2
          obtain ⟨hn0, hn1⟩ := hin
          obtain ⟨j, rfl⟩ : ∃ j : Nat, n = j := ⟨n.toNat, by omega⟩
          have hnl : j < x.l.length := by omega
          obtain ⟨hsp, hta, hxi⟩ := hx2
          obtain ⟨xk, xn, xs, xp, xc, xl⟩ := x
          simp only [Tm.k, Tm.n, Tm.s, Tm.p, Tm.c, Tm.l] at hnl hn1 e0 e1 e2 e3
          obtain ⟨b2, o2, rfl⟩ := hxi.sl.ptr (by omega)
          obtain ⟨⟨c0, c1, c2, c3⟩, hyi, _⟩ := hxi.sl.elem j hnl
          have hxlc := hxi.sl.1
          have hxlb := hxi.sl.2.1
          rw [spot_step (a := ⟨b2, o2, none⟩) rfl hnl] at hsp
          rw [tmat_step hnl] at hta
          have hHY := Lib.hid (And.intro hsp (And.intro hta hyi))
          clear hsp hta hxi hyi
          have hge : ¬ (j : Int) < 0 := by omega
          have hlt2 : ¬ (xl.length : Int) ≤ j := by omega
          go_wp2_with fail
          go_roundg (L.length - (k + 1))
          case measure => omega
          case rel => exact ⟨k + 1, _, b2, o2 + j * 4, by omega, rfl, rfl, by go_num, rfl, hHY, c0, c1, c2, c3⟩
        · obtain rfl : k = L.length := by omega
          have hx2 := hx.out
          rw [List.drop_length, Tm.spot, Tm.at] at hx2
          obtain ⟨hsp, hta, hxi⟩ := hx2
          obtain ⟨⟨y0, y1, y2, y3⟩, _, _⟩ := (h4.out.gr gA5).parts
          have Hc := Lib.hid (Hcopu.out Hfu.out w5 gw5)
          have Hsp := Lib.hid hsp
          have Hta := Lib.hid hta
          clear hx hsp hta hxi e0 e1 e2 e3
          go_upto_region 13 with fail
          go_wp2_with fail
          refine Hc.out.mono ?_
          rintro e w6 ⟨y, yin, ye, rfl, g6, yon, ywh, -⟩
          have hs5 : w4.heap.size < w5.heap.size := HG.out.parts.2.2
          have hs6 : w5.heap.size ≤ w6.heap.size := g6.size
          have hplace : ∃ cur, w6.heap[b]? = some (.cells cur 25) ∧ o + 3 < cur.size ∧ w3.heap.size ≤ b ∧ (Tm.put g L y).In (st4 w6 b o y) ∧ (Tm.put g L y).Whole (st4 w6 b o y) ∧ (Tm.put g L y).On (w3.heap.size ≤ ·) ∧
              ((st4 w6 b o y).cell? ⟨w4.heap.size, 0, none⟩ = some (.int .i64 (Tm.put g L y).k) ∧ (st4 w6 b o y).cell? ⟨w4.heap.size, 1, none⟩ = some (.int .i64 (Tm.put g L y).n) ∧ (st4 w6 b o y).cell? ⟨w4.heap.size, 2, none⟩ = some (.string (Tm.put g L y).s) ∧
                (st4 w6 b o y).cell? ⟨w4.heap.size, 3, none⟩ = some (.slice (Tm.put g L y).p (Tm.put g L y).l.length (Tm.put g L y).c)) := by
            have hG6 := HG.out.gr g6
            by_cases hL0 : L = []
            · have hsp := Hsp.out
              rw [hL0, Tm.spot] at hsp
              cases hsp
              have hk := st4_kp w6 w4.heap.size 0 y
              have hc4 := st4_cells (y := y) (o := 0) hG6 (by simp)
              rw [hL0, Tm.put]
              refine ⟨_, hG6, by simp, hs4, kp_in yin yon (fun b hb e => by have hb' : w5.heap.size ≤ b := hb; omega) hk, Tm.Whole.same (S := fun b => w5.heap.size ≤ b ∧ b < w6.heap.size) (fun b hb => hk.block b hb.2 (by omega)) (Tm.On.and yon yin.on) ywh, yon.mono fun b hb => by have hb' : w5.heap.size ≤ b := hb; omega, hc4.1, ?_, ?_, ?_⟩
              · have := hc4.2.1; rwa [Nat.zero_add] at this
              · have := hc4.2.2.1; rwa [Nat.zero_add] at this
              · have := hc4.2.2.2; rwa [Nat.zero_add] at this
            · obtain ⟨b', o', cur, f1, f2, f3, f4, f5, f6, f7, f8⟩ := put_store (w := w6) (y := y) L g x w3.heap.size w4.heap.size w4.heap.size 0 hL0 (Tm.In_below g6 Gin.out) (Gwh.out.gr Gin.out g6) Gtr.out Hta.out yin ywh (yon.mono fun b hb => by have hb' : w5.heap.size ≤ b := hb; show w4.heap.size ≤ b; omega)
              have hsp := Hsp.out
              rw [f1] at hsp
              cases hsp
              have hk := st4_kp w6 b o y
              obtain ⟨⟨q0, q1, q2, q3⟩, _, _⟩ := hG6.parts
              obtain ⟨e0, e1, e2, e3, e4, e5⟩ := put_head L g y hL0
              have hne : ¬ w4.heap.size = b := by omega
              refine ⟨cur, f4, f5, f2, f6, f7, f8, ?_, ?_, ?_, ?_⟩
              · rw [e0]; exact hk.cell q0 hne
              · rw [e1]; exact hk.cell q1 hne
              · rw [e2]; exact hk.cell q2 hne
              · rw [e3, e4, e5]; exact hk.cell q3 hne
          obtain ⟨cur, hcur, hsz, hb3, rin, rwh, ron, q0, q1, q2, q3⟩ := hplace
          have re : (Tm.put g L y).erase = T.put t.erase L u.erase := by rw [put_erase, Ge.out, ye]
          have hk6 := st4_kp w6 b o y
          have B5 := Lib.hid ((h5.out.gr (gA5.trans g6)).kp hk6 (by omega))
          have gw6 : Gr w w6 := gw5.trans g6
          have gw7 : Gr w (st4 w6 b o y) := Below.trans gw6 (hk6.below (B := w.heap.size) (fun c hc => by omega) gw6.size)
          have l0 := cell_of_row w6 b o _ _ _ hcur
          have l1 := cell_of_row w6 b (o + 1) _ _ _ hcur
          have l2 := cell_of_row w6 b (o + 2) _ _ _ hcur
          have l3 := cell_of_row w6 b (o + 3) _ _ _ hcur
          rw [Array.getElem?_eq_getElem (by omega)] at l0 l1 l2 l3
          have m0 := frozen_of_row w6 b o _ _ hcur
          have m1 := frozen_of_row w6 b (o + 1) _ _ hcur
          have m2 := frozen_of_row w6 b (o + 2) _ _ hcur
          have m3 := frozen_of_row w6 b (o + 3) _ _ hcur
          generalize Tm.put g L y = res at *
          rw [show y.val = .agg #[.int .i64 y.k, .int .i64 y.n, .string y.s, .slice y.p y.l.length y.c] from rfl]
          clear y0 y1 y2 y3 hcur hk6 Hc
          go_upto_region 14 with fail
          change Code.wp _ _ _ _ (st4 w6 b o y)
          generalize st4 w6 b o y = w7 at *
          obtain ⟨⟨z0, z1, z2, z3⟩, ⟨r0, r1, r2, r3⟩, _⟩ := B5.out.parts
          have kk := Kp.sets (C := (· = w.heap.size + 2)) (w := w7) (b := w.heap.size + 2) rfl (.int .i64 res.k) (.int .i64 res.n) (.string res.s) (.slice res.p res.l.length res.c)
          have Hb := Lib.hid (HR3.out res _ Hf.out Hsome.out (Below.trans gw7 (kk.below (B := w.heap.size) (fun b hb => by omega) gw7.size)) (kp_in rin ron (fun b hb e => by have hb' : w3.heap.size ≤ b := hb; omega) kk) re (ron.mono fun b hb => by have hb' : w3.heap.size ≤ b := hb; omega)
            (Tm.Whole.same (S := fun b => w3.heap.size ≤ b ∧ b < w7.heap.size) (fun b hb => kk.block b hb.2 (by have := hb.1; omega)) (Tm.On.and ron rin.on) rwh))
          clear kk rin ron rwh l0 l1 l2 l3 m0 m1 m2 m3
          go_wp2_with fail
          exact bodyPost_ret (v := .tuple #[.agg #[.int .i64 res.k, .int .i64 res.n, .string res.s, .slice res.p res.l.length res.c], .int .i64 0]) (by simp (maxDischargeDepth := 9) [results, Try.results48, go_sem, z0, z1, z2, z3]) rfl Hb.out
  · have hf0 : (t.erase.formed && u.erase.formed) = false := Bool.eq_false_iff.2 hf
    obtain ⟨⟨z0, z1, z2, z3⟩, ⟨r0, r1, r2, r3⟩, _⟩ := (h5.out.gr gA1).parts
    have kk := Kp.sets (C := (· = w.heap.size + 2)) (w := w1) (b := w.heap.size + 2) rfl (.int .i64 0) (.int .i64 0) (.string ⟨#[]⟩) (.slice none 0 0)
    have Hb := Lib.hid (HR1.out _ hf0 (Below.trans gw1 (kk.below (B := w.heap.size) (fun b hb => by omega) gw1.size)))
    rewrite [hf0]
    clear hf hf0 kk
    go_wp2_with fail
    exact bodyPost_ret (v := .tuple #[.agg #[.int .i64 0, .int .i64 0, .string ⟨#[]⟩, .slice none 0 0], .int .i64 2]) (by simp (maxDischargeDepth := 9) [results, Try.results48, go_sem, z0, z1, z2, z3]) rfl Hb.out
end Go.Proofs.Ytcblmkhhhibddaa

namespace Go.Proofs.Ytcblmkhhhibddaa
open Go.ChangeShapes Go.WideShapes Go.ChangeAt Go.RowKit Go.Deep

section
variable {H : Type} {enc : TypeId × Value → H} {W : World}

/-- A pair with its addresses. -/
structure Pr where
  a : Tm
  b : Tm

def Pr.cells (x : Pr) : List Value := x.a.cells ++ x.b.cells
def Pr.row (w : World) (b o : Nat) (l : List Pr) : Prop :=
  ∀ (i : Nat) (x : Pr), l[i]? = some x →
    (w.cell? ⟨b, o + i * 8, none⟩ = some (.int .i64 x.a.k) ∧ w.cell? ⟨b, o + i * 8 + 1, none⟩ = some (.int .i64 x.a.n) ∧
    w.cell? ⟨b, o + i * 8 + 2, none⟩ = some (.string x.a.s) ∧ w.cell? ⟨b, o + i * 8 + 3, none⟩ = some (.slice x.a.p x.a.l.length x.a.c)) ∧
    (w.cell? ⟨b, o + i * 8 + 4, none⟩ = some (.int .i64 x.b.k) ∧ w.cell? ⟨b, o + i * 8 + 4 + 1, none⟩ = some (.int .i64 x.b.n) ∧
    w.cell? ⟨b, o + i * 8 + 4 + 2, none⟩ = some (.string x.b.s) ∧ w.cell? ⟨b, o + i * 8 + 4 + 3, none⟩ = some (.slice x.b.p x.b.l.length x.b.c))

/-- A slice of pairs. -/
structure Prs where
  p : Option Addr
  c : Nat
  l : List Pr
def Prs.val (x : Prs) : Value := .slice x.p x.l.length x.c
def Prs.In (w : World) (x : Prs) : Prop :=
  x.l.length ≤ x.c ∧ (x.l.length * 112 ≤ 140737488351232 ∧ x.c ≤ 9223372036854775807) ∧ (x.l = [] ∨ ∃ b o, x.p = some ⟨b, o, none⟩ ∧ Pr.row w b o x.l) ∧ ∀ y ∈ x.l, y.a.In w ∧ y.b.In w

theorem Pr.row_lt {w : World} {b o : Nat} {l : List Pr} (h : Pr.row w b o l) (hl : l ≠ []) : b < w.heap.size := by
  cases l with
  | nil => exact absurd rfl hl
  | cons x xs => exact World.block_lt_of_cell? _ _ (h 0 x rfl).1.1
theorem Prs.In.mono {w w' : World} {x : Prs} (h : x.In w) (hg : Gr w w') : x.In w' := by
  obtain ⟨h1, h2, h3, h4⟩ := h
  refine ⟨h1, h2, ?_, fun y hy => ⟨Tm.In_below hg (h4 y hy).1, Tm.In_below hg (h4 y hy).2⟩⟩
  rcases h3 with h3 | ⟨b, o, hp, hr⟩
  · exact .inl h3
  · by_cases hl : x.l = []
    · exact .inl hl
    · refine .inr ⟨b, o, hp, fun i y hy => ?_⟩
      have hlt := Pr.row_lt hr hl
      have hs : ∀ o', w'.cell? ⟨b, o', none⟩ = w.cell? ⟨b, o', none⟩ := fun o' => hg.cell (p := ⟨b, o', none⟩) hlt
      have := hr i y hy
      simpa only [hs] using this
theorem Prs.In.elem {w : World} {b o : Nat} {c : Nat} {l : List Pr} (h : (Prs.mk (some ⟨b, o, none⟩) c l).In w) (i : Nat) (hi : i < l.length) :
    ((w.cell? ⟨b, o + i * 8, none⟩ = some (.int .i64 l[i].a.k) ∧ w.cell? ⟨b, o + i * 8 + 1, none⟩ = some (.int .i64 l[i].a.n) ∧
    w.cell? ⟨b, o + i * 8 + 2, none⟩ = some (.string l[i].a.s) ∧ w.cell? ⟨b, o + i * 8 + 3, none⟩ = some (.slice l[i].a.p l[i].a.l.length l[i].a.c)) ∧
    (w.cell? ⟨b, o + i * 8 + 4, none⟩ = some (.int .i64 l[i].b.k) ∧ w.cell? ⟨b, o + i * 8 + 4 + 1, none⟩ = some (.int .i64 l[i].b.n) ∧
    w.cell? ⟨b, o + i * 8 + 4 + 2, none⟩ = some (.string l[i].b.s) ∧ w.cell? ⟨b, o + i * 8 + 4 + 3, none⟩ = some (.slice l[i].b.p l[i].b.l.length l[i].b.c))) ∧
    (l[i].a.In w ∧ l[i].b.In w) ∧ b < w.heap.size := by
  obtain ⟨_, _, h3, h4⟩ := h
  rcases h3 with rfl | ⟨b', o', hp, hr⟩
  · simp at hi
  · cases hp
    exact ⟨hr i l[i] (List.getElem?_eq_getElem hi), h4 _ (List.getElem_mem hi), Pr.row_lt hr (by rintro rfl; simp at hi)⟩
theorem Prs.In.ptr {w : World} {p : Option Addr} {c : Nat} {l : List Pr} (h : (Prs.mk p c l).In w) (hl : 0 < l.length) : ∃ b o, p = some ⟨b, o, none⟩ := by
  obtain ⟨_, _, h3, _⟩ := h
  rcases h3 with rfl | ⟨b', o', hp, _⟩
  · simp at hl
  · exact ⟨b', o', hp⟩

end

/-- The pairs without addresses. -/
def seePrs (l : List Pr) : List (T × T) := l.map fun y => (y.a.erase, y.b.erase)
end Go.Proofs.Ytcblmkhhhibddaa

namespace Go.Proofs.Ytcblmkhhhibddaa
open Go.RowKit Go.Maps Go.Lib

/-- The slice v of the call's own (blocks from B on) holds the pairs l. -/
def BuiltPrs (w : World) (B : Nat) (v : Value) (l : List Pr) : Prop := w.ownsRow B 33 8 v l.length (l.flatMap Pr.cells)
theorem infoPr : (Try.prog.info? 33).map (fun i => (i.zero, i.size, i.bytes)) = some (some (.agg #[.int .i64 0, .int .i64 0, .string ⟨#[]⟩, .slice none 0 0, .int .i64 0, .int .i64 0, .string ⟨#[]⟩, .slice none 0 0]), 8, 112) := by kernel_rfl
def prCells (x : Pr) : Array Value := #[.int .i64 x.a.k, .int .i64 x.a.n, .string x.a.s, .slice x.a.p x.a.l.length x.a.c, .int .i64 x.b.k, .int .i64 x.b.n, .string x.b.s, .slice x.b.p x.b.l.length x.b.c]
theorem wpList_append_pr {P : Program} {w : World} {ops : Array Oper} {rest : List Oper} {o : Oper} {a : Act} {Q : Exit → Act → World → Prop} (hgd : o.guard = none) (s y : Operand)
    (ho : o.op = .call { callee := .builtin .append, args := #[s, y], argTypes := #[22, 22] }) (hP : P = Try.prog)
    (B : Nat) (v : Value) (l : List Pr) (x : Pr) (b c : Nat) (hs : a.eval s = v) (hy : a.eval y = .slice (some ⟨b, 0, none⟩) 1 c) (h : BuiltPrs w B v l) (hB : B ≤ w.heap.size) (hl : (l.length + 1) * 112 ≤ 140737488351232)
    (hX : BlkT w b 33 (prCells x))
    (hK : ∀ v' w', BuiltPrs w' B v' (l ++ [x]) → w.grownBy w' v.ownBlock → (v'.ownBlock = v.ownBlock ∨ v'.ownBlock = some w.heap.size) → wpList P ops Q rest (a.put o.dst v') w') : wpList P ops Q (o :: rest) a w := by
  subst hP
  refine wpList_append_one hgd s y 22 33 ho Try.underlying22 infoPr rfl (by decide) B v l.length (l.flatMap Pr.cells) b c x.cells hs hy h hB rfl ?_ ?_ (by simp only [maxLen]; omega) (by omega) ?_
  · intro j u hu
    match j, hu with
    | 0, hu => cases hu; exact hX.cell 0 rfl
    | 1, hu => cases hu; exact hX.cell 1 rfl
    | 2, hu => cases hu; exact hX.cell 2 rfl
    | 3, hu => cases hu; exact hX.cell 3 rfl
    | 4, hu => cases hu; exact hX.cell 4 rfl
    | 5, hu => cases hu; exact hX.cell 5 rfl
    | 6, hu => cases hu; exact hX.cell 6 rfl
    | 7, hu => cases hu; exact hX.cell 7 rfl
    | j + 8, hu => simp [Pr.cells, Tm.cells] at hu
  · intro u hu
    simp only [Pr.cells, Tm.cells, List.cons_append, List.nil_append, List.mem_cons, List.mem_nil_iff, or_false] at hu
    rcases hu with rfl | rfl | rfl | rfl | rfl | rfl | rfl | rfl <;> rfl
  · intro v' w' h2 h3 h4
    refine hK v' w' ?_ h3 h4
    show w'.ownsRow B _ 8 v' _ _
    rw [List.length_append, List.flatMap_append]
    simpa using h2
theorem prcells_len : ∀ l : List Pr, (l.flatMap Pr.cells).length = l.length * 8
  | [] => rfl
  | x :: xs => by rw [List.flatMap_cons, List.length_append, prcells_len xs, List.length_cons, Pr.cells, Tm.cells, Tm.cells]; simp; omega
theorem prcells_at : ∀ {l : List Pr} {i : Nat} {x : Pr}, l[i]? = some x → ∀ j, j < 8 → (l.flatMap Pr.cells)[i * 8 + j]? = x.cells[j]?
  | y :: ys, 0, x, h, j, hj => by
    simp only [List.getElem?_cons_zero, Option.some.injEq] at h
    subst h
    rw [List.flatMap_cons, Nat.zero_mul, Nat.zero_add, List.getElem?_append_left (by simp [Pr.cells, Tm.cells]; omega)]
  | y :: ys, i + 1, x, h, j, hj => by
    simp only [List.getElem?_cons_succ] at h
    rw [List.flatMap_cons, List.getElem?_append_right (by simp [Pr.cells, Tm.cells]; omega), ← prcells_at h j hj]
    simp only [Pr.cells, Tm.cells, List.length_append, List.length_cons, List.length_nil]
    congr 1
    omega
theorem BuiltPrs.prs {w : World} {B : Nat} {v : Value} {l : List Pr} (h : BuiltPrs w B v l) (hl : l.length * 112 ≤ 140737488351232) (hs : ∀ y ∈ l, y.a.In w ∧ y.b.In w) :
    ∃ p c, v = .slice p l.length c ∧ (Prs.mk p c l).In w := by
  rcases h.2 with ⟨rfl, h1⟩ | ⟨g, cap, cur, h0, hbg, hg, hnc, hcm, hcs, htake⟩
  · have hn : l = [] := List.eq_nil_of_length_eq_zero h1
    subst hn
    exact ⟨none, 0, rfl, Nat.le_refl _, ⟨by simp, by simp⟩, .inl rfl, fun y hy => by simp at hy⟩
  · simp only [maxLen] at hcm
    refine ⟨some ⟨g, 0, none⟩, cap, h0, hnc, ⟨hl, by simp only; omega⟩, .inr ⟨g, 0, rfl, ?_⟩, hs⟩
    intro i x hx
    have hi : i < l.length := (List.getElem?_eq_some_iff.1 hx).1
    subst h0
    have hat : ∀ j, j < 8 → w.cell? ⟨g, 0 + i * 8 + j, none⟩ = x.cells[j]? := by
      intro j hj
      rw [Nat.zero_add, World.ownsRow.cellAt h _ (by omega)]
      exact prcells_at hx j hj
    exact ⟨⟨hat 0 (by omega), hat 1 (by omega), hat 2 (by omega), hat 3 (by omega)⟩, hat 4 (by omega), hat 5 (by omega), hat 6 (by omega), hat 7 (by omega)⟩
theorem BuiltPrs.gr {w w' : World} {B : Nat} {v : Value} {l : List Pr} (h : BuiltPrs w B v l) (hg : Gr w w') : BuiltPrs w' B v l := ownsRow_gr h hg
theorem BuiltPrs.ge {w : World} {B : Nat} {v : Value} {l : List Pr} (h : BuiltPrs w B v l) {b : Nat} (hb : v.ownBlock = some b) : B ≤ b := by
  rcases h.2 with ⟨rfl, _⟩ | ⟨g, cap, cur, rfl, h2, _⟩
  · cases hb
  · cases hb; exact h2

/-- A new block for a pair. -/
def prNew (B0 : Nat) (x : Pr) : VP := fun v w => ∃ B, v = .slice (some ⟨B, 0, none⟩) 1 1 ∧ B0 ≤ B ∧ BlkT w B 33 (prCells x)
/-- Two solved forms of the same pairs. -/
theorem Holds.uniq {E : List (T × T)} {ρ ρ' : Int → T} (h : Holds E ρ) (h' : Holds E ρ') (hc : Canon ρ) (hc' : Canon ρ') : ρ = ρ' := hc.uniq hc' (h.2 _ h'.1) (h'.2 _ h.1)
end Go.Proofs.Ytcblmkhhhibddaa

namespace Go.Proofs.Ytcblmkhhhibddaa
open Go.RowKit Go.Maps Go.Lib

/-- A row of one's own stands where only blocks turn that are not its own. -/
theorem ownsRow_kpG {C : Nat → Prop} {w w' : World} {base : Nat} {e : TypeId} {size : Nat} {v : Value} {n : Nat} {xs : List Value} (h : w.ownsRow base e size v n xs) (hK : Kp C w w') (hC : ∀ b, v.ownBlock = some b → ¬ C b) : w'.ownsRow base e size v n xs := by
  refine ⟨h.1, h.2.imp id ?_⟩
  rintro ⟨g, cap, cur, rfl, h2, h3, h4⟩
  exact ⟨g, cap, cur, rfl, h2, by rw [hK.block g (Array.getElem?_eq_some_iff.1 h3).1 (hC g rfl)]; exact h3, h4⟩
/-- The pairs met so far lie in the row v, whose header lies in block P; what they say lies on S. -/
structure PSt (S : Nat → Prop) (P : Nat) (v : Value) (l : List Pr) (w : World) : Prop where
  cell : w.heap[P]? = some (.cells #[v] 22)
  row : BuiltPrs w (P + 1) v l
  terms : ∀ y ∈ l, y.a.In w ∧ y.b.In w ∧ y.a.On S ∧ y.b.On S
  low : ∀ b, S b → b < P
/-- What may turn. -/
def PMut (P : Nat) (v : Value) (b : Nat) : Prop := b = P ∨ v.ownBlock = some b
theorem PSt.lt {S : Nat → Prop} {P : Nat} {v : Value} {l : List Pr} {w : World} (h : PSt S P v l w) : P < w.heap.size := (Array.getElem?_eq_some_iff.1 h.cell).1
theorem PSt.own {S : Nat → Prop} {P : Nat} {v : Value} {l : List Pr} {w : World} (h : PSt S P v l w) {b : Nat} (hb : v.ownBlock = some b) : P < b := BuiltPrs.ge h.row hb
theorem PSt.kp {S C : Nat → Prop} {P : Nat} {v : Value} {l : List Pr} {w w' : World} (h : PSt S P v l w) (k : Kp C w w') (hP : ¬ C P) (hv : ∀ b, v.ownBlock = some b → ¬ C b) (hS : ∀ b, S b → ¬ C b) : PSt S P v l w' where
  cell := (k.block P h.lt hP).trans h.cell
  row := ownsRow_kpG h.row k hv
  terms := fun y hy => by
    obtain ⟨h1, h2, h3, h4⟩ := h.terms y hy
    exact ⟨kp_in h1 h3 hS k, kp_in h2 h4 hS k, h3, h4⟩
  low := h.low
theorem PSt.gr {S : Nat → Prop} {P : Nat} {v : Value} {l : List Pr} {w w' : World} (h : PSt S P v l w) (g : Gr w w') : PSt S P v l w' :=
  h.kp (C := fun _ => False) (Kp.of_gr g) id (fun _ _ => id) (fun _ _ => id)
/-- term.general's answer. -/
def RetGen (S : Nat → Prop) (P : Nat) (v : Value) (l : List Pr) (a b : T) (w : World) (e : Ending) (w' : World) : Prop :=
  ∃ (g : Tm) (v' : Value) (l' : List Pr), e = .returned g.val ∧ g.In w' ∧ g.erase = (T.gen a b (seePrs l)).1 ∧ seePrs l' = (T.gen a b (seePrs l)).2 ∧ PSt S P v' l' w' ∧ Kp (PMut P v) w w' ∧
    g.On (fun x => w.heap.size ≤ x ∧ v'.ownBlock ≠ some x) ∧ ∀ x, v'.ownBlock = some x → v.ownBlock = some x ∨ w.heap.size ≤ x
end Go.Proofs.Ytcblmkhhhibddaa
