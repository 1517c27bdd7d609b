/-
  term.Rename: what it hands back lies whole.
  The least general term of two, plain.
  Slices of pairs.
  Slices of pairs that a call makes by append.
  The pairs that term.general has met, in memory; what it answers.
  A store in memory.
  term.Map with a function of which something is known at the term's own variables.
-/
import Derived.Test.YthncdmijledpnaaTM19
import Derived.Test.YthncdmijledpnaaTM09
import Derived.Test.YthncdmijledpnaaTM13
import Derived.Test.YthncdmijledpnaaTM18
import Derived.Test.YthncdmijledpnaaTM10
import Derived.Test.YthncdmijledpnaaTM02
import Derived.Test.YthncdmijledpnaaTM05
import Derived.Test.YthncdmijledpnaaTM04
import Derived.Test.YthncdmijledpnaaTM07
import Derived.Test.YthncdmijledpnaaTM12
namespace Go.Proofs.Ythncdmijledpnaa
open Go.RowKit Go.Maps Go.Lib

/-- Rename's answer. -/
def RetRenameW (B : Nat) (a : T) (d : Int) (w : World) (e : Ending) (w' : World) : Prop := ∃ (u : Tm) (n err : Int), e = .returned (.tuple #[u.val, .int .i64 n, .int .i64 err]) ∧ u.In w' ∧ u.On (fun x => B ≤ x) ∧ u.Whole w' ∧ Gr w w' ∧
  ((a.formed = false ∧ u = zeroTm ∧ n = 0 ∧ err = 2) ∨ (a.formed = true ∧ ¬ (0 ≤ d ∧ d ≤ 1099511627776) ∧ u = zeroTm ∧ n = 0 ∧ err = 1) ∨
   (a.formed = true ∧ (0 ≤ d ∧ d ≤ 1099511627776) ∧ 1099511627776 - d + 1 < ((T.varsL [a] []).length : Int) ∧ u = zeroTm ∧ n = 0 ∧ err = 9) ∨
   (a.formed = true ∧ (0 ≤ d ∧ d ≤ 1099511627776) ∧ ((T.varsL [a] []).length : Int) ≤ 1099511627776 - d + 1 ∧ u.erase = T.map (swapF d (T.varsL [a] [])) a ∧ n = d + ((T.varsL [a] []).length : Int) ∧ err = 0))

set_option maxHeartbeats 2000000 in
set_option maxRecDepth 100000 in
theorem renameW_calls (p : Tm) (d : Int) (w : World) (ip : p.In w) (_ : In64 d) : Calls Try.prog 38 #[p.val, .int .i64 d] w (RetRenameW w.heap.size p.erase d w) := by
  have Ip := Lib.hid ip
  have hformed := Lib.hid (fun W (g : Gr w W) => show Calls Try.prog 96 #[.agg #[.int .i64 p.k, .int .i64 p.n, .string p.s, .slice p.p p.l.length p.c]] W (Ret (.bool p.erase.formed) W) from formed_calls (t := p) (Tm.In_below g ip))
  have hQ0 : Hid (∀ (u : Tm) (n err : Int) w', u.In w' → u.On (fun x => w.heap.size ≤ x) → u.Whole w' → Gr w w' → ((p.erase.formed = false ∧ u = zeroTm ∧ n = 0 ∧ err = 2) ∨ (p.erase.formed = true ∧ ¬ (0 ≤ d ∧ d ≤ 1099511627776) ∧ u = zeroTm ∧ n = 0 ∧ err = 1) ∨
   (p.erase.formed = true ∧ (0 ≤ d ∧ d ≤ 1099511627776) ∧ 1099511627776 - d + 1 < ((T.varsL [p.erase] []).length : Int) ∧ u = zeroTm ∧ n = 0 ∧ err = 9) ∨
   (p.erase.formed = true ∧ (0 ≤ d ∧ d ≤ 1099511627776) ∧ ((T.varsL [p.erase] []).length : Int) ≤ 1099511627776 - d + 1 ∧ u.erase = T.map (swapF d (T.varsL [p.erase] [])) p.erase ∧ n = d + ((T.varsL [p.erase] []).length : Int) ∧ err = 0)) → RetRenameW w.heap.size p.erase d w (.returned (.tuple #[u.val, .int .i64 n, .int .i64 err])) w') := fun u n err w' h1 h2 h3 h4 h5 => ⟨u, n, err, rfl, h1, h2, h3, h4, h5⟩
  generalize RetRenameW w.heap.size p.erase d w = Q at hQ0 ⊢
  have HQ := hQ0
  clear ip hQ0
  rw [show p.val = .agg #[.int .i64 p.k, .int .i64 p.n, .string p.s, .slice p.p p.l.length p.c] from rfl]
  go_enter Try.func38, Try.ntmps38
  try simp only [List.append_eq, List.cons_append, List.nil_append]
  go_upto_region 1 with fail
  obtain ⟨h3, h4, gA⟩ := two_blocks w (.int .i64 p.k) (.int .i64 p.n) (.string p.s) (.slice p.p p.l.length p.c) (.int .i64 0) (.int .i64 0) (.string ⟨#[]⟩) (.slice none 0 0)
  generalize ((w.alloc (.cells #[.int .i64 p.k, .int .i64 p.n, .string p.s, .slice p.p p.l.length p.c] 25)).alloc (.cells #[.int .i64 0, .int .i64 0, .string ⟨#[]⟩, .slice none 0 0] 25)) = wA at *
  obtain ⟨⟨x0, x1, x2, x3⟩, _, _⟩ := h3.out.parts
  obtain ⟨ff, hff⟩ : ∃ ff, p.erase.formed = ff := ⟨_, rfl⟩
  rw [hff] at hformed
  have Hff := Lib.hid hff
  clear hff
  go_wp2_with fail
  refine (hformed.out _ gA).mono ?_
  rintro e w2 ⟨rfl, hg2⟩
  have gA2 : Gr wA w2 := hg2
  have g2 : Gr w w2 := gA.trans gA2
  have k4 := h4.out.gr gA2
  have K4 := Lib.hid k4
  have hs4 : w.heap.size + 1 < w2.heap.size := k4.parts.2.2
  have hzero : ∀ (W : World) (err : Int), Gr w2 W → (∀ u n, u = zeroTm → n = 0 → ((p.erase.formed = false ∧ u = zeroTm ∧ n = 0 ∧ err = 2) ∨ (p.erase.formed = true ∧ ¬ (0 ≤ d ∧ d ≤ 1099511627776) ∧ u = zeroTm ∧ n = 0 ∧ err = 1) ∨
   (p.erase.formed = true ∧ (0 ≤ d ∧ d ≤ 1099511627776) ∧ 1099511627776 - d + 1 < ((T.varsL [p.erase] []).length : Int) ∧ u = zeroTm ∧ n = 0 ∧ err = 9) ∨
   (p.erase.formed = true ∧ (0 ≤ d ∧ d ≤ 1099511627776) ∧ ((T.varsL [p.erase] []).length : Int) ≤ 1099511627776 - d + 1 ∧ u.erase = T.map (swapF d (T.varsL [p.erase] [])) p.erase ∧ n = d + ((T.varsL [p.erase] []).length : Int) ∧ err = 0))) → ∀ a b c d', Q (.returned (.tuple #[zeroTm.val, .int .i64 0, .int .i64 err])) ((((W.setCell ⟨w.heap.size + 1, 0, none⟩ a).setCell ⟨w.heap.size + 1, 1, none⟩ b).setCell ⟨w.heap.size + 1, 2, none⟩ c).setCell ⟨w.heap.size + 1, 3, none⟩ d') := fun W err gW hc a b c d' =>
    HQ.out zeroTm 0 err _ (zeroTm_in _) (by rw [zeroTm, Tm.On, Tm.OnL]; exact ⟨.inl rfl, trivial⟩) (zero_whole _)
      (Below.trans (g2.trans gW) ((Kp.sets (C := (· = w.heap.size + 1)) (w := W) (b := w.heap.size + 1) rfl a b c d').below (fun b hb => by omega) (g2.trans gW).size)) (hc _ _ rfl rfl)
  have Hzero := Lib.hid hzero
  clear x0 x1 x2 x3 hg2 hzero
  cases ff with
  | false =>
    obtain ⟨⟨y0, y1, y2, y3⟩, ⟨f0, f1, f2, f3⟩, _⟩ := k4.parts
    have Hb := Lib.hid (Hzero.out w2 2 (Gr.rfl' _) fun u n hu hn => .inl ⟨Hff.out, hu, hn, rfl⟩)
    clear k4
    go_wp2_with fail
    exact bodyPost_ret (v := .tuple #[zeroTm.val, .int .i64 0, .int .i64 2]) (by simp (maxDischargeDepth := 9) [results, Try.results38, go_sem, zeroTm, Tm.val, Tm.k, Tm.n, Tm.s, Tm.p, Tm.c, Tm.l, y0, y1, y2, y3]) rfl (Hb.out _ _ _ _)
  | true =>
    by_cases hr0 : d < 0
    · obtain ⟨⟨y0, y1, y2, y3⟩, ⟨f0, f1, f2, f3⟩, _⟩ := k4.parts
      obtain ⟨⟨x0, x1, x2, x3⟩, _, _⟩ := (h3.out.gr gA2).parts
      have Hb := Lib.hid (Hzero.out w2 1 (Gr.rfl' _) fun u n hu hn => .inr (.inl ⟨Hff.out, by omega, hu, hn, rfl⟩))
      clear k4
      go_wp2_with fail
      exact bodyPost_ret (v := .tuple #[zeroTm.val, .int .i64 0, .int .i64 1]) (by simp (maxDischargeDepth := 9) [results, Try.results38, go_sem, zeroTm, Tm.val, Tm.k, Tm.n, Tm.s, Tm.p, Tm.c, Tm.l, y0, y1, y2, y3]) rfl (Hb.out _ _ _ _)
    by_cases hr1 : 1099511627776 < d
    · obtain ⟨⟨y0, y1, y2, y3⟩, ⟨f0, f1, f2, f3⟩, _⟩ := k4.parts
      obtain ⟨⟨x0, x1, x2, x3⟩, _, _⟩ := (h3.out.gr gA2).parts
      have Hb := Lib.hid (Hzero.out w2 1 (Gr.rfl' _) fun u n hu hn => .inr (.inl ⟨Hff.out, by omega, hu, hn, rfl⟩))
      clear k4
      go_wp2_with fail
      exact bodyPost_ret (v := .tuple #[zeroTm.val, .int .i64 0, .int .i64 1]) (by simp (maxDischargeDepth := 9) [results, Try.results38, go_sem, zeroTm, Tm.val, Tm.k, Tm.n, Tm.s, Tm.p, Tm.c, Tm.l, y0, y1, y2, y3]) rfl (Hb.out _ _ _ _)
    go_upto_region 5 with fail
    have hd0 : 0 ≤ d := by omega
    have hd1 : d ≤ 1099511627776 := by omega
    have hone : ∀ (w0 w' : World), Gr w w0 → Gr (w0.alloc (.cells #[.int .i64 p.k, .int .i64 p.n, .string p.s, .slice p.p p.l.length p.c] 25)) w' → Tm.Sl w' (some ⟨w0.heap.size, 0, none⟩) 1 [p] := fun w0 w' h0 h1 => one_new (Tm.In_below h0 Ip.out) h1
    have Hone := Lib.hid hone
    have hvars : ∀ (w0 w' : World), Gr w w0 → Gr (w0.alloc (.cells #[.int .i64 p.k, .int .i64 p.n, .string p.s, .slice p.p p.l.length p.c] 25)) w' → Calls Try.prog 111 #[.slice (some ⟨w0.heap.size, 0, none⟩) 1 1] w' fun e w'' => ∃ (pv : Option Addr) (c : Nat), e = .returned (.slice pv (T.varsL [p.erase] []).length c) ∧ Gr w' w'' := fun w0 w' h0 h1 => by
      refine (variables_calls (some ⟨w0.heap.size, 0, none⟩) 1 [p] w' (Hone.out w0 w' h0 h1) (fun x hx => by rw [List.mem_singleton] at hx; rw [hx]; exact fmd_of Hff.out)).mono ?_
      rintro e w'' ⟨v, rfl, hv, hg⟩
      obtain ⟨pv, c, rfl⟩ := hv.form
      rw [erase_one] at *
      exact ⟨pv, c, rfl, hg⟩
    have Hvars := Lib.hid hvars
    obtain ⟨⟨x0, x1, x2, x3⟩, _, _⟩ := (h3.out.gr gA2).parts
    clear hone hvars
    go_wp2_with fail
    refine (Hvars.out _ _ g2 (Gr.rfl' _)).mono ?_
    rintro e w3 ⟨pv, cv, rfl, hg3⟩
    have g23 : Gr w2 w3 := Gr.trans (show Gr w2 _ by go_grown) hg3
    have g3 : Gr w w3 := g2.trans g23
    obtain ⟨n, hn⟩ : ∃ n : Nat, (T.varsL [p.erase] []).length = n := ⟨_, rfl⟩
    rw [hn]
    have Hn := Lib.hid hn
    clear hg3 hn x0 x1 x2 x3
    by_cases hbig : 1099511627776 - d + 1 < (n : Int)
    · obtain ⟨⟨y0, y1, y2, y3⟩, ⟨f0, f1, f2, f3⟩, _⟩ := (K4.out.gr g23).parts
      have Hb := Lib.hid (Hzero.out w3 9 g23 fun u m hu hm => .inr (.inr (.inl ⟨Hff.out, ⟨hd0, hd1⟩, by rw [Hn.out]; exact hbig, hu, hm, rfl⟩)))
      clear k4
      go_wp2_with fail
      exact bodyPost_ret (v := .tuple #[zeroTm.val, .int .i64 0, .int .i64 9]) (by simp (maxDischargeDepth := 9) [results, Try.results38, go_sem, zeroTm, Tm.val, Tm.k, Tm.n, Tm.s, Tm.p, Tm.c, Tm.l, y0, y1, y2, y3]) rfl (Hb.out _ _ _ _)
    obtain ⟨⟨x0, x1, x2, x3⟩, _, _⟩ := (h3.out.gr (gA2.trans g23)).parts
    have Hr1 := Lib.hid (fun W (hW : Gr (w3.alloc (.cells #[.int .i64 p.k, .int .i64 p.n, .string p.s, .slice p.p p.l.length p.c] 25)) W) => show Calls Try.prog 94 #[.int .i64 d, .slice (some ⟨w3.heap.size, 0, none⟩) 1 1] W (RetRensW d [p.erase] W) from by
      have := renamedW_calls d (some ⟨w3.heap.size, 0, none⟩) 1 [p] W (Hone.out w3 W g3 hW) (fun x hx => by rw [List.mem_singleton] at hx; rw [hx]; exact Hff.out) ⟨by omega, by omega⟩
      rwa [erase_one] at this)
    clear k4
    go_wp2_with fail
    refine (Hr1.out _ (Gr.rfl' _)).mono ?_
    rintro e w4 ⟨p1, c1, l1, rfl, sl1, e1, hg4, on1, wh1⟩
    obtain ⟨u, rfl, eu⟩ := ren_one e1
    have g34 : Gr w3 w4 := Gr.trans (show Gr w3 _ by go_grown) hg4
    have g4 : Gr w w4 := g3.trans g34
    obtain ⟨b, o, rfl⟩ := sl1.ptr (by simp)
    obtain ⟨⟨c0, c1', c2', c3⟩, iu, _⟩ := sl1.elem 0 (by simp)
    simp only [List.getElem_cons_zero, Nat.zero_mul, Nat.add_zero] at c0 c1' c2' c3 iu
    rw [Hn.out]
    have hl1 : 1 ≤ c1 := sl1.1
    have ou : u.On (w3.heap.size + 1 ≤ ·) := by
      have := on1.2
      rw [Tm.OnL] at this
      exact (this.1).mono fun b hb => by simp at hb; omega
    have wu : u.Whole w4 := by rw [Tm.WholeL] at wh1; exact wh1.1
    have hs5 : w2.heap.size ≤ w3.heap.size := g23.size
    obtain ⟨⟨y0, y1, y2, y3⟩, ⟨f0, f1, f2, f3⟩, _⟩ := (K4.out.gr (g23.trans g34)).parts
    have kk : Kp (· = w.heap.size + 1) w4 _ := Kp.sets (C := (· = w.heap.size + 1)) (w := w4) (b := w.heap.size + 1) rfl (.int .i64 u.k) (.int .i64 u.n) (.string u.s) (.slice u.p u.l.length u.c)
    have Hb := Lib.hid (HQ.out u (d + (n : Int)) 0 _ (kp_in iu ou (fun b hb e => by omega) kk) (ou.mono fun b hb => by omega) (whole_kp0 wu iu ou (fun b hb e => by omega) kk) (Below.trans g4 (kk.below (fun b hb => by omega) g4.size)) (.inr (.inr (.inr ⟨Hff.out, ⟨hd0, hd1⟩, by rw [Hn.out]; omega, eu, by rw [Hn.out], rfl⟩))))
    clear kk wu wh1 iu eu ou e1 on1 sl1 x0 x1 x2 x3 hg4 Hr1 Hvars Hone
    go_wp2_with fail
    exact bodyPost_ret (v := .tuple #[u.val, .int .i64 (d + (n : Int)), .int .i64 0]) (by simp (maxDischargeDepth := 9) [results, Try.results38, go_sem, Tm.val, y0, y1, y2, y3]) rfl Hb.out
end Go.Proofs.Ythncdmijledpnaa

namespace Go.Proofs.Ythncdmijledpnaa

/-- Both are of one functor. -/
def T.alike (a b : T) : Bool := decide (a.k = 4) && (decide (b.k = 4) && (decide (a.s = b.s) && decide (a.l.length = b.l.length)))
def T.twin (a b : T) (p : T × T) : Bool := decide (T.order p.1 a = 0) && decide (T.order p.2 b = 0)
def seekP (E : List (T × T)) (a b : T) : Nat := E.findIdx (T.twin a b)

mutual
/-- The general term of two, with the pairs met so far. -/
def T.gen : T → T → List (T × T) → T × List (T × T)
  | .mk k n s l, b, E =>
    if T.alike (.mk k n s l) b = true then (.mk 4 0 s (T.genL l b.l E).1, (T.genL l b.l E).2)
    else if k ≠ 1 ∧ T.order (.mk k n s l) b = 0 then (.mk k n s l, E)
    else (varT (seekP E (.mk k n s l) b), if seekP E (.mk k n s l) b < E.length then E else E ++ [(.mk k n s l, b)])
def T.genL : List T → List T → List (T × T) → List T × List (T × T)
  | x :: xs, y :: ys, E => ((T.gen x y E).1 :: (T.genL xs ys (T.gen x y E).2).1, (T.genL xs ys (T.gen x y E).2).2)
  | _, _, E => ([], E)
end
mutual
/-- The same, with all pairs that there will be. -/
def T.genF (E : List (T × T)) : T → T → T
  | .mk k n s l, b =>
    if T.alike (.mk k n s l) b = true then .mk 4 0 s (T.genFL E l b.l)
    else if k ≠ 1 ∧ T.order (.mk k n s l) b = 0 then .mk k n s l
    else varT (seekP E (.mk k n s l) b)
def T.genFL (E : List (T × T)) : List T → List T → List T
  | x :: xs, y :: ys => T.genF E x y :: T.genFL E xs ys
  | _, _ => []
end


/-! ### The state -/
def PairsOk (E : List (T × T)) : Prop := ∀ p ∈ E, p.1.formed = true ∧ p.2.formed = true
/-- What is left of pairs that hold, on the left and on the right. -/
def leftP (E : List (T × T)) (n : Int) : T := ((E[n.toNat]?).map Prod.fst).getD (varT n)
def rightP (E : List (T × T)) (n : Int) : T := ((E[n.toNat]?).map Prod.snd).getD (varT n)
/-- What the state has become. -/
structure GenSt (E E' : List (T × T)) (m : Nat) : Prop where
  pre : ∃ F, E' = E ++ F
  ok : PairsOk E'
  len : E'.length ≤ E.length + m
theorem GenSt.trans {E E1 E2 : List (T × T)} {m m' : Nat} (h : GenSt E E1 m) (k : GenSt E1 E2 m') : GenSt E E2 (m + m') := by
  obtain ⟨F, hF⟩ := h.pre
  obtain ⟨G, hG⟩ := k.pre
  have h1 := h.len
  have h2 := k.len
  exact ⟨⟨F ++ G, by rw [hG, hF, List.append_assoc]⟩, k.ok, by omega⟩
/-- A general term: made with all pairs, of the two, and with few variables. -/
structure GenOk (E' : List (T × T)) (a b g : T) : Prop where
  stable : ∀ F, T.genF (E' ++ F) a b = g
  left : ∀ F, T.map (leftP (E' ++ F)) g = a
  right : ∀ F, T.map (rightP (E' ++ F)) g = b
  few : ∀ n, T.occ n g → 0 ≤ n ∧ n < (E'.length : Int)
  formed : E'.length ≤ 1099511627777 → g.formed = true
theorem GenOk.more {E' F : List (T × T)} {a b g : T} (h : GenOk E' a b g) : GenOk (E' ++ F) a b g :=
  ⟨fun G => by rw [List.append_assoc]; exact h.stable _, fun G => by rw [List.append_assoc]; exact h.left _, fun G => by rw [List.append_assoc]; exact h.right _, fun n hn => by
    have := h.few n hn
    rw [List.length_append]
    exact ⟨this.1, by omega⟩, fun hl => h.formed (by rw [List.length_append] at hl; omega)⟩
theorem GenSt.rfl' {E : List (T × T)} (h : PairsOk E) (m : Nat) : GenSt E E m := ⟨⟨[], by simp⟩, h, by omega⟩
/-- The least general term of two. -/
def T.lgg (a b : T) : T := (T.gen a b []).1
end Go.Proofs.Ythncdmijledpnaa

namespace Go.Proofs.Ythncdmijledpnaa
open Go.ChangeShapes Go.WideShapes Go.ChangeAt Go.RowKit Go.Deep

section
variable {H : Type} {enc : TypeId × Value → H} {W : World}

/-- A pair with its addresses. -/
structure Pr where
  a : Tm
  b : Tm

def Pr.cells (x : Pr) : List Value := x.a.cells ++ x.b.cells
def Pr.row (w : World) (b o : Nat) (l : List Pr) : Prop :=
  ∀ (i : Nat) (x : Pr), l[i]? = some x →
    (w.cell? ⟨b, o + i * 8, none⟩ = some (.int .i64 x.a.k) ∧ w.cell? ⟨b, o + i * 8 + 1, none⟩ = some (.int .i64 x.a.n) ∧
    w.cell? ⟨b, o + i * 8 + 2, none⟩ = some (.string x.a.s) ∧ w.cell? ⟨b, o + i * 8 + 3, none⟩ = some (.slice x.a.p x.a.l.length x.a.c)) ∧
    (w.cell? ⟨b, o + i * 8 + 4, none⟩ = some (.int .i64 x.b.k) ∧ w.cell? ⟨b, o + i * 8 + 4 + 1, none⟩ = some (.int .i64 x.b.n) ∧
    w.cell? ⟨b, o + i * 8 + 4 + 2, none⟩ = some (.string x.b.s) ∧ w.cell? ⟨b, o + i * 8 + 4 + 3, none⟩ = some (.slice x.b.p x.b.l.length x.b.c))

/-- A slice of pairs. -/
structure Prs where
  p : Option Addr
  c : Nat
  l : List Pr
def Prs.val (x : Prs) : Value := .slice x.p x.l.length x.c
def Prs.In (w : World) (x : Prs) : Prop :=
  x.l.length ≤ x.c ∧ (x.l.length * 112 ≤ 140737488351232 ∧ x.c ≤ 9223372036854775807) ∧ (x.l = [] ∨ ∃ b o, x.p = some ⟨b, o, none⟩ ∧ Pr.row w b o x.l) ∧ ∀ y ∈ x.l, y.a.In w ∧ y.b.In w

theorem Pr.row_lt {w : World} {b o : Nat} {l : List Pr} (h : Pr.row w b o l) (hl : l ≠ []) : b < w.heap.size := by
  cases l with
  | nil => exact absurd rfl hl
  | cons x xs => exact World.block_lt_of_cell? _ _ (h 0 x rfl).1.1
theorem Prs.In.mono {w w' : World} {x : Prs} (h : x.In w) (hg : Gr w w') : x.In w' := by
  obtain ⟨h1, h2, h3, h4⟩ := h
  refine ⟨h1, h2, ?_, fun y hy => ⟨Tm.In_below hg (h4 y hy).1, Tm.In_below hg (h4 y hy).2⟩⟩
  rcases h3 with h3 | ⟨b, o, hp, hr⟩
  · exact .inl h3
  · by_cases hl : x.l = []
    · exact .inl hl
    · refine .inr ⟨b, o, hp, fun i y hy => ?_⟩
      have hlt := Pr.row_lt hr hl
      have hs : ∀ o', w'.cell? ⟨b, o', none⟩ = w.cell? ⟨b, o', none⟩ := fun o' => hg.cell (p := ⟨b, o', none⟩) hlt
      have := hr i y hy
      simpa only [hs] using this
theorem Prs.In.elem {w : World} {b o : Nat} {c : Nat} {l : List Pr} (h : (Prs.mk (some ⟨b, o, none⟩) c l).In w) (i : Nat) (hi : i < l.length) :
    ((w.cell? ⟨b, o + i * 8, none⟩ = some (.int .i64 l[i].a.k) ∧ w.cell? ⟨b, o + i * 8 + 1, none⟩ = some (.int .i64 l[i].a.n) ∧
    w.cell? ⟨b, o + i * 8 + 2, none⟩ = some (.string l[i].a.s) ∧ w.cell? ⟨b, o + i * 8 + 3, none⟩ = some (.slice l[i].a.p l[i].a.l.length l[i].a.c)) ∧
    (w.cell? ⟨b, o + i * 8 + 4, none⟩ = some (.int .i64 l[i].b.k) ∧ w.cell? ⟨b, o + i * 8 + 4 + 1, none⟩ = some (.int .i64 l[i].b.n) ∧
    w.cell? ⟨b, o + i * 8 + 4 + 2, none⟩ = some (.string l[i].b.s) ∧ w.cell? ⟨b, o + i * 8 + 4 + 3, none⟩ = some (.slice l[i].b.p l[i].b.l.length l[i].b.c))) ∧
    (l[i].a.In w ∧ l[i].b.In w) ∧ b < w.heap.size := by
  obtain ⟨_, _, h3, h4⟩ := h
  rcases h3 with rfl | ⟨b', o', hp, hr⟩
  · simp at hi
  · cases hp
    exact ⟨hr i l[i] (List.getElem?_eq_getElem hi), h4 _ (List.getElem_mem hi), Pr.row_lt hr (by rintro rfl; simp at hi)⟩
theorem Prs.In.ptr {w : World} {p : Option Addr} {c : Nat} {l : List Pr} (h : (Prs.mk p c l).In w) (hl : 0 < l.length) : ∃ b o, p = some ⟨b, o, none⟩ := by
  obtain ⟨_, _, h3, _⟩ := h
  rcases h3 with rfl | ⟨b', o', hp, _⟩
  · simp at hl
  · exact ⟨b', o', hp⟩

end

/-- The pairs without addresses. -/
def seePrs (l : List Pr) : List (T × T) := l.map fun y => (y.a.erase, y.b.erase)
end Go.Proofs.Ythncdmijledpnaa

namespace Go.Proofs.Ythncdmijledpnaa
open Go.RowKit Go.Maps Go.Lib

/-- The slice v of the call's own (blocks from B on) holds the pairs l. -/
def BuiltPrs (w : World) (B : Nat) (v : Value) (l : List Pr) : Prop := w.ownsRow B 33 8 v l.length (l.flatMap Pr.cells)
theorem infoPr : (Try.prog.info? 33).map (fun i => (i.zero, i.size, i.bytes)) = some (some (.agg #[.int .i64 0, .int .i64 0, .string ⟨#[]⟩, .slice none 0 0, .int .i64 0, .int .i64 0, .string ⟨#[]⟩, .slice none 0 0]), 8, 112) := by kernel_rfl
def prCells (x : Pr) : Array Value := #[.int .i64 x.a.k, .int .i64 x.a.n, .string x.a.s, .slice x.a.p x.a.l.length x.a.c, .int .i64 x.b.k, .int .i64 x.b.n, .string x.b.s, .slice x.b.p x.b.l.length x.b.c]
theorem prcells_at : ∀ {l : List Pr} {i : Nat} {x : Pr}, l[i]? = some x → ∀ j, j < 8 → (l.flatMap Pr.cells)[i * 8 + j]? = x.cells[j]?
  | y :: ys, 0, x, h, j, hj => by
    simp only [List.getElem?_cons_zero, Option.some.injEq] at h
    subst h
    rw [List.flatMap_cons, Nat.zero_mul, Nat.zero_add, List.getElem?_append_left (by simp [Pr.cells, Tm.cells]; omega)]
  | y :: ys, i + 1, x, h, j, hj => by
    simp only [List.getElem?_cons_succ] at h
    rw [List.flatMap_cons, List.getElem?_append_right (by simp [Pr.cells, Tm.cells]; omega), ← prcells_at h j hj]
    simp only [Pr.cells, Tm.cells, List.length_append, List.length_cons, List.length_nil]
    congr 1
    omega
theorem BuiltPrs.prs {w : World} {B : Nat} {v : Value} {l : List Pr} (h : BuiltPrs w B v l) (hl : l.length * 112 ≤ 140737488351232) (hs : ∀ y ∈ l, y.a.In w ∧ y.b.In w) :
    ∃ p c, v = .slice p l.length c ∧ (Prs.mk p c l).In w := by
  rcases h.2 with ⟨rfl, h1⟩ | ⟨g, cap, cur, h0, hbg, hg, hnc, hcm, hcs, htake⟩
  · have hn : l = [] := List.eq_nil_of_length_eq_zero h1
    subst hn
    exact ⟨none, 0, rfl, Nat.le_refl _, ⟨by simp, by simp⟩, .inl rfl, fun y hy => by simp at hy⟩
  · simp only [maxLen] at hcm
    refine ⟨some ⟨g, 0, none⟩, cap, h0, hnc, ⟨hl, by simp only; omega⟩, .inr ⟨g, 0, rfl, ?_⟩, hs⟩
    intro i x hx
    have hi : i < l.length := (List.getElem?_eq_some_iff.1 hx).1
    subst h0
    have hat : ∀ j, j < 8 → w.cell? ⟨g, 0 + i * 8 + j, none⟩ = x.cells[j]? := by
      intro j hj
      rw [Nat.zero_add, World.ownsRow.cellAt h _ (by omega)]
      exact prcells_at hx j hj
    exact ⟨⟨hat 0 (by omega), hat 1 (by omega), hat 2 (by omega), hat 3 (by omega)⟩, hat 4 (by omega), hat 5 (by omega), hat 6 (by omega), hat 7 (by omega)⟩
theorem BuiltPrs.gr {w w' : World} {B : Nat} {v : Value} {l : List Pr} (h : BuiltPrs w B v l) (hg : Gr w w') : BuiltPrs w' B v l := ownsRow_gr h hg
theorem BuiltPrs.ge {w : World} {B : Nat} {v : Value} {l : List Pr} (h : BuiltPrs w B v l) {b : Nat} (hb : v.ownBlock = some b) : B ≤ b := by
  rcases h.2 with ⟨rfl, _⟩ | ⟨g, cap, cur, rfl, h2, _⟩
  · cases hb
  · cases hb; exact h2

/-- A new block for a pair. -/
def prNew (B0 : Nat) (x : Pr) : VP := fun v w => ∃ B, v = .slice (some ⟨B, 0, none⟩) 1 1 ∧ B0 ≤ B ∧ BlkT w B 33 (prCells x)
/-- Two solved forms of the same pairs. -/
theorem Holds.uniq {E : List (T × T)} {ρ ρ' : Int → T} (h : Holds E ρ) (h' : Holds E ρ') (hc : Canon ρ) (hc' : Canon ρ') : ρ = ρ' := hc.uniq hc' (h.2 _ h'.1) (h'.2 _ h.1)
end Go.Proofs.Ythncdmijledpnaa

namespace Go.Proofs.Ythncdmijledpnaa
open Go.RowKit Go.Maps Go.Lib

/-- A row of one's own stands where only blocks turn that are not its own. -/
theorem ownsRow_kpG {C : Nat → Prop} {w w' : World} {base : Nat} {e : TypeId} {size : Nat} {v : Value} {n : Nat} {xs : List Value} (h : w.ownsRow base e size v n xs) (hK : Kp C w w') (hC : ∀ b, v.ownBlock = some b → ¬ C b) : w'.ownsRow base e size v n xs := by
  refine ⟨h.1, h.2.imp id ?_⟩
  rintro ⟨g, cap, cur, rfl, h2, h3, h4⟩
  exact ⟨g, cap, cur, rfl, h2, by rw [hK.block g (Array.getElem?_eq_some_iff.1 h3).1 (hC g rfl)]; exact h3, h4⟩
/-- The pairs met so far lie in the row v, whose header lies in block P; what they say lies on S. -/
structure PSt (S : Nat → Prop) (P : Nat) (v : Value) (l : List Pr) (w : World) : Prop where
  cell : w.heap[P]? = some (.cells #[v] 22)
  row : BuiltPrs w (P + 1) v l
  terms : ∀ y ∈ l, y.a.In w ∧ y.b.In w ∧ y.a.On S ∧ y.b.On S
  low : ∀ b, S b → b < P
/-- What may turn. -/
def PMut (P : Nat) (v : Value) (b : Nat) : Prop := b = P ∨ v.ownBlock = some b
theorem PSt.lt {S : Nat → Prop} {P : Nat} {v : Value} {l : List Pr} {w : World} (h : PSt S P v l w) : P < w.heap.size := (Array.getElem?_eq_some_iff.1 h.cell).1
theorem PSt.own {S : Nat → Prop} {P : Nat} {v : Value} {l : List Pr} {w : World} (h : PSt S P v l w) {b : Nat} (hb : v.ownBlock = some b) : P < b := BuiltPrs.ge h.row hb
theorem PSt.kp {S C : Nat → Prop} {P : Nat} {v : Value} {l : List Pr} {w w' : World} (h : PSt S P v l w) (k : Kp C w w') (hP : ¬ C P) (hv : ∀ b, v.ownBlock = some b → ¬ C b) (hS : ∀ b, S b → ¬ C b) : PSt S P v l w' where
  cell := (k.block P h.lt hP).trans h.cell
  row := ownsRow_kpG h.row k hv
  terms := fun y hy => by
    obtain ⟨h1, h2, h3, h4⟩ := h.terms y hy
    exact ⟨kp_in h1 h3 hS k, kp_in h2 h4 hS k, h3, h4⟩
  low := h.low
theorem PSt.gr {S : Nat → Prop} {P : Nat} {v : Value} {l : List Pr} {w w' : World} (h : PSt S P v l w) (g : Gr w w') : PSt S P v l w' :=
  h.kp (C := fun _ => False) (Kp.of_gr g) id (fun _ _ => id) (fun _ _ => id)
/-- term.general's answer. -/
def RetGen (S : Nat → Prop) (P : Nat) (v : Value) (l : List Pr) (a b : T) (w : World) (e : Ending) (w' : World) : Prop :=
  ∃ (g : Tm) (v' : Value) (l' : List Pr), e = .returned g.val ∧ g.In w' ∧ g.erase = (T.gen a b (seePrs l)).1 ∧ seePrs l' = (T.gen a b (seePrs l)).2 ∧ PSt S P v' l' w' ∧ Kp (PMut P v) w w' ∧
    g.On (fun x => w.heap.size ≤ x ∧ v'.ownBlock ≠ some x) ∧ (∀ x, v'.ownBlock = some x → v.ownBlock = some x ∨ w.heap.size ≤ x) ∧ g.Mine w'
end Go.Proofs.Ythncdmijledpnaa

namespace Go.Proofs.Ythncdmijledpnaa
open Go.RowKit Go.Maps Go.Lib

theorem zero_term (w : World) : (zeroValue 25).run Try.prog w = .ok zeroTm.val w := by kernel_rfl

/-- What a lookup gives, whatever has been made since. -/
theorem TMap.look {S : Nat → Prop} {w : World} {b : Nat} {f : Int → Option T} (h : TMap S w b f) {n : Int} (hn : In64 n) :
    ∃ (u : Tm) (x : Bool), (∀ (C : Nat → Prop) (ww : World), Kp C w ww → ¬ C b → (Instr.lookup 104 (.map (some b)) (.int .i64 n) true).run Try.prog ww = .ok (.tuple #[u.val, .bool x]) ww) ∧
      ((x = false ∧ f n = none ∧ u = zeroTm) ∨ (x = true ∧ ∃ t, f n = some t ∧ u.In w ∧ u.erase = t ∧ t.formed = true ∧ u.On S)) := by
  obtain ⟨⟨g, h1, h2⟩, h3, h4⟩ := h
  have hrun : ∀ (C : Nat → Prop) (ww : World), Kp C w ww → ¬ C b → (Instr.lookup 104 (.map (some b)) (.int .i64 n) true).run Try.prog ww = .ok (.tuple #[(g n).getD zeroTm.val, .bool (g n).isSome]) ww := fun C ww hk hb =>
    ((h1.kp hk hb).run (int_keyed Try.underlying2) Try.underlying104 (zero_term ww) (x := n) (keyOf_int_mk Try.underlying2 (wf_64 hn))).2
  have h5 := h2 n
  cases hf : f n with
  | none =>
    rw [hf] at h5
    simp only at h5
    refine ⟨zeroTm, false, fun C ww hk hb => ?_, .inl ⟨rfl, rfl, rfl⟩⟩
    rw [hrun C ww hk hb, h5]
    rfl
  | some t =>
    rw [hf] at h5
    obtain ⟨tm, i1, i2, i3, i4, i5⟩ := h5
    refine ⟨tm, true, fun C ww hk hb => ?_, .inr ⟨rfl, t, rfl, i2, i3, i4, i5⟩⟩
    rw [hrun C ww hk hb, i1]
    rfl

/-- A store: at P its three cells, at M the map; the trail; how long it was at each mark. -/
structure SM (S : Nat → Prop) (B : Nat) (w : World) (P M : Nat) (vt vm : Value) (σ : Int → Option T) (tr mk : List Int) : Prop where
  blk : BlkT w P 106 #[.map (some M), vt, vm]
  map : TMap S w M σ
  tro : IntsOwn w B vt tr
  mko : w.ownsRow B 3 1 vm mk.length (mk.map (Value.int .i64))
  trn : tr.Nodup
  tri : ∀ n, n ∈ tr ↔ σ n ≠ none
  sepS : ∀ b, S b → b < w.heap.size ∧ b ≠ P ∧ b ≠ M ∧ vt.ownBlock ≠ some b ∧ vm.ownBlock ≠ some b
  nPM : P ≠ M
  nt : vt.ownBlock ≠ some P ∧ vt.ownBlock ≠ some M
  nm : vm.ownBlock ≠ some P ∧ vm.ownBlock ≠ some M
  ntm : ∀ b, vt.ownBlock = some b → vm.ownBlock ≠ some b
  bnd : B ≤ w.heap.size

section
variable {S : Nat → Prop} {B : Nat} {w w' : World} {P M : Nat} {vt vm : Value} {σ : Int → Option T} {tr mk : List Int}
theorem TMap.lt (h : TMap S w M σ) : M < w.heap.size := by
  obtain ⟨⟨g, h1, _⟩, _, _⟩ := h
  exact h1.lt
theorem TMap.gr (h : TMap S w M σ) (hg : Gr w w') : TMap S w' M σ := h.kp (C := fun _ => False) (Kp.of_gr hg) id fun _ _ => id
theorem TMap.mono {S' : Nat → Prop} (h : TMap S w M σ) (hS : ∀ b, S b → S' b) : TMap S' w M σ := by
  obtain ⟨⟨g, h1, h2⟩, h3, h4⟩ := h
  refine ⟨⟨g, h1, fun n => ?_⟩, h3, h4⟩
  have := h2 n
  cases hf : σ n with
  | none => rw [hf] at this; exact this
  | some t =>
    rw [hf] at this
    obtain ⟨tm, i1, i2, i3, i4, i5⟩ := this
    exact ⟨tm, i1, i2, i3, i4, i5.mono hS⟩
theorem SM.gr (h : SM S B w P M vt vm σ tr mk) (hg : Gr w w') : SM S B w' P M vt vm σ tr mk where
  blk := h.blk.gr hg
  map := h.map.gr hg
  tro := h.tro.gr hg
  mko := ownsRow_gr h.mko hg
  trn := h.trn
  tri := h.tri
  sepS b hb := ⟨Nat.lt_of_lt_of_le (h.sepS b hb).1 hg.size, (h.sepS b hb).2⟩
  nPM := h.nPM
  nt := h.nt
  nm := h.nm
  ntm := h.ntm
  bnd := Nat.le_trans h.bnd hg.size
/-- More terms may be laid in it. -/
theorem SM.mono {S' : Nat → Prop} (h : SM S B w P M vt vm σ tr mk) (hS : ∀ b, S b → S' b) (hS' : ∀ b, S' b → b < w.heap.size ∧ b ≠ P ∧ b ≠ M ∧ vt.ownBlock ≠ some b ∧ vm.ownBlock ≠ some b) : SM S' B w P M vt vm σ tr mk :=
  { h with map := h.map.mono hS, sepS := hS' }
theorem SM.range (h : SM S B w P M vt vm σ tr mk) (n : Int) (hn : n ∈ tr) : 0 ≤ n ∧ n ≤ 1099511627776 := h.map.2.2 n ((h.tri n).1 hn)
theorem SM.len (h : SM S B w P M vt vm σ tr mk) : tr.length ≤ 1099511627777 := nodup_le 1099511627777 tr h.trn fun x hx => by
  have := h.range x hx
  omega
end
end Go.Proofs.Ythncdmijledpnaa

namespace Go.Proofs.Ythncdmijledpnaa
open Go.RowKit

/-- A function value that may be called of such variables. -/
def MapFnP (P : Int → Prop) (fv : Value) (S : Nat → Prop) (f : Int → T) (w0 : World) : Prop :=
  (∀ b, S b → b < w0.heap.size) ∧ ∃ (fid : FuncId) (cap : Array Value), fv = .func (.func fid) #[] cap ∧ (∀ (n : Int) (w : World), (callFunc fid (#[.int .i64 n] ++ cap)).run Try.prog w = .ok (.enter fid (#[.int .i64 n] ++ cap)) w) ∧
    ∀ (n : Int) (w : World), P n → Gr w0 w → In64 n → Calls Try.prog fid (#[.int .i64 n] ++ cap) w (RetTm (fun b => S b ∨ w.heap.size ≤ b) (f n) w)
theorem MapFnP.gr {P : Int → Prop} {fv : Value} {S : Nat → Prop} {f : Int → T} {w0 w1 : World} (h : MapFnP P fv S f w0) (hg : Gr w0 w1) : MapFnP P fv S f w1 := by
  obtain ⟨h0, fid, cap, h1, h2, h3⟩ := h
  exact ⟨fun b hb => Nat.lt_of_lt_of_le (h0 b hb) hg.size, fid, cap, h1, h2, fun n w hp hw hn => h3 n w hp (hg.trans hw) hn⟩

end Go.Proofs.Ythncdmijledpnaa
