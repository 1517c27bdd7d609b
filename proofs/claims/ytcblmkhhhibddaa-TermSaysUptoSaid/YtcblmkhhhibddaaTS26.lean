/-
  All parts of a term, a term ahead of its Args: hornref.Flat.
  term.Rename.
  hornlaw.none
  hornlaw.one, of what is no term.
-/
import Derived.Test.YtcblmkhhhibddaaTS07
import Derived.Test.YtcblmkhhhibddaaTS10
import Derived.Test.YtcblmkhhhibddaaTS08
import Derived.Test.YtcblmkhhhibddaaTS20
import Derived.Test.YtcblmkhhhibddaaTS09
import Derived.Test.YtcblmkhhhibddaaTS12
import Derived.Test.YtcblmkhhhibddaaTS04
import Derived.Test.YtcblmkhhhibddaaTS22
import Derived.Test.YtcblmkhhhibddaaTS25
import Derived.Test.YtcblmkhhhibddaaTS19
namespace Go.Proofs.Ytcblmkhhhibddaa
open Go.RowKit Go.Maps Go.Lib

mutual
def T.flat : T → List T
  | .mk k n s l => .mk k n s l :: T.flatL l
def T.flatL : List T → List T
  | [] => []
  | x :: xs => T.flat x ++ T.flatL xs
end
mutual
def Tm.flat : Tm → List Tm
  | .mk k n s p c l => .mk k n s p c l :: Tm.flatL l
def Tm.flatL : List Tm → List Tm
  | [] => []
  | x :: xs => Tm.flat x ++ Tm.flatL xs
end
mutual
theorem flat_erase : ∀ t : Tm, Tm.eraseL t.flat = t.erase.flat
  | .mk k n s p c l => by rw [Tm.flat, Tm.eraseL, flatL_erase l, Tm.erase, T.flat]
theorem flatL_erase : ∀ l : List Tm, Tm.eraseL (Tm.flatL l) = T.flatL (Tm.eraseL l)
  | [] => by rw [Tm.flatL, Tm.eraseL, T.flatL]
  | x :: xs => by rw [Tm.flatL, eraseL_append, flat_erase x, flatL_erase xs, Tm.eraseL, T.flatL]
end
mutual
theorem flat_len : ∀ t : T, t.flat.length = T.sz t
  | .mk k n s l => by rw [T.flat, List.length_cons, flatL_len l, T.sz]
theorem flatL_len : ∀ l : List T, (T.flatL l).length = T.szL l
  | [] => by rw [T.flatL, T.szL]; rfl
  | x :: xs => by rw [T.flatL, List.length_append, flat_len x, flatL_len xs, T.szL]
end
theorem tmflat_len (t : Tm) : t.flat.length = T.sz t.erase := by rw [← flat_len, ← flat_erase, Tm.eraseL_length]
theorem tmflatL_len (l : List Tm) : (Tm.flatL l).length = T.szL (Tm.eraseL l) := by rw [← flatL_len, ← flatL_erase, Tm.eraseL_length]
mutual
theorem flat_in {w : World} : ∀ t : Tm, t.In w → ∀ x ∈ t.flat, x.In w
  | .mk k n s p c l, h, x, hx => by
    rw [Tm.flat] at hx
    rcases List.mem_cons.1 hx with rfl | hx
    · exact h
    · rw [Tm.In] at h
      exact flatL_in l h.2.2.2.2.2.2 x hx
theorem flatL_in {w : World} : ∀ l : List Tm, Tm.InL w l → ∀ x ∈ Tm.flatL l, x.In w
  | [], _, x, hx => by rw [Tm.flatL] at hx; cases hx
  | y :: ys, h, x, hx => by
    rw [Tm.flatL] at hx
    rw [Tm.InL] at h
    rcases List.mem_append.1 hx with hx | hx
    · exact flat_in y h.1 x hx
    · exact flatL_in ys h.2 x hx
end
theorem flatL_snoc : ∀ (l : List Tm) (x : Tm), Tm.flatL (l ++ [x]) = Tm.flatL l ++ x.flat
  | [], x => by simp [Tm.flatL]
  | y :: ys, x => by rw [List.cons_append, Tm.flatL, Tm.flatL, flatL_snoc ys x, List.append_assoc]
theorem flatL_step (l : List Tm) (k : Nat) (h : k < l.length) : Tm.flatL (l.take (k + 1)) = Tm.flatL (l.take k) ++ l[k].flat := by
  rw [List.take_add_one, List.getElem?_eq_getElem h, Option.toList_some, flatL_snoc]

theorem sz_mem2 : ∀ {l : List Tm} {x : Tm}, x ∈ l → T.sz x.erase ≤ T.szL (Tm.eraseL l)
  | y :: ys, x, h => by
    rw [Tm.eraseL, T.szL]
    rcases List.mem_cons.1 h with rfl | h
    · omega
    · have := sz_mem2 h; omega
theorem szL_takeM : ∀ (l : List Tm) (k : Nat), T.szL (Tm.eraseL (l.take k)) ≤ T.szL (Tm.eraseL l)
  | [], k => by rw [List.take_nil]; omega
  | x :: xs, 0 => by rw [List.take_zero, Tm.eraseL, T.szL]; omega
  | x :: xs, k + 1 => by
    have := szL_takeM xs k
    rw [List.take_succ_cons, Tm.eraseL, Tm.eraseL, T.szL, T.szL]
    omega
/-- The slice v of the call's own (blocks from B on) holds the cells of the terms l. -/
def OwnTs (w : World) (B : Nat) (v : Value) (l : List Tm) : Prop := w.ownsRow B 25 4 v l.length (l.flatMap Tm.cells)
theorem OwnTs.gr {w w' : World} {B : Nat} {v : Value} {l : List Tm} (h : OwnTs w B v l) (hg : Gr w w') : OwnTs w' B v l := ownsRow_gr h hg
theorem OwnTs.ge {w : World} {B : Nat} {v : Value} {l : List Tm} (h : OwnTs w B v l) {b : Nat} (hb : v.ownBlock = some b) : B ≤ b := (World.ownsRow.lt h b hb).1
theorem OwnTs.new (w : World) (B : Nat) (x : Tm) (hB : B ≤ w.heap.size) : OwnTs (w.alloc (.cells #[.int .i64 x.k, .int .i64 x.n, .string x.s, .slice x.p x.l.length x.c] 25)) B (.slice (some ⟨w.heap.size, 0, none⟩) 1 1) [x] := by
  refine ⟨by simp [Tm.cells], .inr ⟨w.heap.size, 1, _, rfl, hB, heap_alloc_new w _, Nat.le_refl _, by decide, rfl, ?_⟩⟩
  simp [Tm.cells]
theorem OwnTs.sl {w : World} {B : Nat} {v : Value} {l : List Tm} (h : OwnTs w B v l) (hl : l.length * 56 ≤ 140737488351232) (hin : Tm.InL w l) : ∃ p c, v = .slice p l.length c ∧ Tm.Sl w p c l := by
  rcases h.2 with ⟨rfl, h1⟩ | ⟨g, cap, cur, rfl, hbg, hg, hnc, hcm, hcs, htake⟩
  · have hn : l = [] := List.eq_nil_of_length_eq_zero h1
    subst hn
    exact ⟨none, 0, rfl, Nat.le_refl _, ⟨by simp, by omega⟩, .inl rfl, hin⟩
  · simp only [maxLen] at hcm
    refine ⟨_, cap, rfl, hnc, ⟨hl, by omega⟩, .inr ⟨g, 0, rfl, ?_⟩, hin⟩
    intro i x hx
    have hi : i < l.length := (List.getElem?_eq_some_iff.1 hx).1
    have hat : ∀ j, j < 4 → w.cell? ⟨g, 0 + i * 4 + j, none⟩ = x.cells[j]? := by
      intro j hj
      rw [Nat.zero_add, World.ownsRow.cellAt h _ (by omega)]
      exact cells_at hx j hj
    exact ⟨hat 0 (by omega), hat 1 (by omega), hat 2 (by omega), hat 3 (by omega)⟩
/-- append of some terms. -/
theorem append_tms (w : World) (B : Nat) (v : Value) (l : List Tm) (p : Option Addr) (c : Nat) (s : List Tm) (hs : Tm.Sl w p c s) (h : OwnTs w B v l) (hB : B ≤ w.heap.size) (hl : (l.length + s.length) * 56 ≤ 140737488351232) :
    ∃ v' w', (Builtin.append_ #[23, 23] 23 #[v, .slice p s.length c]).run Try.prog w = .ok v' w' ∧ OwnTs w' B v' (l ++ s) ∧ w.grownBy w' v.ownBlock ∧ (v'.ownBlock = v.ownBlock ∨ v'.ownBlock = some w.heap.size) := by
  obtain ⟨i0, hi, hz0, hz1, hz2⟩ := info_parts infoTerm
  by_cases h0 : s = []
  · subst h0
    rcases h.2 with ⟨rfl, h1⟩ | ⟨g, cap, cur, rfl, hg0, hg, hnc, hr⟩
    · refine ⟨_, w, run_append_empty w _ _ _ i0 Try.underlying23 hi none 0 0 p c (Nat.le_refl _), by simpa using h, ⟨rfl, rfl, rfl, Nat.le_refl _, fun _ _ _ => rfl⟩, .inl rfl⟩
    · refine ⟨_, w, run_append_empty w _ _ _ i0 Try.underlying23 hi _ l.length cap p c hnc, by simpa using h, ⟨rfl, rfl, rfl, Nat.le_refl _, fun _ _ _ => rfl⟩, .inl rfl⟩
  · have hpos : 0 < s.length := List.length_pos_iff.2 h0
    obtain ⟨b, o, rfl⟩ := hs.ptr hpos
    have hrow : Tm.row w b o s := by
      rcases hs.2.2.1 with h1 | ⟨b', o', he, h1⟩
      · exact absurd h1 h0
      · cases he; exact h1
    obtain ⟨v', w', hr, h2, h3, h4⟩ := run_append_own_fresh (P := Try.prog) w B 23 23 25 i0 _ 4 56 Try.underlying23 hi hz0 hz1 hz2 rfl (by decide) v l.length (l.flatMap Tm.cells) h
      ⟨b, o, none⟩ s.length c (s.flatMap Tm.cells) (cells_len s) (by
        intro j u hu
        rw [Go.WideShapes.add_plain]
        exact flat_cells hrow j u hu) (flat_one s) (by simp only [maxLen]; omega) (by omega) hB (by omega)
    refine ⟨v', w', hr, ?_, h3, h4⟩
    show w'.ownsRow B _ 4 v' _ _
    rw [List.length_append, List.flatMap_append]
    exact h2

/-- Flat's answer. -/
def RetFlat (t : Tm) (w : World) (e : Ending) (w' : World) : Prop := ∃ p c, e = .returned (.slice p t.flat.length c) ∧ Tm.Sl w' p c t.flat ∧ Gr w w'
def flatOf (t : Tm) : Prop := ∀ w : World, t.In w → T.sz t.erase ≤ 1048576 → Calls Try.prog 98 #[t.val] w (RetFlat t w)

set_option maxHeartbeats 1000000 in
set_option maxRecDepth 100000 in
theorem flat_step (k0 n : Int) (s : ByteArray) (p : Option Addr) (c : Nat) (l : List Tm) (ih : ∀ x ∈ l, flatOf x) : flatOf (.mk k0 n s p c l) := by
  intro w h hsz
  have Ht := Lib.hid h
  have H := Lib.hid h.sl
  have Hih := Lib.hid ih
  have hs0 : T.szL (Tm.eraseL l) + 1 ≤ 1048576 := by rw [Tm.erase, T.sz] at hsz; omega
  have Hs0 := Lib.hid hs0
  have hR : Hid (∀ (p' : Option Addr) c' w', Tm.Sl w' p' c' (Tm.flat (.mk k0 n s p c l)) → Gr w w' → RetFlat (.mk k0 n s p c l) w (.returned (.slice p' (Tm.flat (.mk k0 n s p c l)).length c')) w') := fun p' c' w' h1 h2 => ⟨p', c', rfl, h1, h2⟩
  generalize RetFlat (.mk k0 n s p c l) w = Q at hR ⊢
  rw [Tm.In] at h
  obtain ⟨_, _, hs, hl, hc, _, _⟩ := h
  clear ih hsz hs0
  simp only [Tm.val, Tm.k, Tm.n, Tm.s, Tm.p, Tm.c, Tm.l]
  go_enter Try.func98, Try.ntmps98
  try simp only [List.append_eq, List.cons_append, List.nil_append]
  go_upto_region 1 with fail
  have hB := Blk4.new w (.int .i64 k0) (.int .i64 n) (.string s) (.slice p l.length c)
  have gA : Gr w (w.alloc (.cells #[.int .i64 k0, .int .i64 n, .string s, .slice p l.length c] 25)) := by go_grown
  generalize w.alloc (.cells #[.int .i64 k0, .int .i64 n, .string s, .slice p l.length c] 25) = wA at *
  have HB := Lib.hid hB
  obtain ⟨⟨x0, x1, x2, x3⟩, _, _⟩ := hB.parts
  clear hB
  go_upto_region 2 with fail
  have hO := OwnTs.new wA wA.heap.size (.mk k0 n s p c l) (Nat.le_refl _)
  have gB : Gr wA (wA.alloc (.cells #[.int .i64 k0, .int .i64 n, .string s, .slice p l.length c] 25)) := by go_grown
  simp only [Tm.k, Tm.n, Tm.s, Tm.p, Tm.c, Tm.l] at hO
  generalize wA.alloc (.cells #[.int .i64 k0, .int .i64 n, .string s, .slice p l.length c] 25) = wB at *
  have HO := Lib.hid hO
  clear hO x0 x1 x2 x3
  go_wp2_with fail
  go_loopg [3, 4] l.length (fun m v3 v4 wr => ∃ (k : Nat) (v : Value), v = v3 ∧ k ≤ l.length ∧ m = l.length - k ∧ v4 = .int .i64 k ∧ Hid (OwnTs wr wA.heap.size v (.mk k0 n s p c l :: Tm.flatL (l.take k))) ∧ Gr wA wr)
  case atStart => exact ⟨0, _, rfl, Nat.zero_le _, rfl, rfl, by rw [List.take_zero, Tm.flatL]; exact HO.out, gB⟩
  case round =>
    obtain ⟨k, v, rfl, hk, rfl, rfl, ho, gr⟩ := hrel
    obtain ⟨⟨x0, x1, x2, x3⟩, _, _⟩ := (HB.out.gr gr).parts
    by_cases hlt : k < l.length
    · obtain ⟨b, o, rfl⟩ := H.out.ptr (by omega)
      obtain ⟨⟨c0, c1, c2, c3⟩, hx, _⟩ := (H.out.mono (gA.trans gr)).elem k hlt
      have hxs : T.sz l[k].erase ≤ 1048576 := by have := sz_mem2 (List.getElem_mem hlt); have := Hs0.out; omega
      have Hc := Lib.hid (fun (w' : World) (g : Gr wr w') => Hih.out _ (List.getElem_mem hlt) w' (Tm.In_below g hx) hxs)
      have Hst := Lib.hid (flatL_step l k hlt)
      have Hxl := Lib.hid (tmflat_len l[k])
      have hlen : (Tm.flatL (l.take k)).length ≤ 1048576 := by
        rw [tmflatL_len]
        have := szL_takeM l k
        have := Hs0.out
        omega
      clear hx
      generalize l[k] = x at *
      rw [show x.val = .agg #[.int .i64 x.k, .int .i64 x.n, .string x.s, .slice x.p x.l.length x.c] from rfl] at Hc
      go_wp2_with fail
      refine (Hc.out _ (by go_grown)).mono ?_
      rintro e w1 ⟨p1, c1', rfl, hsl, g1⟩
      replace g1 : Gr wr w1 := g1
      obtain ⟨v', w', hr, r1, r2, r3⟩ := append_tms w1 wA.heap.size v _ p1 c1' x.flat hsl (ho.out.gr g1) (gr.trans g1).size (by rw [List.length_cons]; have := Hxl.out; omega)
      have Hr := Lib.hid hr
      have Hr1 := Lib.hid r1
      have gw : Gr wA w' := Below.trans (gr.trans g1) (grownBy_below r2 (gr.trans g1).size fun b hb => ho.out.ge hb)
      clear x0 x1 x2 x3 c0 c1 c2 c3 hr r1 r2 r3 hsl hlen
      go_wp2_with (first
        | (refine wpList_append_run w1 rfl _ _ _ _ rfl _ _ (by rfl) (by rfl) _ _ Hr.out ?_)
        | fail)
      go_roundg (l.length - (k + 1))
      case measure => omega
      case rel => exact ⟨k + 1, v', rfl, by omega, rfl, by go_num, by rw [Hst.out]; exact Hr1.out, gw⟩
    · obtain rfl : k = l.length := by omega
      have ho2 := ho.out
      rw [List.take_length] at ho2
      have hfl : Tm.flat (.mk k0 n s p c l) = .mk k0 n s p c l :: Tm.flatL l := by rw [Tm.flat]
      rw [← hfl] at ho2
      obtain ⟨p2, c2, rfl, hsl⟩ := ho2.sl (by rw [tmflat_len, Tm.erase, T.sz]; have := Hs0.out; omega) (Tm.InL_of fun x hx => flat_in _ (Tm.In_below (gA.trans gr) Ht.out) x hx)
      have Hb := Lib.hid (hR.out _ _ wr hsl (gA.trans gr))
      clear ho2 hfl hsl ho
      go_wp2_with fail
      exact Hb.out
theorem flat_any (N : Nat) : ∀ t : Tm, SizeOf.sizeOf t ≤ N → flatOf t := by
  induction N with
  | zero => intro t h; cases t; simp at h
  | succ N ih =>
    intro t hN
    obtain ⟨k, n, s, p, c, l⟩ := t
    exact flat_step k n s p c l fun x hx => ih x (by have := Tm.sizeOf_mem hx k n s p c; omega)
theorem flat_calls {t : Tm} {w : World} (h : t.In w) (hs : T.sz t.erase ≤ 1048576) : Calls Try.prog 98 #[t.val] w (RetFlat t w) := flat_any _ t (Nat.le_refl _) w h hs
end Go.Proofs.Ytcblmkhhhibddaa

namespace Go.Proofs.Ytcblmkhhhibddaa
open Go.RowKit Go.Maps Go.Lib

/-- Rename's answer. -/
def RetRename (B : Nat) (a : T) (d : Int) (w : World) (e : Ending) (w' : World) : Prop := ∃ (u : Tm) (n err : Int), e = .returned (.tuple #[u.val, .int .i64 n, .int .i64 err]) ∧ u.In w' ∧ u.On (fun x => B ≤ x) ∧ Gr w w' ∧
  ((a.formed = false ∧ u = zeroTm ∧ n = 0 ∧ err = 2) ∨ (a.formed = true ∧ ¬ (0 ≤ d ∧ d ≤ 1099511627776) ∧ u = zeroTm ∧ n = 0 ∧ err = 1) ∨
   (a.formed = true ∧ (0 ≤ d ∧ d ≤ 1099511627776) ∧ 1099511627776 - d + 1 < ((T.varsL [a] []).length : Int) ∧ u = zeroTm ∧ n = 0 ∧ err = 9) ∨
   (a.formed = true ∧ (0 ≤ d ∧ d ≤ 1099511627776) ∧ ((T.varsL [a] []).length : Int) ≤ 1099511627776 - d + 1 ∧ u.erase = T.map (swapF d (T.varsL [a] [])) a ∧ n = d + ((T.varsL [a] []).length : Int) ∧ err = 0))

set_option maxHeartbeats 2000000 in
set_option maxRecDepth 100000 in
theorem rename_calls (p : Tm) (d : Int) (w : World) (ip : p.In w) (_ : In64 d) : Calls Try.prog 41 #[p.val, .int .i64 d] w (RetRename w.heap.size p.erase d w) := by
  have Ip := Lib.hid ip
  have hformed := Lib.hid (fun W (g : Gr w W) => show Calls Try.prog 95 #[.agg #[.int .i64 p.k, .int .i64 p.n, .string p.s, .slice p.p p.l.length p.c]] W (Ret (.bool p.erase.formed) W) from formed_calls (t := p) (Tm.In_below g ip))
  have hQ0 : Hid (∀ (u : Tm) (n err : Int) w', u.In w' → u.On (fun x => w.heap.size ≤ x) → Gr w w' → ((p.erase.formed = false ∧ u = zeroTm ∧ n = 0 ∧ err = 2) ∨ (p.erase.formed = true ∧ ¬ (0 ≤ d ∧ d ≤ 1099511627776) ∧ u = zeroTm ∧ n = 0 ∧ err = 1) ∨
   (p.erase.formed = true ∧ (0 ≤ d ∧ d ≤ 1099511627776) ∧ 1099511627776 - d + 1 < ((T.varsL [p.erase] []).length : Int) ∧ u = zeroTm ∧ n = 0 ∧ err = 9) ∨
   (p.erase.formed = true ∧ (0 ≤ d ∧ d ≤ 1099511627776) ∧ ((T.varsL [p.erase] []).length : Int) ≤ 1099511627776 - d + 1 ∧ u.erase = T.map (swapF d (T.varsL [p.erase] [])) p.erase ∧ n = d + ((T.varsL [p.erase] []).length : Int) ∧ err = 0)) → RetRename w.heap.size p.erase d w (.returned (.tuple #[u.val, .int .i64 n, .int .i64 err])) w') := fun u n err w' h1 h2 h3 h4 => ⟨u, n, err, rfl, h1, h2, h3, h4⟩
  generalize RetRename w.heap.size p.erase d w = Q at hQ0 ⊢
  have HQ := hQ0
  clear ip hQ0
  rw [show p.val = .agg #[.int .i64 p.k, .int .i64 p.n, .string p.s, .slice p.p p.l.length p.c] from rfl]
  go_enter Try.func41, Try.ntmps41
  try simp only [List.append_eq, List.cons_append, List.nil_append]
  go_upto_region 1 with fail
  obtain ⟨h3, h4, gA⟩ := two_blocks w (.int .i64 p.k) (.int .i64 p.n) (.string p.s) (.slice p.p p.l.length p.c) (.int .i64 0) (.int .i64 0) (.string ⟨#[]⟩) (.slice none 0 0)
  generalize ((w.alloc (.cells #[.int .i64 p.k, .int .i64 p.n, .string p.s, .slice p.p p.l.length p.c] 25)).alloc (.cells #[.int .i64 0, .int .i64 0, .string ⟨#[]⟩, .slice none 0 0] 25)) = wA at *
  obtain ⟨⟨x0, x1, x2, x3⟩, _, _⟩ := h3.out.parts
  obtain ⟨ff, hff⟩ : ∃ ff, p.erase.formed = ff := ⟨_, rfl⟩
  rw [hff] at hformed
  have Hff := Lib.hid hff
  clear hff
  go_wp2_with fail
  refine (hformed.out _ gA).mono ?_
  rintro e w2 ⟨rfl, hg2⟩
  have gA2 : Gr wA w2 := hg2
  have g2 : Gr w w2 := gA.trans gA2
  have k4 := h4.out.gr gA2
  have K4 := Lib.hid k4
  have hs4 : w.heap.size + 1 < w2.heap.size := k4.parts.2.2
  have hzero : ∀ (W : World) (err : Int), Gr w2 W → (∀ u n, u = zeroTm → n = 0 → ((p.erase.formed = false ∧ u = zeroTm ∧ n = 0 ∧ err = 2) ∨ (p.erase.formed = true ∧ ¬ (0 ≤ d ∧ d ≤ 1099511627776) ∧ u = zeroTm ∧ n = 0 ∧ err = 1) ∨
   (p.erase.formed = true ∧ (0 ≤ d ∧ d ≤ 1099511627776) ∧ 1099511627776 - d + 1 < ((T.varsL [p.erase] []).length : Int) ∧ u = zeroTm ∧ n = 0 ∧ err = 9) ∨
   (p.erase.formed = true ∧ (0 ≤ d ∧ d ≤ 1099511627776) ∧ ((T.varsL [p.erase] []).length : Int) ≤ 1099511627776 - d + 1 ∧ u.erase = T.map (swapF d (T.varsL [p.erase] [])) p.erase ∧ n = d + ((T.varsL [p.erase] []).length : Int) ∧ err = 0))) → ∀ a b c d', Q (.returned (.tuple #[zeroTm.val, .int .i64 0, .int .i64 err])) ((((W.setCell ⟨w.heap.size + 1, 0, none⟩ a).setCell ⟨w.heap.size + 1, 1, none⟩ b).setCell ⟨w.heap.size + 1, 2, none⟩ c).setCell ⟨w.heap.size + 1, 3, none⟩ d') := fun W err gW hc a b c d' =>
    HQ.out zeroTm 0 err _ (zeroTm_in _) (by rw [zeroTm, Tm.On, Tm.OnL]; exact ⟨.inl rfl, trivial⟩)
      (Below.trans (g2.trans gW) ((Kp.sets (C := (· = w.heap.size + 1)) (w := W) (b := w.heap.size + 1) rfl a b c d').below (fun b hb => by omega) (g2.trans gW).size)) (hc _ _ rfl rfl)
  have Hzero := Lib.hid hzero
  clear x0 x1 x2 x3 hg2 hzero
  cases ff with
  | false =>
    obtain ⟨⟨y0, y1, y2, y3⟩, ⟨f0, f1, f2, f3⟩, _⟩ := k4.parts
    have Hb := Lib.hid (Hzero.out w2 2 (Gr.rfl' _) fun u n hu hn => .inl ⟨Hff.out, hu, hn, rfl⟩)
    clear k4
    go_wp2_with fail
    exact bodyPost_ret (v := .tuple #[zeroTm.val, .int .i64 0, .int .i64 2]) (by simp (maxDischargeDepth := 9) [results, Try.results41, go_sem, zeroTm, Tm.val, Tm.k, Tm.n, Tm.s, Tm.p, Tm.c, Tm.l, y0, y1, y2, y3]) rfl (Hb.out _ _ _ _)
  | true =>
    by_cases hr0 : d < 0
    · obtain ⟨⟨y0, y1, y2, y3⟩, ⟨f0, f1, f2, f3⟩, _⟩ := k4.parts
      obtain ⟨⟨x0, x1, x2, x3⟩, _, _⟩ := (h3.out.gr gA2).parts
      have Hb := Lib.hid (Hzero.out w2 1 (Gr.rfl' _) fun u n hu hn => .inr (.inl ⟨Hff.out, by omega, hu, hn, rfl⟩))
      clear k4
      go_wp2_with fail
      exact bodyPost_ret (v := .tuple #[zeroTm.val, .int .i64 0, .int .i64 1]) (by simp (maxDischargeDepth := 9) [results, Try.results41, go_sem, zeroTm, Tm.val, Tm.k, Tm.n, Tm.s, Tm.p, Tm.c, Tm.l, y0, y1, y2, y3]) rfl (Hb.out _ _ _ _)
    by_cases hr1 : 1099511627776 < d
    · obtain ⟨⟨y0, y1, y2, y3⟩, ⟨f0, f1, f2, f3⟩, _⟩ := k4.parts
      obtain ⟨⟨x0, x1, x2, x3⟩, _, _⟩ := (h3.out.gr gA2).parts
      have Hb := Lib.hid (Hzero.out w2 1 (Gr.rfl' _) fun u n hu hn => .inr (.inl ⟨Hff.out, by omega, hu, hn, rfl⟩))
      clear k4
      go_wp2_with fail
      exact bodyPost_ret (v := .tuple #[zeroTm.val, .int .i64 0, .int .i64 1]) (by simp (maxDischargeDepth := 9) [results, Try.results41, go_sem, zeroTm, Tm.val, Tm.k, Tm.n, Tm.s, Tm.p, Tm.c, Tm.l, y0, y1, y2, y3]) rfl (Hb.out _ _ _ _)
    go_upto_region 5 with fail
    have hd0 : 0 ≤ d := by omega
    have hd1 : d ≤ 1099511627776 := by omega
    have hone : ∀ (w0 w' : World), Gr w w0 → Gr (w0.alloc (.cells #[.int .i64 p.k, .int .i64 p.n, .string p.s, .slice p.p p.l.length p.c] 25)) w' → Tm.Sl w' (some ⟨w0.heap.size, 0, none⟩) 1 [p] := fun w0 w' h0 h1 => one_new (Tm.In_below h0 Ip.out) h1
    have Hone := Lib.hid hone
    have hvars : ∀ (w0 w' : World), Gr w w0 → Gr (w0.alloc (.cells #[.int .i64 p.k, .int .i64 p.n, .string p.s, .slice p.p p.l.length p.c] 25)) w' → Calls Try.prog 110 #[.slice (some ⟨w0.heap.size, 0, none⟩) 1 1] w' fun e w'' => ∃ (pv : Option Addr) (c : Nat), e = .returned (.slice pv (T.varsL [p.erase] []).length c) ∧ Gr w' w'' := fun w0 w' h0 h1 => by
      refine (variables_calls (some ⟨w0.heap.size, 0, none⟩) 1 [p] w' (Hone.out w0 w' h0 h1) (fun x hx => by rw [List.mem_singleton] at hx; rw [hx]; exact fmd_of Hff.out)).mono ?_
      rintro e w'' ⟨v, rfl, hv, hg⟩
      obtain ⟨pv, c, rfl⟩ := hv.form
      rw [erase_one] at *
      exact ⟨pv, c, rfl, hg⟩
    have Hvars := Lib.hid hvars
    obtain ⟨⟨x0, x1, x2, x3⟩, _, _⟩ := (h3.out.gr gA2).parts
    clear hone hvars
    go_wp2_with fail
    refine (Hvars.out _ _ g2 (Gr.rfl' _)).mono ?_
    rintro e w3 ⟨pv, cv, rfl, hg3⟩
    have g23 : Gr w2 w3 := Gr.trans (show Gr w2 _ by go_grown) hg3
    have g3 : Gr w w3 := g2.trans g23
    obtain ⟨n, hn⟩ : ∃ n : Nat, (T.varsL [p.erase] []).length = n := ⟨_, rfl⟩
    rw [hn]
    have Hn := Lib.hid hn
    clear hg3 hn x0 x1 x2 x3
    by_cases hbig : 1099511627776 - d + 1 < (n : Int)
    · obtain ⟨⟨y0, y1, y2, y3⟩, ⟨f0, f1, f2, f3⟩, _⟩ := (K4.out.gr g23).parts
      have Hb := Lib.hid (Hzero.out w3 9 g23 fun u m hu hm => .inr (.inr (.inl ⟨Hff.out, ⟨hd0, hd1⟩, by rw [Hn.out]; exact hbig, hu, hm, rfl⟩)))
      clear k4
      go_wp2_with fail
      exact bodyPost_ret (v := .tuple #[zeroTm.val, .int .i64 0, .int .i64 9]) (by simp (maxDischargeDepth := 9) [results, Try.results41, go_sem, zeroTm, Tm.val, Tm.k, Tm.n, Tm.s, Tm.p, Tm.c, Tm.l, y0, y1, y2, y3]) rfl (Hb.out _ _ _ _)
    obtain ⟨⟨x0, x1, x2, x3⟩, _, _⟩ := (h3.out.gr (gA2.trans g23)).parts
    have Hr1 := Lib.hid (fun W (hW : Gr (w3.alloc (.cells #[.int .i64 p.k, .int .i64 p.n, .string p.s, .slice p.p p.l.length p.c] 25)) W) => show Calls Try.prog 93 #[.int .i64 d, .slice (some ⟨w3.heap.size, 0, none⟩) 1 1] W (RetRens d [p.erase] W) from by
      have := renamed_calls d (some ⟨w3.heap.size, 0, none⟩) 1 [p] W (Hone.out w3 W g3 hW) (fun x hx => by rw [List.mem_singleton] at hx; rw [hx]; exact Hff.out) ⟨by omega, by omega⟩
      rwa [erase_one] at this)
    clear k4
    go_wp2_with fail
    refine (Hr1.out _ (Gr.rfl' _)).mono ?_
    rintro e w4 ⟨p1, c1, l1, rfl, sl1, e1, hg4, on1⟩
    obtain ⟨u, rfl, eu⟩ := ren_one e1
    have g34 : Gr w3 w4 := Gr.trans (show Gr w3 _ by go_grown) hg4
    have g4 : Gr w w4 := g3.trans g34
    obtain ⟨b, o, rfl⟩ := sl1.ptr (by simp)
    obtain ⟨⟨c0, c1', c2', c3⟩, iu, _⟩ := sl1.elem 0 (by simp)
    simp only [List.getElem_cons_zero, Nat.zero_mul, Nat.add_zero] at c0 c1' c2' c3 iu
    rw [Hn.out]
    have hl1 : 1 ≤ c1 := sl1.1
    have ou : u.On (w3.heap.size + 1 ≤ ·) := by
      have := on1.2
      rw [Tm.OnL] at this
      exact (this.1).mono fun b hb => by simp at hb; omega
    have hs5 : w2.heap.size ≤ w3.heap.size := g23.size
    obtain ⟨⟨y0, y1, y2, y3⟩, ⟨f0, f1, f2, f3⟩, _⟩ := (K4.out.gr (g23.trans g34)).parts
    have kk : Kp (· = w.heap.size + 1) w4 _ := Kp.sets (C := (· = w.heap.size + 1)) (w := w4) (b := w.heap.size + 1) rfl (.int .i64 u.k) (.int .i64 u.n) (.string u.s) (.slice u.p u.l.length u.c)
    have Hb := Lib.hid (HQ.out u (d + (n : Int)) 0 _ (kp_in iu ou (fun b hb e => by omega) kk) (ou.mono fun b hb => by omega) (Below.trans g4 (kk.below (fun b hb => by omega) g4.size)) (.inr (.inr (.inr ⟨Hff.out, ⟨hd0, hd1⟩, by rw [Hn.out]; omega, eu, by rw [Hn.out], rfl⟩))))
    clear kk iu eu ou e1 on1 sl1 x0 x1 x2 x3 hg4 Hr1 Hvars Hone
    go_wp2_with fail
    exact bodyPost_ret (v := .tuple #[u.val, .int .i64 (d + (n : Int)), .int .i64 0]) (by simp (maxDischargeDepth := 9) [results, Try.results41, go_sem, Tm.val, y0, y1, y2, y3]) rfl Hb.out
end Go.Proofs.Ytcblmkhhhibddaa

namespace Go.Proofs.Ytcblmkhhhibddaa
open Go.RowKit

set_option maxHeartbeats 1000000 in
set_option maxRecDepth 100000 in
theorem none_gen (p : Option Addr) (c : Nat) (w : World) : Calls Try.prog 97 #[(Tm.mk 0 0 ⟨#[]⟩ p c []).val] w (Ret (.bool true) w) := by
  simp only [Tm.val, Tm.k, Tm.n, Tm.s, Tm.p, Tm.c, Tm.l, List.length_nil]
  go_enter Try.func97, Try.ntmps97
  go_wp2_with fail
  go_ret
  exact ret_bool rfl (by go_grown)

end Go.Proofs.Ytcblmkhhhibddaa

namespace Go.Proofs.Ytcblmkhhhibddaa
open Go.RowKit Go.Maps Go.Lib

/-- A new block that a term is stored in. -/
theorem set_new (w : World) (v0 v1 v2 v3 : Value) : Blk4 (w.alloc (.cells #[v0, v1, v2, v3] 25)) w.heap.size v0 v1 v2 v3 ∧ Gr w (w.alloc (.cells #[v0, v1, v2, v3] 25)) := by
  exact ⟨Blk4.new w v0 v1 v2 v3, by go_grown⟩
theorem noneZ (w : World) : Calls Try.prog 97 #[.agg #[.int .i64 0, .int .i64 0, .string ⟨#[]⟩, .slice none 0 0]] w (Ret (.bool true) w) := none_gen none 0 w
set_option maxHeartbeats 8000000 in
set_option maxRecDepth 100000 in
theorem one_bad (a : Tm) (d : Int) (p : Option Addr) (c : Nat) (L : List Int) (w : World) (ia : a.In w) (hd : In64 d) (hL : IntSl w p c L) (sz : T.sz a.erase ≤ 1048576) (hff : a.erase.formed = false) :
    Calls Try.prog 34 #[a.val, .int .i64 d, .slice p L.length c, .bool false] w (Ret (.bool true) w) := by
  have hmea : Hid (∀ W, Gr w W → Calls Try.prog 96 #[.agg #[.int .i64 a.k, .int .i64 a.n, .string a.s, .slice a.p a.l.length a.c]] W (fun e W' => e = .returned (.tuple #[.int .i64 0, .int .i64 0, .int .i64 2]) ∧ Gr W W')) := fun W g => (measure_calls a W (Tm.In_below g ia) sz).mono fun e W' h => ⟨by rw [h.1, hff]; rfl, h.2⟩
  have hvar : Hid (∀ W, Gr w W → Calls Try.prog 51 #[.agg #[.int .i64 a.k, .int .i64 a.n, .string a.s, .slice a.p a.l.length a.c]] W (fun e W' => ∃ (pv : Option Addr) (c : Nat), e = .returned (.tuple #[.slice pv 0 c, .int .i64 2]) ∧ Gr W W')) := fun W g => (vars_calls a W (Tm.In_below g ia)).mono fun e W' ⟨pv, c, V, h1, _, h3, h4⟩ => by
    rw [hff] at h4 h1
    obtain rfl : V = [] := h4
    exact ⟨pv, c, h1, h3⟩
  have hren : Hid (∀ W, Gr w W → Calls Try.prog 41 #[.agg #[.int .i64 a.k, .int .i64 a.n, .string a.s, .slice a.p a.l.length a.c], .int .i64 d] W (fun e W' => e = .returned (.tuple #[.agg #[.int .i64 0, .int .i64 0, .string ⟨#[]⟩, .slice none 0 0], .int .i64 0, .int .i64 2]) ∧ Gr W W')) := fun W g => (rename_calls a d W (Tm.In_below g ia) hd).mono fun e W' ⟨u, n, err, h1, _, _, h3, h4⟩ => by
    rw [hff] at h4
    rcases h4 with ⟨_, rfl, rfl, rfl⟩ | ⟨h, _⟩ | ⟨h, _⟩ | ⟨h, _⟩
    · exact ⟨h1, h3⟩
    all_goals cases h
  have hat : Hid (∀ W, Gr w W → Calls Try.prog 46 #[.agg #[.int .i64 a.k, .int .i64 a.n, .string a.s, .slice a.p a.l.length a.c], .slice p L.length c] W (fun e W' => e = .returned (.tuple #[.agg #[.int .i64 0, .int .i64 0, .string ⟨#[]⟩, .slice none 0 0], .int .i64 2]) ∧ Gr W W')) := fun W g => (at_calls a p c L W (Tm.In_below g ia) (hL.mono g)).mono fun e W' ⟨h3, h4⟩ => by
    rw [hff] at h4
    rcases h4 with ⟨_, h⟩ | ⟨h, _⟩ | ⟨h, _⟩
    · exact ⟨h, h3⟩
    all_goals cases h
  have hR : Hid (∀ w', Gr w w' → Ret (.bool true) w (.returned (.bool true)) w') := fun w' g => ⟨rfl, g⟩
  generalize Ret (.bool true) w = Q at hR ⊢
  have HR := hR
  have hnone := Lib.hid noneZ
  clear ia hd hL sz hR hff
  rw [show a.val = .agg #[.int .i64 a.k, .int .i64 a.n, .string a.s, .slice a.p a.l.length a.c] from rfl]
  go_enter Try.func34, Try.ntmps34
  try simp only [List.append_eq, List.cons_append, List.nil_append]
  go_upto_region 1 with fail
  have h4 := Lib.hid (Blk4.new w (.int .i64 a.k) (.int .i64 a.n) (.string a.s) (.slice a.p a.l.length a.c))
  have gA : Gr w (w.alloc (.cells #[.int .i64 a.k, .int .i64 a.n, .string a.s, .slice a.p a.l.length a.c] 25)) := by go_grown
  generalize (w.alloc (.cells #[.int .i64 a.k, .int .i64 a.n, .string a.s, .slice a.p a.l.length a.c] 25)) = wA at *
  obtain ⟨⟨x0, x1, x2, x3⟩, _, s4⟩ := h4.out.parts
  go_wp2_with fail
  refine (hmea.out _ gA).mono ?_
  rintro e w1 ⟨rfl, g1⟩
  have H4 := Lib.hid (h4.out.gr g1)
  replace g1 : Gr w w1 := gA.trans g1
  clear x0 x1 x2 x3 h4 hmea gA
  obtain ⟨⟨x0, x1, x2, x3⟩, _, s5⟩ := H4.out.parts
  go_upto_region 2 with fail
  go_wp2_with fail
  refine (hvar.out _ g1).mono ?_
  rintro e w2 ⟨pv, cv, rfl, g2⟩
  have h4 := Lib.hid (H4.out.gr g2)
  replace g2 : Gr w w2 := g1.trans g2
  clear x0 x1 x2 x3 H4 hvar g1
  obtain ⟨⟨x0, x1, x2, x3⟩, _, s5⟩ := h4.out.parts
  go_upto_region 3 with fail
  go_wp2_with fail
  refine (hren.out _ g2).mono ?_
  rintro e w3 ⟨rfl, g3⟩
  have H4 := Lib.hid (h4.out.gr g3)
  replace g3 : Gr w w3 := g2.trans g3
  clear x0 x1 x2 x3 h4 hren g2
  go_upto_region 4 with fail
  obtain ⟨hb, g4⟩ := set_new w3 (.int .i64 0) (.int .i64 0) (.string ⟨#[]⟩) (.slice none 0 0)
  generalize (w3.alloc (.cells #[.int .i64 0, .int .i64 0, .string ⟨#[]⟩, .slice none 0 0] 25)) = w4 at *
  have h4 := Lib.hid (H4.out.gr g4)
  replace g4 : Gr w w4 := g3.trans g4
  clear H4
  obtain ⟨⟨x0, x1, x2, x3⟩, _, s5⟩ := h4.out.parts
  go_wp2_with fail
  refine (hat.out _ g4).mono ?_
  rintro e w5 ⟨rfl, g5⟩
  have HB := Lib.hid (hb.gr g5)
  replace g5 : Gr w w5 := g4.trans g5
  clear x0 x1 x2 x3 h4 hat g4
  go_upto_region 5 with fail
  obtain ⟨hc, g6⟩ := set_new w5 (.int .i64 0) (.int .i64 0) (.string ⟨#[]⟩) (.slice none 0 0)
  generalize (w5.alloc (.cells #[.int .i64 0, .int .i64 0, .string ⟨#[]⟩, .slice none 0 0] 25)) = w6 at *
  have hb6 := HB.out.gr g6
  have HC := Lib.hid hc
  replace g6 : Gr w w6 := g5.trans g6
  obtain ⟨⟨y0, y1, y2, y3⟩, _, _⟩ := Blk4.parts hb6
  have HB6 := Lib.hid hb6
  clear hb hc hb6
  go_wp2_with fail
  refine (hnone.out _).mono ?_
  rintro e w7 ⟨rfl, g7⟩
  replace g7 : Gr w6 w7 := g7
  have gw7 : Gr w w7 := g6.trans g7
  obtain ⟨⟨z0, z1, z2, z3⟩, _, _⟩ := Blk4.parts (HC.out.gr g7)
  clear y0 y1 y2 y3 HB6
  go_wp2_with fail
  refine (hnone.out _).mono ?_
  rintro e w8 ⟨rfl, g8⟩
  replace g8 : Gr w7 w8 := g8
  have Hb := Lib.hid (HR.out w8 (gw7.trans g8))
  clear z0 z1 z2 z3
  go_wp2_with fail
  exact Hb.out
end Go.Proofs.Ytcblmkhhhibddaa
