/-
  term.General of anything: what it hands back is the caller's.
  term.Compose: what it hands back is the caller's.
  hornkeep.spoilBinds: what is written over is one's own.
  hornkeep.composed
-/
import Derived.Test.YthncdmijledpnaaTM23
import Derived.Test.YthncdmijledpnaaTM21
import Derived.Test.YthncdmijledpnaaTM13
import Derived.Test.YthncdmijledpnaaTM14
namespace Go.Proofs.Ythncdmijledpnaa
open Go.RowKit Go.Maps Go.Lib

/-- A term of the caller's own is handed back. -/
def RetGenM (a b : T) (w : World) (e : Ending) (w' : World) : Prop :=
  ∃ (g : Tm) (c : Int), e = .returned (.tuple #[g.val, .int .i64 c]) ∧ g.In w' ∧ g.On (w.heap.size ≤ ·) ∧ g.Mine w' ∧ Gr w w' ∧ (g.erase = if (a.formed && b.formed) = true then T.lgg a b else zeroT) ∧ ((a.formed && b.formed) = true → c = 0)

set_option maxHeartbeats 4000000 in
set_option maxRecDepth 100000 in
theorem generalM_good (p t : Tm) (w : World) (ip : p.In w) (it : t.In w) (fp : p.erase.formed = true) (ft : t.erase.formed = true) (sp : T.sz p.erase ≤ 1048576) : Calls Try.prog 27 #[p.val, t.val] w (RetGenM p.erase t.erase w) := by
  have Ip := Lib.hid ip
  have It := Lib.hid it
  have Fp := Lib.hid fp
  have Ft := Lib.hid ft
  have hff : (p.erase.formed && t.erase.formed) = true := by rw [fp, ft]; rfl
  have hall : ∀ (w0 w' : World), Gr w w0 → Gr (w0.alloc (.cells #[.int .i64 p.k, .int .i64 p.n, .string p.s, .slice p.p p.l.length p.c, .int .i64 t.k, .int .i64 t.n, .string t.s, .slice t.p t.l.length t.c] 25)) w' → Calls Try.prog 80 #[.slice (some ⟨w0.heap.size, 0, none⟩) 2 2] w' (Ret (.bool true) w') := fun w0 w' h0 h1 => by
    have h2 := all_calls (two_new (Tm.In_below h0 ip) (Tm.In_below h0 it) h1)
    rw [show T.formedL (Tm.eraseL [p, t]) = true by simp [Tm.eraseL, T.formedL, fp, ft]] at h2
    exact h2
  have Hall := Lib.hid hall
  have Hge := Lib.hid (fun (S : Nat → Prop) (P : Nat) (v : Value) (W : World) (h1 : p.In W) (h2 : t.In W) (h3 : p.On S) (h4 : t.On S) (h5 : PSt S P v [] W) => show Calls Try.prog 89 #[.agg #[.int .i64 p.k, .int .i64 p.n, .string p.s, .slice p.p p.l.length p.c], .agg #[.int .i64 t.k, .int .i64 t.n, .string t.s, .slice t.p t.l.length t.c], .pointer (some ⟨P, 0, none⟩)] W (RetGen S P v [] p.erase t.erase W) from gen_says S P v [] p t W h1 h2 fp ft h3 h4 h5 (by simpa using sp))
  have hQ0 : Hid (∀ (g : Tm) w', g.In w' → g.erase = T.lgg p.erase t.erase → Gr w w' → g.On (w.heap.size ≤ ·) → g.Mine w' → RetGenM p.erase t.erase w (.returned (.tuple #[g.val, .int .i64 0])) w') := fun g w' h1 h2 h3 h4 h5 => ⟨g, 0, rfl, h1, h4, h5, h3, by rw [if_pos hff]; exact h2, fun _ => rfl⟩
  generalize RetGenM p.erase t.erase w = Q at hQ0 ⊢
  have HQ := hQ0
  clear ip it fp ft sp hff hQ0 hall
  rw [show p.val = .agg #[.int .i64 p.k, .int .i64 p.n, .string p.s, .slice p.p p.l.length p.c] from rfl, show t.val = .agg #[.int .i64 t.k, .int .i64 t.n, .string t.s, .slice t.p t.l.length t.c] from rfl]
  go_enter Try.func27, Try.ntmps27
  try simp only [List.append_eq, List.cons_append, List.nil_append]
  go_upto_region 1 with fail
  obtain ⟨h3, h4, h5, gA⟩ := three_blocks w (.int .i64 p.k) (.int .i64 p.n) (.string p.s) (.slice p.p p.l.length p.c) (.int .i64 t.k) (.int .i64 t.n) (.string t.s) (.slice t.p t.l.length t.c) (.int .i64 0) (.int .i64 0) (.string ⟨#[]⟩) (.slice none 0 0)
  generalize (((w.alloc (.cells #[.int .i64 p.k, .int .i64 p.n, .string p.s, .slice p.p p.l.length p.c] 25)).alloc (.cells #[.int .i64 t.k, .int .i64 t.n, .string t.s, .slice t.p t.l.length t.c] 25)).alloc (.cells #[.int .i64 0, .int .i64 0, .string ⟨#[]⟩, .slice none 0 0] 25)) = wA at *
  have K5 := h5
  obtain ⟨⟨x0, x1, x2, x3⟩, _, _⟩ := h3.out.parts
  obtain ⟨⟨y0, y1, y2, y3⟩, _, _⟩ := h4.out.parts
  go_wp2_with fail
  refine (Hall.out _ _ gA (Gr.rfl' _)).mono ?_
  rintro e w1 ⟨rfl, g1⟩
  have gA1 : Gr wA w1 := Gr.trans (show Gr wA _ by go_grown) g1
  have gw1 : Gr w w1 := gA.trans gA1
  clear x0 x1 x2 x3 y0 y1 y2 y3 g1
  go_upto_region 4 with fail
  have hP : (w1.alloc (.cells #[.slice none 0 0] 22)).heap[w1.heap.size]? = some (.cells #[.slice none 0 0] 22) := heap_alloc_new w1 _
  have gP : Gr w1 (w1.alloc (.cells #[.slice none 0 0] 22)) := by go_grown
  generalize w1.alloc (.cells #[.slice none 0 0] 22) = w2 at *
  have gA2 : Gr wA w2 := gA1.trans gP
  have gw2 : Gr w w2 := gA.trans gA2
  have hst : PSt (· < w1.heap.size) w1.heap.size (.slice none 0 0) [] w2 := ⟨hP, World.ownsRow_nil w2 _ _ 8, (fun y hy => nomatch hy), fun b hb => hb⟩
  have Hst := Lib.hid hst
  have hc5 := (K5.out.gr gA1).parts.2.2
  clear hP hst
  obtain ⟨⟨x0, x1, x2, x3⟩, _, _⟩ := (h3.out.gr gA2).parts
  obtain ⟨⟨y0, y1, y2, y3⟩, _, _⟩ := (h4.out.gr gA2).parts
  go_wp2_with fail
  refine (Hge.out (· < w1.heap.size) w1.heap.size (.slice none 0 0) w2 (Tm.In_below gw2 Ip.out) (Tm.In_below gw2 It.out) ((Tm.In_below gw1 Ip.out).on) ((Tm.In_below gw1 It.out).on) Hst.out).mono ?_
  rintro e w3 ⟨g, v', l', rfl, gin, ge, -, -, k3, gon, -, gmi⟩
  have hmu : ∀ b, PMut w1.heap.size (.slice none 0 0) b → w1.heap.size ≤ b := fun b hb => by
    rcases hb with hb | hb
    · omega
    · exact nomatch hb
  have hkk : Gr w1 w3 := Below.trans gP (k3.below hmu gP.size)
  have gA3 : Gr wA w3 := gA1.trans hkk
  have gw3 : Gr w w3 := gA.trans gA3
  have hs2 : w1.heap.size ≤ w2.heap.size := gP.size
  have hsw1 := gw1.size
  have hge : g.erase = T.lgg p.erase t.erase := ge
  rw [show g.val = .agg #[.int .i64 g.k, .int .i64 g.n, .string g.s, .slice g.p g.l.length g.c] from rfl]
  obtain ⟨_, ⟨z0, z1, z2, z3⟩, _⟩ := (K5.out.gr gA3).parts
  obtain ⟨⟨r0, r1, r2, r3⟩, _, _⟩ := (K5.out.gr gA3).parts
  have kk := Kp.sets (C := (· = w.heap.size + 2)) (w := w3) (b := w.heap.size + 2) rfl (.int .i64 g.k) (.int .i64 g.n) (.string g.s) (.slice g.p g.l.length g.c)
  have Hb := Lib.hid (HQ.out g _ (kp_in gin gon (fun b hb e => by omega) kk) hge (Below.trans gw3 (kk.below (fun b hb => by omega) gw3.size)) (gon.mono fun b hb => by have := hb.1; omega) (mine_kp gmi gin gon (fun b hb e => by have := hb.1; omega) kk))
  clear x0 x1 x2 x3 y0 y1 y2 y3 kk gmi gin gon ge hge k3
  go_wp2_with fail
  exact bodyPost_ret (v := .tuple #[g.val, .int .i64 0]) (by simp (maxDischargeDepth := 9) [results, Try.results27, go_sem, Tm.val, r0, r1, r2, r3]) rfl Hb.out

set_option maxHeartbeats 4000000 in
set_option maxRecDepth 100000 in
theorem generalM_bad (a b : Tm) (w : World) (ia : a.In w) (ib : b.In w) (hff : (a.erase.formed && b.erase.formed) = false) : Calls Try.prog 27 #[.agg #[.int .i64 a.k, .int .i64 a.n, .string a.s, .slice a.p a.l.length a.c], .agg #[.int .i64 b.k, .int .i64 b.n, .string b.s, .slice b.p b.l.length b.c]] w (fun e w' => e = .returned (.tuple #[.agg #[.int .i64 0, .int .i64 0, .string ⟨#[]⟩, .slice none 0 0], .int .i64 2]) ∧ Gr w w') := by
  have hall : ∀ (w0 w' : World), Gr w w0 → Gr (w0.alloc (.cells #[.int .i64 a.k, .int .i64 a.n, .string a.s, .slice a.p a.l.length a.c, .int .i64 b.k, .int .i64 b.n, .string b.s, .slice b.p b.l.length b.c] 25)) w' → Calls Try.prog 80 #[.slice (some ⟨w0.heap.size, 0, none⟩) 2 2] w' (Ret (.bool false) w') := fun w0 w' h0 h1 => by
    have h2 := all_calls (two_new (Tm.In_below h0 ia) (Tm.In_below h0 ib) h1)
    rw [show T.formedL (Tm.eraseL [a, b]) = false by rw [← hff]; simp [Tm.eraseL, T.formedL]] at h2
    exact h2
  have Hall := Lib.hid hall
  have hQ0 : Hid (∀ w', Gr w w' → (fun (e : Ending) (w' : World) => e = .returned (.tuple #[.agg #[.int .i64 0, .int .i64 0, .string ⟨#[]⟩, .slice none 0 0], .int .i64 2]) ∧ Gr w w') (.returned (.tuple #[.agg #[.int .i64 0, .int .i64 0, .string ⟨#[]⟩, .slice none 0 0], .int .i64 2])) w') := fun w' h => ⟨rfl, h⟩
  generalize (fun (e : Ending) (w' : World) => e = .returned (.tuple #[.agg #[.int .i64 0, .int .i64 0, .string ⟨#[]⟩, .slice none 0 0], .int .i64 2]) ∧ Gr w w') = Q at hQ0 ⊢
  have HQ := hQ0
  clear ia ib hff hQ0 hall
  go_enter Try.func27, Try.ntmps27
  try simp only [List.append_eq, List.cons_append, List.nil_append]
  go_upto_region 1 with fail
  obtain ⟨h3, h4, h5, gA⟩ := three_blocks w (.int .i64 a.k) (.int .i64 a.n) (.string a.s) (.slice a.p a.l.length a.c) (.int .i64 b.k) (.int .i64 b.n) (.string b.s) (.slice b.p b.l.length b.c) (.int .i64 0) (.int .i64 0) (.string ⟨#[]⟩) (.slice none 0 0)
  generalize (((w.alloc (.cells #[.int .i64 a.k, .int .i64 a.n, .string a.s, .slice a.p a.l.length a.c] 25)).alloc (.cells #[.int .i64 b.k, .int .i64 b.n, .string b.s, .slice b.p b.l.length b.c] 25)).alloc (.cells #[.int .i64 0, .int .i64 0, .string ⟨#[]⟩, .slice none 0 0] 25)) = wA at *
  obtain ⟨⟨x0, x1, x2, x3⟩, _, _⟩ := h3.out.parts
  obtain ⟨⟨y0, y1, y2, y3⟩, _, _⟩ := h4.out.parts
  go_wp2_with fail
  refine (Hall.out _ _ gA (Gr.rfl' _)).mono ?_
  rintro e w1 ⟨rfl, g1⟩
  have gA1 : Gr wA w1 := Gr.trans (show Gr wA _ by go_grown) g1
  have gw1 : Gr w w1 := gA.trans gA1
  clear x0 x1 x2 x3 y0 y1 y2 y3 g1
  obtain ⟨⟨z0, z1, z2, z3⟩, ⟨f0, f1, f2, f3⟩, s5⟩ := (h5.out.gr gA1).parts
  have k := Kp.sets (C := (· = w.heap.size + 2)) (w := w1) (b := w.heap.size + 2) rfl (.int .i64 0) (.int .i64 0) (.string ⟨#[]⟩) (.slice none 0 0)
  have Hb := Lib.hid (HQ.out _ (Below.trans gw1 (k.below (fun b hb => by omega) gw1.size)))
  clear k
  go_wp2_with fail
  exact bodyPost_ret (v := .tuple #[.agg #[.int .i64 0, .int .i64 0, .string ⟨#[]⟩, .slice none 0 0], .int .i64 2]) (by simp (maxDischargeDepth := 9) [results, Try.results27, go_sem, z0, z1, z2, z3]) rfl Hb.out


theorem generalM_calls (a b : Tm) (w : World) (ia : a.In w) (ib : b.In w) (sp : T.sz a.erase ≤ 1048576) : Calls Try.prog 27 #[a.val, b.val] w (RetGenM a.erase b.erase w) := by
  cases hff : (a.erase.formed && b.erase.formed) with
  | true =>
    rw [Bool.and_eq_true] at hff
    exact generalM_good a b w ia ib hff.1 hff.2 sp
  | false =>
    refine (show Calls Try.prog 27 #[a.val, b.val] w _ from generalM_bad a b w ia ib hff).mono ?_
    rintro e w' ⟨rfl, hg⟩
    exact ⟨zeroTm, 2, rfl, zeroTm_in _, by rw [zeroTm, Tm.On, Tm.OnL]; exact ⟨.inl rfl, trivial⟩, zero_mine _, hg, by rw [hff, if_neg (by decide), zeroTm_erase], fun h => by rw [hff] at h; cases h⟩
end Go.Proofs.Ythncdmijledpnaa

namespace Go.Proofs.Ythncdmijledpnaa
open Go.RowKit Go.Maps Go.Lib

def tmOwn (S : Nat → Prop) (u : T) : VP := fun v w => ∃ x : Tm, v = x.val ∧ x.In w ∧ x.erase = u ∧ x.On S ∧ x.Mine w
theorem tmOwn_stable {S : Nat → Prop} {u : T} : ∀ v w w', tmOwn S u v w → Gr w w' → tmOwn S u v w' := fun _ _ _ ⟨x, h1, h2, h3, h4, h5⟩ hg => ⟨x, h1, Tm.In_below hg h2, h3, h4, h5.gr h2 hg⟩
/-- Compose: an errno with nothing, or the binds of the map, the caller's own. -/
def RetCompM (s u : List Bd) (w : World) (e : Ending) (w' : World) : Prop :=
  ∃ p c l, e = .returned (.tuple #[.slice p l.length c, .int .i64 (compErr s u)]) ∧ (Bds.mk p c l).In w' ∧ Gr w w' ∧ (compErr s u ≠ 0 → l = []) ∧ (compErr s u = 0 → IsBinds (compM s u) l) ∧
    (∀ y ∈ l, y.t.On (w.heap.size ≤ ·) ∧ y.t.Mine w') ∧ ∃ B, w.heap.size ≤ B ∧ BuiltBds w' B (.slice p l.length c) l
theorem comp_errM {s u : List Bd} {w w' : World} {e : Int} (he : compErr s u = e) (h0 : e ≠ 0) (hg : Gr w w') : RetCompM s u w (.returned (.tuple #[.slice none 0 0, .int .i64 e])) w' :=
  ⟨none, 0, [], by rw [he]; rfl, ⟨Nat.le_refl _, ⟨by simp, by simp⟩, .inl rfl, fun y hy => nomatch hy⟩, hg, fun _ => rfl, fun h => absurd (he.symm.trans h) h0, (fun y hy => nomatch hy), w.heap.size, Nat.le_refl _, World.ownsRow_nil _ _ _ 5⟩

set_option maxHeartbeats 2000000 in
set_option maxRecDepth 100000 in
theorem composeM_calls (p q : Option Addr) (c d : Nat) (s u : List Bd) (w : World) (hs : (Bds.mk p c s).In w) (hu : (Bds.mk q d u).In w) :
    Calls Try.prog 56 #[.slice p s.length c, .slice q u.length d] w (RetCompM s u w) := by
  have HS := Lib.hid hs
  have HU := Lib.hid hu
  have hsl := hs.2.1.1
  have hul := hu.2.1.1
  simp only at hsl hul
  have hR : Hid (∀ e : Int, compErr s u = e → e ≠ 0 → ∀ w', Gr w w' → RetCompM s u w (.returned (.tuple #[.slice none 0 0, .int .i64 e])) w') := fun e he h0 w' hg => comp_errM he h0 hg
  have hR2 : Hid (∀ e w1 w', Gr w w1 → compErr s u = 0 → ∀ p c l, e = .returned (.tuple #[.slice p l.length c, .int .i64 0]) → (Bds.mk p c l).In w' → IsBinds (compM s u) l → (∀ y ∈ l, y.t.On (w.heap.size ≤ ·) ∧ y.t.Mine w') → (∃ B, w.heap.size ≤ B ∧ BuiltBds w' B (.slice p l.length c) l) → Gr w1 w' → RetCompM s u w e w') := fun e w1 w' h1 h2 p c l h3 h4 h5 h7 h8 h6 => ⟨p, c, l, by rw [h2]; exact h3, h4, h1.trans h6, fun h => absurd h2 h, fun _ => h5, h7, h8⟩
  have hE : Hid (∀ a b, bindsErr s = a → bindsErr u = b → compErr s u = if a = 2 ∨ b = 2 then 2 else if a ≠ 0 ∨ b ≠ 0 then 1 else 0) := fun a b h1 h2 => by rw [compErr, h1, h2]
  have hcs := checkBinds_calls p c s w hs
  have hcu : ∀ w', Gr w w' → Calls Try.prog 112 #[.slice q u.length d] w' (Ret (.int .i64 (bindsErr u)) w') := fun w' g => checkBinds_calls q d u w' (HU.out.mono g)
  generalize hes : bindsErr s = a at hcs
  generalize heu : bindsErr u = b at hcu
  have HE := Lib.hid (hE.out a b hes heu)
  have Hes := Lib.hid hes
  have Heu := Lib.hid heu
  clear hs hu hes heu hE
  generalize hQ : RetCompM s u w = Q at hR hR2 ⊢
  clear hQ
  have Hcs := Lib.hid hcs
  have Hcu := Lib.hid hcu
  clear hcs hcu
  go_enter Try.func56, Try.ntmps56
  try simp only [List.append_eq, List.cons_append, List.nil_append]
  go_upto_region 1 with fail
  go_wp2_with fail
  refine (Hcs.out).mono ?_
  rintro e w1 ⟨rfl, g1⟩
  go_wp2_with fail
  refine (Hcu.out w1 g1).mono ?_
  rintro e w2 ⟨rfl, g2⟩
  have g02 : Gr w w2 := Below.trans g1 (Below.mono g2 g1.size)
  have hmm := @run_makeMap Try.prog
  have h3 := bindsErr_cases3 s
  have h4 := bindsErr_cases3 u
  rw [Hes.out] at h3
  rw [Heu.out] at h4
  go_upto_region 2 with fail
  rcases h3 with rfl | rfl | rfl <;> rcases h4 with rfl | rfl | rfl
  case inl.inl =>
    go_upto_region 7 with fail
    have Hzs := Lib.hid (bindsErr_zero Hes.out)
    have Hzu := Lib.hid (bindsErr_zero Heu.out)
    have HE0 := Lib.hid (show compErr s u = 0 from HE.out.trans (by decide))
    have hM := TMapM.made (fun x => w2.heap.size < x) w2
    have gA : Gr w (w2.alloc (.map #[] 0)) := Below.trans g02 (Below.mono (show Gr w2 _ by go_grown) g02.size)
    have hA : w2.heap.size < (w2.alloc (.map #[] 0)).heap.size := by simp
    have hwM : w.heap.size ≤ w2.heap.size := g02.size
    generalize w2.alloc (.map #[] 0) = wA at *
    generalize w2.heap.size = M at *
    have HM := Lib.hid hM
    clear hM hmm g1 g2 g02
    go_wp2_with fail
    go_loopg [34] u.length (fun m i wr => ∃ k : Nat, k ≤ u.length ∧ m = u.length - k ∧ i = .int .i64 k ∧ Gr w wr ∧ M < wr.heap.size ∧ Hid (TMapM (fun x => M < x) wr M (putAll (fun y => y.t.erase) (u.take k) (fun _ => none))))
    case atStart => exact ⟨0, Nat.zero_le _, rfl, rfl, gA, hA, HM⟩
    case round =>
      obtain ⟨k, hk, rfl, rfl, gr, hMr, hmap⟩ := hrel
      by_cases hlt : k < u.length
      · obtain ⟨b, o, rfl⟩ := HU.out.ptr (by omega)
        obtain ⟨⟨c0, c1, c2, c3, c4⟩, hti, ⟨hv1, hv2⟩, hbl⟩ := (HU.out.mono gr).elem k hlt
        have Hti := Lib.hid hti
        have Hfy := Lib.hid (formed_at Hzu.out.1 k hlt)
        have Hay := Lib.hid (asc_at Hzu.out.2 k hlt)
        have Hput := Lib.hid (putAll_snoc (fun y => y.t.erase) u (fun _ => none) k hlt)
        clear hti
        generalize u[k] = y at *
        go_upto_region 10 with fail
        have hB := BlkT.new wr 115 (bdCells y)
        have gB : Gr wr (wr.alloc (.cells (bdCells y) 115)) := by go_grown
        simp only [bdCells] at hB gB
        generalize wr.alloc (.cells #[.int .i64 y.v, .int .i64 y.t.k, .int .i64 y.t.n, .string y.t.s, .slice y.t.p y.t.l.length y.t.c] 115) = wB at *
        have HB := Lib.hid hB
        have HtB := Lib.hid (Tm.In_below gB Hti.out)
        have hHl : wr.heap.size < wB.heap.size := HB.out.lt
        have grB : Gr w wB := Below.trans gr (Below.mono gB gr.size)
        have HmB := Lib.hid (hmap.out.kp (C := fun _ => False) (Kp.of_gr gB) id (fun _ _ => id))
        have hMB : M < wB.heap.size := Nat.lt_of_lt_of_le hMr gB.size
        generalize wr.heap.size = H at *
        clear hB c0 c1 c2 c3 c4 gB gr hmap
        have Hyv := Lib.hid (show y.t.val = .agg #[.int .i64 y.t.k, .int .i64 y.t.n, .string y.t.s, .slice y.t.p y.t.l.length y.t.c] from rfl)
        refine wp_region_rely_tail 6 [fx (.map (some M)), fx (.pointer (some ⟨H, 0, none⟩)), fx (.int .i64 y.v), fx (.pointer (some ⟨H, 1, none⟩)), fx y.t.val, tmOwn (wB.heap.size ≤ ·) y.t.erase]
          (by kernel_rfl) (by kernel_rfl) (by decide) (by repeat (first | exact Stable.nil | refine Stable.fix ?_ | refine Stable.cons tmOwn_stable ?_)) ?_ ?_
        · refine ⟨?_, ?_, ?_, ?_, ?_, ?a5, trivial⟩
          all_goals
            intro a wz hg hold
            have h8 : a.tmps[8]?.getD undef = .map (some M) := hold 8 rfl
            have h10 : a.tmps[10]?.getD undef = .pointer (some ⟨H, 0, none⟩) := hold 10 rfl
            clear hold
            have z0 := Gr.at hg (HB.out.cell 0 (v := .int .i64 y.v) rfl)
            have z1 := Gr.at hg (HB.out.cell 1 (v := .int .i64 y.t.k) rfl)
            have z2 := Gr.at hg (HB.out.cell 2 (v := .int .i64 y.t.n) rfl)
            have z3 := Gr.at hg (HB.out.cell 3 (v := .string y.t.s) rfl)
            have z4 := Gr.at hg (HB.out.cell 4 (v := .slice y.t.p y.t.l.length y.t.c) rfl)
            simp [predsImp, Region.binds, dstAt, fx]
            intros
            first
              | (rw [if_pos (by simp [*])]
                 intro K hK)
              | (rename_i K hK)
            go_simp
          case a5 =>
            refine (copyT_calls (t := y.t) (Tm.In_below hg HtB.out) Hfy.out).mono ?_
            rintro e w10 ⟨z, i1, i2, rfl, ib, i3, iw, _⟩
            exact hK _ _ ⟨z, rfl, i1, i2, i3.mono fun b hb => Nat.le_trans hg.size hb, iw.mine⟩ ib
          all_goals exact hK _ _ rfl (Gr.rfl' _)
        · intro wz hg
          rintro _ rfl _ rfl _ rfl _ rfl _ rfl _ ⟨z, rfl, i1, i2, i3, i6⟩
          simp only [finAll, Act.put, List.setIfInBounds_toArray, List.set_cons_succ, List.set_cons_zero, List.drop_succ_cons, List.drop_zero, List.take_zero]
          obtain ⟨w5, hup, hm5, hg5⟩ := (HmB.out.kp (C := fun _ => False) (Kp.of_gr hg) id (fun _ _ => id)).store (fun x hx => Nat.ne_of_gt hx) Hay.out i1 (by rw [i2]; exact Hfy.out) (i3.mono fun x hx => Nat.lt_of_lt_of_le hMB hx) i6
          have gr5 : Gr w w5 := Below.trans (Below.trans grB (Below.mono hg grB.size)) ((Kp.of_grownBy (C := (· = M)) hg5 rfl).below (fun x hx => by omega) (by have := hg.size; have := grB.size; omega))
          have hM5 : M < w5.heap.size := Nat.lt_of_lt_of_le hMB (Nat.le_trans hg.size hg5.size)
          rw [i2] at hm5
          have Hm5 := Lib.hid hm5
          clear hm5
          go_wp2_with fail
          go_roundg (u.length - (k + 1))
          case measure => omega
          case rel => exact ⟨k + 1, by omega, rfl, by go_num, gr5, hM5, by show TMapM _ _ _ _; rw [Hput.out]; exact Hm5.out⟩
      · obtain rfl : k = u.length := by omega
        have hmU := hmap.out
        rw [List.take_length] at hmU
        have HmU := Lib.hid hmU
        clear hmU hmap
        generalize hfU : putAll (fun y => y.t.erase) u (fun _ => none) = fU at *
        have HC := Lib.hid (show compM s u = putAll (fun y => T.map (lookupT u) y.t.erase) s fU by rw [compM, hfU])
        clear hfU
        go_wp2_with fail
        go_loopg [47] s.length (fun m i wx => ∃ k : Nat, k ≤ s.length ∧ m = s.length - k ∧ i = .int .i64 k ∧ Gr w wx ∧ M < wx.heap.size ∧ Hid (TMapM (fun x => M < x) wx M (putAll (fun y => T.map (lookupT u) y.t.erase) (s.take k) fU)))
        case atStart => exact ⟨0, Nat.zero_le _, rfl, rfl, gr, hMr, HmU⟩
        case round =>
          clear gr hMr HmU hlt
          obtain ⟨k, hk, rfl, rfl, gr, hMr, hmap⟩ := hrel
          by_cases hlt : k < s.length
          · obtain ⟨b, o, rfl⟩ := HS.out.ptr (by omega)
            obtain ⟨⟨c0, c1, c2, c3, c4⟩, hti, ⟨hv1, hv2⟩, hbl⟩ := (HS.out.mono gr).elem k hlt
            have Htj := Lib.hid hti
            have Hfy := Lib.hid (formed_at Hzs.out.1 k hlt)
            have Hay := Lib.hid (asc_at Hzs.out.2 k hlt)
            have Hput := Lib.hid (putAll_snoc (fun y => T.map (lookupT u) y.t.erase) s fU k hlt)
            clear hti
            generalize s[k] = y at *
            go_upto_region 15 with fail
            have hB := BlkT.new wr 115 (bdCells y)
            have gB : Gr wr (wr.alloc (.cells (bdCells y) 115)) := by go_grown
            simp only [bdCells] at hB gB
            generalize wr.alloc (.cells #[.int .i64 y.v, .int .i64 y.t.k, .int .i64 y.t.n, .string y.t.s, .slice y.t.p y.t.l.length y.t.c] 115) = wB at *
            have HB := Lib.hid hB
            have HtB := Lib.hid (Tm.In_below gB Htj.out)
            have hHl : wr.heap.size < wB.heap.size := HB.out.lt
            have grB : Gr w wB := Below.trans gr (Below.mono gB gr.size)
            have HmB := Lib.hid (hmap.out.kp (C := fun _ => False) (Kp.of_gr gB) id (fun _ _ => id))
            have hMB : M < wB.heap.size := Nat.lt_of_lt_of_le hMr gB.size
            generalize wr.heap.size = H at *
            clear hB c0 c1 c2 c3 c4 gB gr hmap
            have Hyv := Lib.hid (show y.t.val = .agg #[.int .i64 y.t.k, .int .i64 y.t.n, .string y.t.s, .slice y.t.p y.t.l.length y.t.c] from rfl)
            refine wp_region_rely_tail 7 [fx (.map (some M)), fx (.pointer (some ⟨H, 0, none⟩)), fx (.int .i64 y.v), fx (.pointer (some ⟨H, 1, none⟩)), fx y.t.val, fx (.slice q u.length d), tmOwn (wB.heap.size ≤ ·) (T.map (lookupT u) y.t.erase)]
              (by kernel_rfl) (by kernel_rfl) (by decide) (by repeat (first | exact Stable.nil | refine Stable.fix ?_ | refine Stable.cons tmOwn_stable ?_)) ?_ ?_
            · refine ⟨?_, ?_, ?_, ?_, ?_, ?_, ?a5, trivial⟩
              all_goals
                intro a wz hg hold
                have h8 : a.tmps[8]?.getD undef = .map (some M) := hold 8 rfl
                have h1 : a.tmps[1]?.getD undef = .slice q u.length d := hold 1 rfl
                have h12 : a.tmps[12]?.getD undef = .pointer (some ⟨H, 0, none⟩) := hold 12 rfl
                clear hold
                have z0 := Gr.at hg (HB.out.cell 0 (v := .int .i64 y.v) rfl)
                have z1 := Gr.at hg (HB.out.cell 1 (v := .int .i64 y.t.k) rfl)
                have z2 := Gr.at hg (HB.out.cell 2 (v := .int .i64 y.t.n) rfl)
                have z3 := Gr.at hg (HB.out.cell 3 (v := .string y.t.s) rfl)
                have z4 := Gr.at hg (HB.out.cell 4 (v := .slice y.t.p y.t.l.length y.t.c) rfl)
                simp [predsImp, Region.binds, dstAt, fx]
                intros
                first
                  | (rw [if_pos (by simp [*])]
                     intro K hK)
                  | (rename_i K hK)
                go_simp
              case a5 =>
                refine (appliedW_calls y.t q d u wz (Tm.In_below hg HtB.out) Hfy.out (HU.out.mono (Below.trans grB (Below.mono hg grB.size))) Hzu.out.2 Hzu.out.1).mono ?_
                rintro e w10 ⟨z, i1, i2, rfl, ib, i3, iw⟩
                exact hK _ _ ⟨z, rfl, i1, i2, i3.mono fun b hb => Nat.le_trans hg.size hb, iw.mine⟩ ib
              all_goals exact hK _ _ rfl (Gr.rfl' _)
            · intro wz hg
              rintro _ rfl _ rfl _ rfl _ rfl _ rfl _ rfl _ ⟨z, rfl, i1, i2, i3, i6⟩
              simp only [finAll, Act.put, List.setIfInBounds_toArray, List.set_cons_succ, List.set_cons_zero, List.drop_succ_cons, List.drop_zero, List.take_zero]
              obtain ⟨w5, hup, hm5, hg5⟩ := (HmB.out.kp (C := fun _ => False) (Kp.of_gr hg) id (fun _ _ => id)).store (fun x hx => Nat.ne_of_gt hx) Hay.out i1 (by rw [i2]; exact formed_mapped _ (lookup_formed Hzu.out.1) _ Hfy.out) (i3.mono fun x hx => Nat.lt_of_lt_of_le hMB hx) i6
              have gr5 : Gr w w5 := Below.trans (Below.trans grB (Below.mono hg grB.size)) ((Kp.of_grownBy (C := (· = M)) hg5 rfl).below (fun x hx => by omega) (by have := hg.size; have := grB.size; omega))
              have hM5 : M < w5.heap.size := Nat.lt_of_lt_of_le hMB (Nat.le_trans hg.size hg5.size)
              rw [i2] at hm5
              have Hm5 := Lib.hid hm5
              clear hm5
              go_wp2_with fail
              go_roundg (s.length - (k + 1))
              case measure => omega
              case rel => exact ⟨k + 1, by omega, rfl, by go_num, gr5, hM5, by show TMapM _ _ _ _; rw [Hput.out]; exact Hm5.out⟩
          · obtain rfl : k = s.length := by omega
            have hmS := hmap.out
            rw [List.take_length, ← HC.out] at hmS
            have HmS := Lib.hid hmS
            clear hmS hmap
            go_wp2_with (first
              | (go_at_call 128; refine (bindsM_calls M (compM s u) _ HmS.out).mono ?_; rintro e w6 ⟨p6, c6, l6, rfl, h6, hi6, ho6, g6, hb6⟩; have HI6 := Lib.hid (And.intro h6 (And.intro hi6 (And.intro ho6 hb6))); clear h6 hi6 ho6 hb6)
              | fail)
            exact hR2.out _ _ _ gr HE0.out p6 c6 l6 rfl HI6.out.1 HI6.out.2.1 (fun y hy => ⟨(HI6.out.2.2.1 y hy).1.mono fun b hb => Nat.le_trans hwM (Nat.le_of_lt hb), (HI6.out.2.2.1 y hy).2⟩) (by obtain ⟨B6, h1, h2⟩ := HI6.out.2.2.2; exact ⟨B6, Nat.le_trans gr.size h1, h2⟩) g6
  all_goals
    go_wp2_with fail
    exact hR.out _ (HE.out.trans (by decide)) (by decide) _ g02
end Go.Proofs.Ythncdmijledpnaa

namespace Go.Proofs.Ythncdmijledpnaa
open Go.RowKit Go.Maps Go.Lib

mutual
/-- One's own terms do not lie on a row of binds. -/
theorem Tm.Mine.ne {w : World} {g : Nat} {cur : Array Value} (hg : w.heap[g]? = some (.cells cur 115)) : ∀ {t : Tm}, t.Mine w → t.On (· ≠ g)
  | .mk k n s p c l, h => by
    rw [Tm.Mine] at h
    rw [Tm.On]
    refine ⟨?_, Tm.MineL.ne hg h.2⟩
    rcases h.1 with ⟨hl, _⟩ | ⟨_, b, cur', hp, hb, _⟩
    · exact .inl hl
    · refine .inr ⟨b, 0, hp, ?_⟩
      rintro rfl
      rw [hg] at hb
      simp at hb
theorem Tm.MineL.ne {w : World} {g : Nat} {cur : Array Value} (hg : w.heap[g]? = some (.cells cur 115)) : ∀ {l : List Tm}, Tm.MineL w l → Tm.OnL (· ≠ g) l
  | [], _ => by rw [Tm.OnL]; trivial
  | x :: xs, h => by
    rw [Tm.MineL] at h
    rw [Tm.OnL]
    exact ⟨Tm.Mine.ne hg h.1, Tm.MineL.ne hg h.2⟩
end

def RetSpoilBs (B0 : Nat) (w : World) (e : Ending) (w' : World) : Prop := e = .returned (.tuple #[]) ∧ Kp (B0 ≤ ·) w w'

set_option maxHeartbeats 4000000 in
set_option maxRecDepth 100000 in
theorem spoilBinds_calls (p : Option Addr) (c : Nat) (l : List Bd) (B0 : Nat) (w : World) (hin : (Bds.mk p c l).In w) (hb : ∃ B, B0 ≤ B ∧ BuiltBds w B (.slice p l.length c) l) (ht : ∀ y ∈ l, y.t.On (B0 ≤ ·) ∧ y.t.Mine w) :
    Calls Try.prog 22 #[.slice p l.length c] w (RetSpoilBs B0 w) := by
  have hR : Hid (∀ w', Kp (B0 ≤ ·) w w' → RetSpoilBs B0 w (.returned (.tuple #[])) w') := fun w' h => ⟨rfl, h⟩
  generalize RetSpoilBs B0 w = Q at hR ⊢
  have HIn := Lib.hid hin
  obtain ⟨hlc, ⟨hl64, hcm⟩, _, _⟩ := hin
  simp only at hlc hl64 hcm
  obtain ⟨S, hS1, hS2, hS3, hfit, hend⟩ : ∃ S : Nat → Prop, (∀ b, S b → b < w.heap.size) ∧ (∀ b, S b → B0 ≤ b) ∧ (∀ b o, p = some ⟨b, o, none⟩ → ¬ S b) ∧ (∀ y ∈ l, Fit S w (SizeOf.sizeOf y.t) y.t.p y.t.l.length y.t.c) ∧
      (∀ w', Kp S w w' → Calls Try.prog 88 #[.slice p l.length c, .agg #[.int .i64 (-7), .int .i64 9, .int .i64 (-77), .string spoiltB, .slice none 0 0]] w' (fun e w'' => e = .returned (.tuple #[]) ∧ Kp (B0 ≤ ·) w w'')) := by
    obtain ⟨B, hB, hbb⟩ := hb
    rcases hbb.2 with ⟨h0, h1⟩ | ⟨g, cap, cur, h0, h1, h2, h3, h4, h5, _⟩
    · have hl0 : l = [] := List.eq_nil_of_length_eq_zero h1
      subst hl0
      cases h0
      refine ⟨fun _ => False, fun _ h => h.elim, fun _ h => h.elim, (fun _ _ h => nomatch h), (fun y hy => nomatch hy), fun w' hk => (spoiltB_none w'.heap.size w').mono ?_⟩
      rintro e w'' ⟨rfl, hk2⟩
      exact ⟨rfl, (hk.mono fun _ h => h.elim).trans (hk2.weaken fun b hb h => by omega)⟩
    · cases h0
      simp only [maxLen] at h4
      refine ⟨fun b => (B0 ≤ b ∧ b < w.heap.size) ∧ b ≠ g, fun b h => h.1.2, fun b h => h.1.1, fun b o h hs => by cases h; exact hs.2 rfl, fun y hy => ?_, fun w' hk => ?_⟩
      · obtain ⟨o1, m1⟩ := ht y hy
        have i1 : y.t.In w := (HIn.out.2.2.2 y hy).1
        exact fit_of _ y.t (Nat.le_refl _) i1 m1 (Tm.On.and (Tm.On.and o1 i1.on) (Tm.Mine.ne h2 m1))
      · refine (spoiltB_some g l.length c cur w' (BlkT.kp (show BlkT w g 115 cur from h2) hk (fun h => h.2 rfl)) h3 (by omega) h5 (by omega)).mono ?_
        rintro e w'' ⟨rfl, hk2⟩
        exact ⟨rfl, (hk.mono fun b h => h.1.1).trans (hk2.mono fun b h => by rw [h]; omega)⟩
  have HEnd := Lib.hid hend
  have HFit := Lib.hid hfit
  have HS1 := Lib.hid hS1
  have HS3 := Lib.hid hS3
  clear hend hfit hS1 hS3 hb ht
  go_enter Try.func22, Try.ntmps22
  try simp only [List.append_eq, List.cons_append, List.nil_append]
  go_wp2_with fail
  go_loopg [5] l.length (fun m i wr => ∃ j : Nat, j ≤ l.length ∧ m = l.length - j ∧ i = .int .i64 j ∧ Hid (Spoil S w wr))
  case atStart => exact ⟨0, Nat.zero_le _, rfl, rfl, Spoil.of_gr (Gr.rfl' _)⟩
  case round =>
    obtain ⟨j, hj, rfl, rfl, hsp⟩ := hrel
    by_cases hlt : j < l.length
    · obtain ⟨b, o, rfl⟩ := HIn.out.ptr (by omega)
      obtain ⟨⟨c0, c1, c2, c3, c4⟩, hti, ⟨hv1, hv2⟩, hbl⟩ := HIn.out.elem j hlt
      have hnS := HS3.out b o rfl
      have x1 := hsp.out.kp.cell c1 hnS
      have x2 := hsp.out.kp.cell c2 hnS
      have x3 := hsp.out.kp.cell c3 hnS
      have x4 := hsp.out.kp.cell c4 hnS
      have hf := (HFit.out _ (List.getElem_mem hlt)).spoil hsp.out
      have Hc := Lib.hid (spoilTerm_calls _ S l[j].t.k l[j].t.n l[j].t.s l[j].t.p l[j].t.l.length l[j].t.c wr (fun b hb => by have := HS1.out b hb; have := hsp.out.kp.size; omega) hf)
      clear hf c0 c1 c2 c3 c4 hti
      generalize l[j] = y at *
      go_wp2_with (first
        | (go_at_call 17; refine Hc.out.mono ?_; rintro e w2 ⟨rfl, h2⟩; have hss := Lib.hid (hsp.out.trans h2))
        | fail)
      go_roundg (l.length - (j + 1))
      case measure => omega
      case rel => exact ⟨j + 1, by omega, rfl, by go_num, hss⟩
    · obtain rfl : j = l.length := by omega
      have HW := Lib.hid hsp.out.kp
      have hmk : Hid (∀ wq, Calls Try.prog 79 #[] wq (Ret (.agg #[.int .i64 9, .int .i64 (-77), .string spoiltB, .slice none 0 0]) wq)) := fun wq => (markY_calls wq).mono fun e w' h => by rw [← markTm_val]; exact h
      go_wp2_with (first
        | (go_at_call 79; refine (hmk.out _).mono ?_; rintro e wq ⟨rfl, hg⟩; replace hg : Gr wr wq := hg; have Hfin := Lib.hid (HEnd.out wq (HW.out.trans (Kp.of_gr hg))))
        | (go_at_call 88; refine Hfin.out.mono ?_; rintro e w2 ⟨rfl, h2⟩)
        | fail)
      go_end0
      exact hR.out _ h2
end Go.Proofs.Ythncdmijledpnaa

namespace Go.Proofs.Ythncdmijledpnaa
open Go.RowKit Go.Maps Go.Lib

def RetComposed (s u : List Bd) (w : World) (e : Ending) (w' : World) : Prop :=
  ∃ p c l, e = .returned (.slice p l.length c) ∧ (Bds.mk p c l).In w' ∧ Gr w w' ∧ (compErr s u ≠ 0 → l = []) ∧ (compErr s u = 0 → IsBinds (compM s u) l)

set_option maxHeartbeats 2000000 in
set_option maxRecDepth 100000 in
theorem composed_calls (p q : Option Addr) (c d : Nat) (s u : List Bd) (w : World) (hs : (Bds.mk p c s).In w) (hu : (Bds.mk q d u).In w) :
    Calls Try.prog 47 #[.slice p s.length c, .slice q u.length d] w (RetComposed s u w) := by
  have HS := Lib.hid hs
  have HU := Lib.hid hu
  have hR : Hid (∀ p c l w', (Bds.mk p c l).In w' → Gr w w' → (compErr s u ≠ 0 → l = []) → (compErr s u = 0 → IsBinds (compM s u) l) → RetComposed s u w (.returned (.slice p l.length c)) w') := fun p c l w' h1 h2 h3 h4 => ⟨p, c, l, rfl, h1, h2, h3, h4⟩
  generalize RetComposed s u w = Q at hR ⊢
  clear hs hu
  go_enter Try.func47, Try.ntmps47
  try simp only [List.append_eq, List.cons_append, List.nil_append]
  go_upto_region 2 with (first
    | (go_at_call 56; refine (composeM_calls p q c d s u _ HS.out HU.out).mono ?_; rintro e w1 ⟨p1, c1, l1, rfl, h1, g1, _, _, h2, h3⟩; have Hsp := Lib.hid (spoilBinds_calls p1 c1 l1 w.heap.size w1 h1 h3 h2); clear h1 h2 h3)
    | fail)
  go_upto_region 3 with (first
    | (go_at_call 22; refine Hsp.out.mono ?_; rintro e w2 ⟨rfl, hk⟩; have g2 : Gr w w2 := Below.trans g1 (hk.below (fun b hb => hb) g1.size); clear hk Hsp)
    | fail)
  go_wp2_with (first
    | (go_at_call 56; refine (composeM_calls p q c d s u _ (HS.out.mono g2) (HU.out.mono g2)).mono ?_; rintro e w3 ⟨p3, c3, l3, rfl, h1, g3, h4, h5, _, _⟩; have H3 := Lib.hid (And.intro h1 (And.intro (g2.trans g3) (And.intro h4 h5))); clear h1 h4 h5)
    | fail)
  try go_ret
  exact hR.out p3 c3 l3 _ H3.out.1 H3.out.2.1 H3.out.2.2.1 H3.out.2.2.2
end Go.Proofs.Ythncdmijledpnaa
