/-
  term.match.
-/
import Derived.Test.YtcblmkhhhibddaaTS16
import Derived.Test.YtcblmkhhhibddaaTS23
import Derived.Test.YtcblmkhhhibddaaTS07
import Derived.Test.YtcblmkhhhibddaaTS17
namespace Go.Proofs.Ytcblmkhhhibddaa
open Go.RowKit Go.Maps Go.Lib

/-- match's answer, and the map then. -/
def RetMat (S : Nat → Prop) (M : Nat) (p t : T) (f : Int → Option T) (w : World) (e : Ending) (w' : World) : Prop :=
  ∃ b : Bool, e = .returned (.bool b) ∧ Kp (· = M) w w' ∧ (b = true → ∃ g, T.mat p t f = some g ∧ TMap S w' M g) ∧ (b = false → T.mat p t f = none)
def matchOf (p : Tm) : Prop :=
  ∀ (S : Nat → Prop) (t : Tm) (w : World) (M : Nat) (f : Int → Option T), TMap S w M f → (∀ b, S b → b < w.heap.size ∧ b ≠ M) → p.In w → p.On S → t.In w → t.On S → p.erase.formed = true → t.erase.formed = true →
    Calls Try.prog 89 #[p.val, t.val, .map (some M)] w (RetMat S M p.erase t.erase f w)

theorem mat_var {p t : T} (hk : p.k = 1) (f : Int → Option T) : T.mat p t f = (match f p.n with
    | none => some (putF f p.n t)
    | some x => if T.order x t = 0 then some f else none) := by
  obtain ⟨k, n, s, l⟩ := p
  replace hk : k = 1 := hk
  rw [T.mat, if_pos hk]
  rfl
theorem mat_same {p t : T} (hk : p.k ≠ 1) (h : p.k = t.k ∧ p.n = t.n ∧ p.s = t.s ∧ p.l.length = t.l.length) (f : Int → Option T) : T.mat p t f = T.matL p.l t.l f := by
  obtain ⟨k, n, s, l⟩ := p
  replace hk : k ≠ 1 := hk
  rw [T.mat, if_neg hk]
  exact if_pos h
theorem mat_other {p t : T} (hk : p.k ≠ 1) (h : ¬ (p.k = t.k ∧ p.n = t.n ∧ p.s = t.s ∧ p.l.length = t.l.length)) (f : Int → Option T) : T.mat p t f = none := by
  obtain ⟨k, n, s, l⟩ := p
  replace hk : k ≠ 1 := hk
  rw [T.mat, if_neg hk]
  exact if_neg h

set_option maxHeartbeats 4000000 in
set_option maxRecDepth 100000 in
theorem match_var (p : Tm) (hk : p.k = 1) : matchOf p := by
  intro S t w M f hm hS ip op it ot fp ft
  have HM := Lib.hid hm
  have HS := Lib.hid hS
  have It := Lib.hid it
  have Ot := Lib.hid ot
  have Ft := Lib.hid ft
  have hMl := hm.lt
  have hr : 0 ≤ p.n ∧ p.n ≤ 1099511627776 := by
    have h1 := var_of_k fp (by rw [Tm.erase_k]; exact hk)
    have := T.occ_range (n := p.erase.n) p.erase fp (by rw [h1]; exact T.occ_var.2 rfl)
    rwa [Tm.erase_n] at this
  have Hr := Lib.hid hr
  have hmat : T.mat p.erase t.erase f = (match f p.n with
    | none => some (putF f p.n t.erase)
    | some x => if T.order x t.erase = 0 then some f else none) := by
    rw [mat_var (by rw [Tm.erase_k]; exact hk), Tm.erase_n]
  have hQ0 : Hid (∀ b w', Kp (· = M) w w' → (b = true → ∃ g, T.mat p.erase t.erase f = some g ∧ TMap S w' M g) → (b = false → T.mat p.erase t.erase f = none) → RetMat S M p.erase t.erase f w (.returned (.bool b)) w') := fun b w' h1 h2 h3 => ⟨b, rfl, h1, h2, h3⟩
  generalize RetMat S M p.erase t.erase f w = Q at hQ0 ⊢
  have HQ := hQ0
  have Hmat := Lib.hid hmat
  have hk1 : (p.k == 1) = true := by simp [hk]
  have hn64 : In64 p.n := ⟨by omega, by omega⟩
  clear hm hS ip op it ot fp ft hr hQ0 hmat hk
  rw [show p.val = .agg #[.int .i64 p.k, .int .i64 p.n, .string p.s, .slice p.p p.l.length p.c] from rfl, show t.val = .agg #[.int .i64 t.k, .int .i64 t.n, .string t.s, .slice t.p t.l.length t.c] from rfl]
  go_enter Try.func89, Try.ntmps89
  try simp only [List.append_eq, List.cons_append, List.nil_append]
  go_upto_region 1 with fail
  obtain ⟨h3, h4, gA⟩ := two_blocks w (.int .i64 p.k) (.int .i64 p.n) (.string p.s) (.slice p.p p.l.length p.c) (.int .i64 t.k) (.int .i64 t.n) (.string t.s) (.slice t.p t.l.length t.c)
  generalize ((w.alloc (.cells #[.int .i64 p.k, .int .i64 p.n, .string p.s, .slice p.p p.l.length p.c] 25)).alloc (.cells #[.int .i64 t.k, .int .i64 t.n, .string t.s, .slice t.p t.l.length t.c] 25)) = wA at *
  obtain ⟨⟨x0, x1, x2, x3⟩, _, _⟩ := h3.out.parts
  obtain ⟨u, x, hrun, hcase⟩ := (HM.out.gr gA).look hn64
  have hlook := hrun (fun _ => False) wA (Kp.refl _ _) id
  rw [show u.val = .agg #[.int .i64 u.k, .int .i64 u.n, .string u.s, .slice u.p u.l.length u.c] from rfl] at hlook
  clear hrun
  rcases hcase with ⟨rfl, hf, rfl⟩ | ⟨rfl, t0, hf, iu, rfl, fu, ou⟩
  · rw [hf] at Hmat
    go_upto_region 4 with fail
    have gB : Gr wA (wA.alloc (.cells #[.int .i64 zeroTm.k, .int .i64 zeroTm.n, .string zeroTm.s, .slice zeroTm.p zeroTm.l.length zeroTm.c] 25)) := by go_grown
    generalize wA.alloc (.cells #[.int .i64 zeroTm.k, .int .i64 zeroTm.n, .string zeroTm.s, .slice zeroTm.p zeroTm.l.length zeroTm.c] 25) = wB at *
    have gw : Gr w wB := gA.trans gB
    obtain ⟨⟨y0, y1, y2, y3⟩, _, _⟩ := (h4.out.gr gB).parts
    have z1 := Gr.at gB x1
    obtain ⟨w5, hup, hm5, hg5⟩ := (HM.out.gr gw).store (fun b hb => (HS.out b hb).2) Hr.out (Tm.In_below gw It.out) Ft.out Ot.out
    rw [show t.val = .agg #[.int .i64 t.k, .int .i64 t.n, .string t.s, .slice t.p t.l.length t.c] from rfl] at hup
    have Hup := Lib.hid hup
    have Hfin := Lib.hid (HQ.out true w5 ((Kp.of_gr gw).trans (Kp.of_grownBy hg5 rfl)) (fun _ => ⟨_, Hmat.out, hm5⟩) (fun h => nomatch h))
    clear x0 x1 x2 x3 hm5 hg5 hup
    have hup := Hup.out
    go_wp2_with fail
    exact Hfin.out
  · rw [hf] at Hmat
    go_upto_region 6 with fail
    have hX := BlkT.new wA 25 #[.int .i64 u.k, .int .i64 u.n, .string u.s, .slice u.p u.l.length u.c]
    have gB : Gr wA (wA.alloc (.cells #[.int .i64 u.k, .int .i64 u.n, .string u.s, .slice u.p u.l.length u.c] 25)) := by go_grown
    generalize wA.alloc (.cells #[.int .i64 u.k, .int .i64 u.n, .string u.s, .slice u.p u.l.length u.c] 25) = wB at *
    have gw : Gr w wB := gA.trans gB
    obtain ⟨⟨y0, y1, y2, y3⟩, _, _⟩ := (h4.out.gr gB).parts
    have u0 := hX.cell 0 (v := .int .i64 u.k) rfl
    have u1 := hX.cell 1 (v := .int .i64 u.n) rfl
    have u2 := hX.cell 2 (v := .string u.s) rfl
    have u3 := hX.cell 3 (v := .slice u.p u.l.length u.c) rfl
    have Ho := Lib.hid (show Calls Try.prog 94 #[.agg #[.int .i64 u.k, .int .i64 u.n, .string u.s, .slice u.p u.l.length u.c], .agg #[.int .i64 t.k, .int .i64 t.n, .string t.s, .slice t.p t.l.length t.c]] wB _ from order_calls (Tm.In_below gB iu) (Tm.In_below gw It.out))
    have Hm2 := Lib.hid (HM.out.gr gw)
    clear hX x0 x1 x2 x3 iu ou fu hlook
    go_wp2_with fail
    refine Ho.out.mono ?_
    rintro e w5 ⟨rfl, g5⟩
    replace g5 : Gr wB w5 := g5
    have gw5 := gw.trans g5
    by_cases hz : T.order u.erase t.erase = 0
    · have hz1 : (T.order u.erase t.erase == 0) = true := by simp [hz]
      have Hfin := Lib.hid (HQ.out true w5 (Kp.of_gr gw5) (fun _ => ⟨f, by rw [Hmat.out]; exact if_pos hz, Hm2.out.gr g5⟩) (fun h => nomatch h))
      clear hz y0 y1 y2 y3 u0 u1 u2 u3
      go_wp2_with fail
      exact Hfin.out
    · have hz1 : (T.order u.erase t.erase == 0) = false := by simp [hz]
      have Hfin := Lib.hid (HQ.out false w5 (Kp.of_gr gw5) (fun h => nomatch h) (fun _ => by rw [Hmat.out]; exact if_neg hz))
      clear hz y0 y1 y2 y3 u0 u1 u2 u3
      go_wp2_with fail
      exact Hfin.out

theorem formedL_nth : ∀ (l : List Tm) (k : Nat) (h : k < l.length), T.formedL (Tm.eraseL l) = true → l[k].erase.formed = true
  | x :: xs, 0, _, hf => by
    rw [Tm.eraseL, T.formedL, Bool.and_eq_true] at hf
    exact hf.1
  | x :: xs, k + 1, h, hf => by
    rw [Tm.eraseL, T.formedL, Bool.and_eq_true] at hf
    exact formedL_nth xs k (by simpa using h) hf.2
theorem matL_step (l l' : List Tm) (k : Nat) (h : k < l.length) (h' : k < l'.length) (g : Int → Option T) : T.matL (Tm.eraseL (l.drop k)) (Tm.eraseL (l'.drop k)) g = (match T.mat l[k].erase l'[k].erase g with
    | none => none
    | some e => T.matL (Tm.eraseL (l.drop (k + 1))) (Tm.eraseL (l'.drop (k + 1))) e) := by
  rw [List.drop_eq_getElem_cons h, List.drop_eq_getElem_cons h', Tm.eraseL, Tm.eraseL, T.matL]
  cases T.mat l[k].erase l'[k].erase g <;> rfl

set_option maxHeartbeats 4000000 in
set_option maxRecDepth 100000 in
theorem match_comp (p : Tm) (hk : p.k ≠ 1) (ih : ∀ x ∈ p.l, matchOf x) : matchOf p := by
  intro S t w M f hm hS ip op it ot fp ft
  have HM := Lib.hid hm
  have HS := Lib.hid hS
  have Ip := Lib.hid ip
  have Oon := Lib.hid op
  have It := Lib.hid it
  have Ot := Lib.hid ot
  have Hih := Lib.hid ih
  have hMl := hm.lt
  have Hfp := Lib.hid (formed_args' fp)
  have Hft := Lib.hid (formed_args' ft)
  have hsame := mat_same (p := p.erase) (t := t.erase) (by rw [Tm.erase_k]; exact hk)
  have hother := mat_other (p := p.erase) (t := t.erase) (by rw [Tm.erase_k]; exact hk)
  rw [Tm.erase_k, Tm.erase_k, Tm.erase_n, Tm.erase_n] at hsame hother
  have Hsame := Lib.hid hsame
  have Hother := Lib.hid hother
  have hQ0 : Hid (∀ b w', Kp (· = M) w w' → (b = true → ∃ g, T.mat p.erase t.erase f = some g ∧ TMap S w' M g) → (b = false → T.mat p.erase t.erase f = none) → RetMat S M p.erase t.erase f w (.returned (.bool b)) w') := fun b w' h1 h2 h3 => ⟨b, rfl, h1, h2, h3⟩
  generalize RetMat S M p.erase t.erase f w = Q at hQ0 ⊢
  have HQ := hQ0
  have hk1 : (p.k == 1) = false := by simp [hk]
  clear hm hS ip op it ot fp ft hQ0 hsame hother hk ih
  obtain ⟨pk, pn, ps, pp, pc, l⟩ := p
  obtain ⟨tk, tn, ts, tp, tc, l'⟩ := t
  simp only [Tm.val, Tm.k, Tm.n, Tm.s, Tm.p, Tm.c, Tm.l] at *
  by_cases hg : pk = tk ∧ pn = tn ∧ ps.toList = ts.toList ∧ l.length = l'.length
  · obtain ⟨rfl, rfl, e3, e4⟩ := hg
    have hs := Hsame.out ⟨rfl, rfl, by rw [Tm.erase, Tm.erase]; exact e3, by rw [Tm.erase, Tm.erase]; show (Tm.eraseL l).length = (Tm.eraseL l').length; rw [Tm.eraseL_length, Tm.eraseL_length]; exact e4⟩ f
    have Hs := Lib.hid (show T.mat (Tm.erase (.mk pk pn ps pp pc l)) (Tm.erase (.mk pk pn ts tp tc l')) f = T.matL (Tm.eraseL l) (Tm.eraseL l') f by rw [hs, Tm.erase, Tm.erase]; rfl)
    have e3' : (ps.toList == ts.toList) = true := by simp [e3]
    have E4 : Hid (l'.length = l.length) := e4.symm
    have Hlp := Lib.hid (show T.formedL (Tm.eraseL l) = true by have := Hfp.out; rw [Tm.erase] at this; exact this)
    have Hlt := Lib.hid (show T.formedL (Tm.eraseL l') = true by have := Hft.out; rw [Tm.erase] at this; exact this)
    clear hs e3 e4 Hsame Hother Hfp Hft
    rw [E4.out]
    go_enter Try.func89, Try.ntmps89
    try simp only [List.append_eq, List.cons_append, List.nil_append]
    go_upto_region 1 with fail
    obtain ⟨h3, h4, gA⟩ := two_blocks w (.int .i64 pk) (.int .i64 pn) (.string ps) (.slice pp l.length pc) (.int .i64 pk) (.int .i64 pn) (.string ts) (.slice tp l.length tc)
    generalize ((w.alloc (.cells #[.int .i64 pk, .int .i64 pn, .string ps, .slice pp l.length pc] 25)).alloc (.cells #[.int .i64 pk, .int .i64 pn, .string ts, .slice tp l.length tc] 25)) = wA at *
    obtain ⟨⟨x0, x1, x2, x3⟩, _, _⟩ := h3.out.parts
    obtain ⟨⟨y0, y1, y2, y3⟩, _, sA⟩ := h4.out.parts
    go_wp2_with fail
    clear x0 x1 x2 x3 y0 y1 y2 y3
    go_loopg [61] l.length (fun m i wr => ∃ (k : Nat) (g : Int → Option T), k ≤ l.length ∧ m = l.length - k ∧ i = .int .i64 k ∧ Hid (TMap S wr M g) ∧ Hid (T.matL (Tm.eraseL (l.drop k)) (Tm.eraseL (l'.drop k)) g = T.mat (Tm.erase (.mk pk pn ps pp pc l)) (Tm.erase (.mk pk pn ts tp tc l')) f) ∧ Kp (· = M) wA wr)
    case atStart => exact ⟨0, f, Nat.zero_le _, rfl, rfl, HM.out.gr gA, Hs.out.symm, Kp.refl _ _⟩
    case round =>
      obtain ⟨k, g, hk, rfl, rfl, hm, hmat, kr⟩ := hrel
      have b3 := h3.out.kp kr (by omega)
      have b4 := h4.out.kp kr (by omega)
      obtain ⟨⟨x0, x1, x2, x3⟩, _, _⟩ := b3.parts
      obtain ⟨⟨y0, y1, y2, y3⟩, _, _⟩ := b4.parts
      by_cases hlt : k < l.length
      · have hlt' : k < l'.length := by have := E4.out; omega
        have hip := Ip.out
        have hit := It.out
        have hop := Oon.out
        have hot := Ot.out
        rw [Tm.In] at hip hit
        rw [Tm.On] at hop hot
        obtain ⟨b, o, rfl, hSb⟩ : ∃ b o, pp = some ⟨b, o, none⟩ ∧ S b := by
          rcases hop.1 with h | h
          · rw [h] at hlt; simp at hlt
          · exact h
        obtain ⟨b', o', rfl, hSb'⟩ : ∃ b o, tp = some ⟨b, o, none⟩ ∧ S b := by
          rcases hot.1 with h | h
          · rw [h] at hlt'; simp at hlt'
          · exact h
        have hlc := hip.2.2.2.1
        obtain ⟨hlc2, hlc3⟩ := hip.2.2.2.2.1
        have hlc' := hit.2.2.2.1
        have hr1 : Tm.row w b o l := by
          rcases hip.2.2.2.2.2.1 with h | ⟨b0, o0, he, h⟩
          · rw [h] at hlt; simp at hlt
          · cases he; exact h
        have hr2 : Tm.row w b' o' l' := by
          rcases hit.2.2.2.2.2.1 with h | ⟨b0, o0, he, h⟩
          · rw [h] at hlt'; simp at hlt'
          · cases he; exact h
        have kw : Kp (· = M) w wr := (Kp.of_gr gA).trans kr
        obtain ⟨c0, c1, c2, c3⟩ := hr1 k _ (List.getElem?_eq_getElem hlt)
        obtain ⟨d0, d1, d2, d3⟩ := hr2 k _ (List.getElem?_eq_getElem hlt')
        replace c0 := kw.cell c0 (HS.out b hSb).2
        replace c1 := kw.cell c1 (HS.out b hSb).2
        replace c2 := kw.cell c2 (HS.out b hSb).2
        replace c3 := kw.cell c3 (HS.out b hSb).2
        replace d0 := kw.cell d0 (HS.out b' hSb').2
        replace d1 := kw.cell d1 (HS.out b' hSb').2
        replace d2 := kw.cell d2 (HS.out b' hSb').2
        replace d3 := kw.cell d3 (HS.out b' hSb').2
        have hmem := List.getElem_mem hlt
        have hmem' := List.getElem_mem hlt'
        have Hih2 := Lib.hid (Hih.out _ hmem)
        have Oxa := Lib.hid (Tm.OnL_mem hop.2 _ hmem)
        have Oxb := Lib.hid (Tm.OnL_mem hot.2 _ hmem')
        have Ixa := Lib.hid (kp_in (Tm.InL_mem hip.2.2.2.2.2.2 _ hmem) Oxa.out (fun b hb => (HS.out b hb).2) kw)
        have Ixb := Lib.hid (kp_in (Tm.InL_mem hit.2.2.2.2.2.2 _ hmem') Oxb.out (fun b hb => (HS.out b hb).2) kw)
        have Fxa := Lib.hid (formedL_nth l k hlt Hlp.out)
        have Fxb := Lib.hid (formedL_nth l' k hlt' Hlt.out)
        have Hst := Lib.hid (matL_step l l' k hlt hlt' g)
        clear hip hit hop hot hr1 hr2 kw hmem hmem'
        generalize l[k] = x at *
        generalize l'[k] = y at *
        go_upto_region 12 with fail
        refine wp_region_rely_tail 11 [fx (.pointer (some ⟨w.heap.size, 3, none⟩)), fx (.slice (some ⟨b, o, none⟩) l.length pc), fx (.int .i64 k), fx (.pointer (some ⟨b, o + k * 4, none⟩)), fx (.agg #[.int .i64 x.k, .int .i64 x.n, .string x.s, .slice x.p x.l.length x.c]), fx (.pointer (some ⟨w.heap.size + 1, 3, none⟩)), fx (.slice (some ⟨b', o', none⟩) l.length tc), fx (.int .i64 k), fx (.pointer (some ⟨b', o' + k * 4, none⟩)), fx (.agg #[.int .i64 y.k, .int .i64 y.n, .string y.s, .slice y.p y.l.length y.c]), fx (.map (some M))]
          (by kernel_rfl) (by kernel_rfl) (by decide) (by repeat (first | exact Stable.nil | refine Stable.fix ?_)) ?_ ?_
        · refine ⟨?_, ?_, ?_, ?_, ?_, ?_, ?_, ?_, ?_, ?_, ?_, trivial⟩
          all_goals
            intro a wz hg hold
            have h2 : a.tmps[2]?.getD undef = .map (some M) := hold 2 rfl
            have hp : a.tmps[3]?.getD undef = .pointer (some ⟨w.heap.size, 0, none⟩) := hold 3 rfl
            have hq : a.tmps[4]?.getD undef = .pointer (some ⟨w.heap.size + 1, 0, none⟩) := hold 4 rfl
            have hi : a.tmps[9]?.getD undef = .int .i64 k := hold 9 rfl
            have zc0 := Gr.at hg c0
            have zc1 := Gr.at hg c1
            have zc2 := Gr.at hg c2
            have zc3 := Gr.at hg c3
            have zd0 := Gr.at hg d0
            have zd1 := Gr.at hg d1
            have zd2 := Gr.at hg d2
            have zd3 := Gr.at hg d3
            have zx3 := Gr.at hg x3
            have zy3 := Gr.at hg y3
            clear hold x0 x1 x2 x3 y0 y1 y2 y3 c0 c1 c2 c3 d0 d1 d2 d3
            simp [predsImp, Region.binds, dstAt, fx]
            intros
            first
              | (rw [if_pos (by simp [*])]
                 intro K hK)
              | (rename_i K hK)
            go_simp
          all_goals exact hK _ _ rfl (Gr.rfl' _)
        · intro w9 hg
          rintro _ rfl _ rfl _ rfl _ rfl _ rfl _ rfl _ rfl _ rfl _ rfl _ rfl _ rfl
          simp only [finAll, Act.put, List.setIfInBounds_toArray, List.set_cons_succ, List.set_cons_zero, List.drop_succ_cons, List.drop_zero, List.take_zero]
          have gB : wA.heap.size ≤ w9.heap.size := Nat.le_trans kr.size hg.size
          have hcall := Hih2.out S y w9 M g (hm.out.gr hg) (fun b hb => ⟨by have := (HS.out b hb).1; omega, (HS.out b hb).2⟩) (Tm.In_below hg Ixa.out) Oxa.out (Tm.In_below hg Ixb.out) Oxb.out Fxa.out Fxb.out
          have Hcall := Lib.hid (show Calls Try.prog 89 #[.agg #[.int .i64 x.k, .int .i64 x.n, .string x.s, .slice x.p x.l.length x.c], .agg #[.int .i64 y.k, .int .i64 y.n, .string y.s, .slice y.p y.l.length y.c], .map (some M)] w9 _ from hcall)
          have k9 : Kp (· = M) wA w9 := kr.trans (Kp.of_gr hg)
          clear hcall x0 x1 x2 x3 y0 y1 y2 y3 c0 c1 c2 c3 d0 d1 d2 d3 hg
          go_wp2_with fail
          refine Hcall.out.mono ?_
          rintro e w5 ⟨bb, rfl, k5, hyes, hno⟩
          have kA5 := k9.trans k5
          cases bb with
          | true =>
            obtain ⟨g2, hg2, hm2⟩ := hyes rfl
            have Hm2 := Lib.hid hm2
            have Hmat2 : Hid (T.matL (Tm.eraseL (l.drop (k + 1))) (Tm.eraseL (l'.drop (k + 1))) g2 = T.mat (Tm.erase (.mk pk pn ps (some ⟨b, o, none⟩) pc l)) (Tm.erase (.mk pk pn ts (some ⟨b', o', none⟩) tc l')) f) := by
              show _ = _
              have h1 := Hst.out
              rw [hg2] at h1
              exact h1.symm.trans hmat.out
            clear hyes hno hg2 hm2
            go_wp2_with fail
            go_roundg (l.length - (k + 1))
            case measure => omega
            case rel => exact ⟨k + 1, g2, by omega, rfl, by go_num, Hm2, Hmat2, kA5⟩
          | false =>
            have Hfin := Lib.hid (HQ.out false w5 ((Kp.of_gr gA).trans kA5) (fun h => nomatch h) (fun _ => by
              rw [← hmat.out, Hst.out, hno rfl]))
            clear hyes hno
            go_wp2_with fail
            exact Hfin.out
      · obtain rfl : k = l.length := by omega
        have Hfin := Lib.hid (HQ.out true wr ((Kp.of_gr gA).trans kr) (fun _ => ⟨g, by
          rw [← hmat.out, List.drop_length, List.drop_of_length_le (by rw [E4.out]; exact Nat.le_refl _), Tm.eraseL, T.matL]
          intros; simp_all, hm.out⟩) (fun h => nomatch h))
        clear x0 x1 x2 x3 y0 y1 y2 y3
        go_wp2_with fail
        exact Hfin.out
  · have Hfin := Lib.hid (fun w' (g : Gr w w') => HQ.out false w' (Kp.of_gr g) (fun h => nomatch h) (fun _ => Hother.out (fun h => hg ⟨h.1, h.2.1, by have := h.2.2.1; rw [Tm.erase, Tm.erase] at this; exact this, by have := h.2.2.2; rw [Tm.erase, Tm.erase] at this; replace this : (Tm.eraseL l).length = (Tm.eraseL l').length := this; rwa [Tm.eraseL_length, Tm.eraseL_length] at this⟩) f))
    have Hg := Lib.hid hg
    clear hg Hsame Hother
    go_enter Try.func89, Try.ntmps89
    go_upto_region 1 with fail
    obtain ⟨h3, h4, gA⟩ := two_blocks w (.int .i64 pk) (.int .i64 pn) (.string ps) (.slice pp l.length pc) (.int .i64 tk) (.int .i64 tn) (.string ts) (.slice tp l'.length tc)
    generalize ((w.alloc (.cells #[.int .i64 pk, .int .i64 pn, .string ps, .slice pp l.length pc] 25)).alloc (.cells #[.int .i64 tk, .int .i64 tn, .string ts, .slice tp l'.length tc] 25)) = wA at *
    obtain ⟨⟨x0, x1, x2, x3⟩, _, _⟩ := h3.out.parts
    obtain ⟨⟨y0, y1, y2, y3⟩, _, sA⟩ := h4.out.parts
    go_upto_region 9 with fail
    all_goals first
      | exact Hfin.out _ gA
      | (exfalso; refine Hg.out ⟨by assumption, by assumption, by assumption, ?_⟩
         have h9 : ((l.length : Int) != l'.length) = false := by assumption
         simp at h9; omega)

theorem match_any (N : Nat) : ∀ p : Tm, SizeOf.sizeOf p ≤ N → matchOf p := by
  induction N with
  | zero => intro p h; cases p; simp at h
  | succ N ih =>
    intro p hN
    by_cases hk : p.k = 1
    · exact match_var p hk
    · refine match_comp p hk fun x hx => ih x ?_
      obtain ⟨k, n, s, q, c, l⟩ := p
      have := Tm.sizeOf_mem (show x ∈ l from hx) k n s q c
      omega
theorem match_calls {S : Nat → Prop} {p t : Tm} {w : World} {M : Nat} {f : Int → Option T} (hm : TMap S w M f) (hS : ∀ b, S b → b < w.heap.size ∧ b ≠ M) (ip : p.In w) (op : p.On S) (it : t.In w) (ot : t.On S) (fp : p.erase.formed = true) (ft : t.erase.formed = true) :
    Calls Try.prog 89 #[p.val, t.val, .map (some M)] w (RetMat S M p.erase t.erase f w) := match_any _ p (Nat.le_refl _) S t w M f hm hS ip op it ot fp ft
end Go.Proofs.Ytcblmkhhhibddaa
