/-
  term.match.
  term.Match.
  hornref.Formed
  hornkeep.TermLeast: the walk, given what term.General answers.
  term.General, given what term.general answers.
-/
import Derived.Test.YthncdmijledpnaaTM17
import Derived.Test.YthncdmijledpnaaTM20
import Derived.Test.YthncdmijledpnaaTM05
import Derived.Test.YthncdmijledpnaaTM16
import Derived.Test.YthncdmijledpnaaTM12
import Derived.Test.YthncdmijledpnaaTM18
import Derived.Test.YthncdmijledpnaaTM01
namespace Go.Proofs.Ythncdmijledpnaa
open Go.RowKit Go.Maps Go.Lib

/-- match's answer, and the map then. -/
def RetMat (S : Nat → Prop) (M : Nat) (p t : T) (f : Int → Option T) (w : World) (e : Ending) (w' : World) : Prop :=
  ∃ b : Bool, e = .returned (.bool b) ∧ Kp (· = M) w w' ∧ (b = true → ∃ g, T.mat p t f = some g ∧ TMap S w' M g) ∧ (b = false → T.mat p t f = none)
def matchOf (p : Tm) : Prop :=
  ∀ (S : Nat → Prop) (t : Tm) (w : World) (M : Nat) (f : Int → Option T), TMap S w M f → (∀ b, S b → b < w.heap.size ∧ b ≠ M) → p.In w → p.On S → t.In w → t.On S → p.erase.formed = true → t.erase.formed = true →
    Calls Try.prog 90 #[p.val, t.val, .map (some M)] w (RetMat S M p.erase t.erase f w)

theorem mat_var {p t : T} (hk : p.k = 1) (f : Int → Option T) : T.mat p t f = (match f p.n with
    | none => some (putF f p.n t)
    | some x => if T.order x t = 0 then some f else none) := by
  obtain ⟨k, n, s, l⟩ := p
  replace hk : k = 1 := hk
  rw [T.mat, if_pos hk]
  rfl
theorem mat_same {p t : T} (hk : p.k ≠ 1) (h : p.k = t.k ∧ p.n = t.n ∧ p.s = t.s ∧ p.l.length = t.l.length) (f : Int → Option T) : T.mat p t f = T.matL p.l t.l f := by
  obtain ⟨k, n, s, l⟩ := p
  replace hk : k ≠ 1 := hk
  rw [T.mat, if_neg hk]
  exact if_pos h
theorem mat_other {p t : T} (hk : p.k ≠ 1) (h : ¬ (p.k = t.k ∧ p.n = t.n ∧ p.s = t.s ∧ p.l.length = t.l.length)) (f : Int → Option T) : T.mat p t f = none := by
  obtain ⟨k, n, s, l⟩ := p
  replace hk : k ≠ 1 := hk
  rw [T.mat, if_neg hk]
  exact if_neg h

set_option maxHeartbeats 4000000 in
set_option maxRecDepth 100000 in
theorem match_var (p : Tm) (hk : p.k = 1) : matchOf p := by
  intro S t w M f hm hS ip op it ot fp ft
  have HM := Lib.hid hm
  have HS := Lib.hid hS
  have It := Lib.hid it
  have Ot := Lib.hid ot
  have Ft := Lib.hid ft
  have hMl := hm.lt
  have hr : 0 ≤ p.n ∧ p.n ≤ 1099511627776 := by
    have h1 := var_of_k fp (by rw [Tm.erase_k]; exact hk)
    have := T.occ_range (n := p.erase.n) p.erase fp (by rw [h1]; exact T.occ_var.2 rfl)
    rwa [Tm.erase_n] at this
  have Hr := Lib.hid hr
  have hmat : T.mat p.erase t.erase f = (match f p.n with
    | none => some (putF f p.n t.erase)
    | some x => if T.order x t.erase = 0 then some f else none) := by
    rw [mat_var (by rw [Tm.erase_k]; exact hk), Tm.erase_n]
  have hQ0 : Hid (∀ b w', Kp (· = M) w w' → (b = true → ∃ g, T.mat p.erase t.erase f = some g ∧ TMap S w' M g) → (b = false → T.mat p.erase t.erase f = none) → RetMat S M p.erase t.erase f w (.returned (.bool b)) w') := fun b w' h1 h2 h3 => ⟨b, rfl, h1, h2, h3⟩
  generalize RetMat S M p.erase t.erase f w = Q at hQ0 ⊢
  have HQ := hQ0
  have Hmat := Lib.hid hmat
  have hk1 : (p.k == 1) = true := by simp [hk]
  have hn64 : In64 p.n := ⟨by omega, by omega⟩
  clear hm hS ip op it ot fp ft hr hQ0 hmat hk
  rw [show p.val = .agg #[.int .i64 p.k, .int .i64 p.n, .string p.s, .slice p.p p.l.length p.c] from rfl, show t.val = .agg #[.int .i64 t.k, .int .i64 t.n, .string t.s, .slice t.p t.l.length t.c] from rfl]
  go_enter Try.func90, Try.ntmps90
  try simp only [List.append_eq, List.cons_append, List.nil_append]
  go_upto_region 1 with fail
  obtain ⟨h3, h4, gA⟩ := two_blocks w (.int .i64 p.k) (.int .i64 p.n) (.string p.s) (.slice p.p p.l.length p.c) (.int .i64 t.k) (.int .i64 t.n) (.string t.s) (.slice t.p t.l.length t.c)
  generalize ((w.alloc (.cells #[.int .i64 p.k, .int .i64 p.n, .string p.s, .slice p.p p.l.length p.c] 25)).alloc (.cells #[.int .i64 t.k, .int .i64 t.n, .string t.s, .slice t.p t.l.length t.c] 25)) = wA at *
  obtain ⟨⟨x0, x1, x2, x3⟩, _, _⟩ := h3.out.parts
  obtain ⟨u, x, hrun, hcase⟩ := (HM.out.gr gA).look hn64
  have hlook := hrun (fun _ => False) wA (Kp.refl _ _) id
  rw [show u.val = .agg #[.int .i64 u.k, .int .i64 u.n, .string u.s, .slice u.p u.l.length u.c] from rfl] at hlook
  clear hrun
  rcases hcase with ⟨rfl, hf, rfl⟩ | ⟨rfl, t0, hf, iu, rfl, fu, ou⟩
  · rw [hf] at Hmat
    go_upto_region 4 with fail
    have gB : Gr wA (wA.alloc (.cells #[.int .i64 zeroTm.k, .int .i64 zeroTm.n, .string zeroTm.s, .slice zeroTm.p zeroTm.l.length zeroTm.c] 25)) := by go_grown
    generalize wA.alloc (.cells #[.int .i64 zeroTm.k, .int .i64 zeroTm.n, .string zeroTm.s, .slice zeroTm.p zeroTm.l.length zeroTm.c] 25) = wB at *
    have gw : Gr w wB := gA.trans gB
    obtain ⟨⟨y0, y1, y2, y3⟩, _, _⟩ := (h4.out.gr gB).parts
    have z1 := Gr.at gB x1
    obtain ⟨w5, hup, hm5, hg5⟩ := (HM.out.gr gw).store (fun b hb => (HS.out b hb).2) Hr.out (Tm.In_below gw It.out) Ft.out Ot.out
    rw [show t.val = .agg #[.int .i64 t.k, .int .i64 t.n, .string t.s, .slice t.p t.l.length t.c] from rfl] at hup
    have Hup := Lib.hid hup
    have Hfin := Lib.hid (HQ.out true w5 ((Kp.of_gr gw).trans (Kp.of_grownBy hg5 rfl)) (fun _ => ⟨_, Hmat.out, hm5⟩) (fun h => nomatch h))
    clear x0 x1 x2 x3 hm5 hg5 hup
    have hup := Hup.out
    go_wp2_with fail
    exact Hfin.out
  · rw [hf] at Hmat
    go_upto_region 6 with fail
    have hX := BlkT.new wA 25 #[.int .i64 u.k, .int .i64 u.n, .string u.s, .slice u.p u.l.length u.c]
    have gB : Gr wA (wA.alloc (.cells #[.int .i64 u.k, .int .i64 u.n, .string u.s, .slice u.p u.l.length u.c] 25)) := by go_grown
    generalize wA.alloc (.cells #[.int .i64 u.k, .int .i64 u.n, .string u.s, .slice u.p u.l.length u.c] 25) = wB at *
    have gw : Gr w wB := gA.trans gB
    obtain ⟨⟨y0, y1, y2, y3⟩, _, _⟩ := (h4.out.gr gB).parts
    have u0 := hX.cell 0 (v := .int .i64 u.k) rfl
    have u1 := hX.cell 1 (v := .int .i64 u.n) rfl
    have u2 := hX.cell 2 (v := .string u.s) rfl
    have u3 := hX.cell 3 (v := .slice u.p u.l.length u.c) rfl
    have Ho := Lib.hid (show Calls Try.prog 95 #[.agg #[.int .i64 u.k, .int .i64 u.n, .string u.s, .slice u.p u.l.length u.c], .agg #[.int .i64 t.k, .int .i64 t.n, .string t.s, .slice t.p t.l.length t.c]] wB _ from order_calls (Tm.In_below gB iu) (Tm.In_below gw It.out))
    have Hm2 := Lib.hid (HM.out.gr gw)
    clear hX x0 x1 x2 x3 iu ou fu hlook
    go_wp2_with fail
    refine Ho.out.mono ?_
    rintro e w5 ⟨rfl, g5⟩
    replace g5 : Gr wB w5 := g5
    have gw5 := gw.trans g5
    by_cases hz : T.order u.erase t.erase = 0
    · have hz1 : (T.order u.erase t.erase == 0) = true := by simp [hz]
      have Hfin := Lib.hid (HQ.out true w5 (Kp.of_gr gw5) (fun _ => ⟨f, by rw [Hmat.out]; exact if_pos hz, Hm2.out.gr g5⟩) (fun h => nomatch h))
      clear hz y0 y1 y2 y3 u0 u1 u2 u3
      go_wp2_with fail
      exact Hfin.out
    · have hz1 : (T.order u.erase t.erase == 0) = false := by simp [hz]
      have Hfin := Lib.hid (HQ.out false w5 (Kp.of_gr gw5) (fun h => nomatch h) (fun _ => by rw [Hmat.out]; exact if_neg hz))
      clear hz y0 y1 y2 y3 u0 u1 u2 u3
      go_wp2_with fail
      exact Hfin.out

theorem formedL_nth : ∀ (l : List Tm) (k : Nat) (h : k < l.length), T.formedL (Tm.eraseL l) = true → l[k].erase.formed = true
  | x :: xs, 0, _, hf => by
    rw [Tm.eraseL, T.formedL, Bool.and_eq_true] at hf
    exact hf.1
  | x :: xs, k + 1, h, hf => by
    rw [Tm.eraseL, T.formedL, Bool.and_eq_true] at hf
    exact formedL_nth xs k (by simpa using h) hf.2
theorem matL_step (l l' : List Tm) (k : Nat) (h : k < l.length) (h' : k < l'.length) (g : Int → Option T) : T.matL (Tm.eraseL (l.drop k)) (Tm.eraseL (l'.drop k)) g = (match T.mat l[k].erase l'[k].erase g with
    | none => none
    | some e => T.matL (Tm.eraseL (l.drop (k + 1))) (Tm.eraseL (l'.drop (k + 1))) e) := by
  rw [List.drop_eq_getElem_cons h, List.drop_eq_getElem_cons h', Tm.eraseL, Tm.eraseL, T.matL]
  cases T.mat l[k].erase l'[k].erase g <;> rfl

set_option maxHeartbeats 4000000 in
set_option maxRecDepth 100000 in
theorem match_comp (p : Tm) (hk : p.k ≠ 1) (ih : ∀ x ∈ p.l, matchOf x) : matchOf p := by
  intro S t w M f hm hS ip op it ot fp ft
  have HM := Lib.hid hm
  have HS := Lib.hid hS
  have Ip := Lib.hid ip
  have Oon := Lib.hid op
  have It := Lib.hid it
  have Ot := Lib.hid ot
  have Hih := Lib.hid ih
  have hMl := hm.lt
  have Hfp := Lib.hid (formed_args' fp)
  have Hft := Lib.hid (formed_args' ft)
  have hsame := mat_same (p := p.erase) (t := t.erase) (by rw [Tm.erase_k]; exact hk)
  have hother := mat_other (p := p.erase) (t := t.erase) (by rw [Tm.erase_k]; exact hk)
  rw [Tm.erase_k, Tm.erase_k, Tm.erase_n, Tm.erase_n] at hsame hother
  have Hsame := Lib.hid hsame
  have Hother := Lib.hid hother
  have hQ0 : Hid (∀ b w', Kp (· = M) w w' → (b = true → ∃ g, T.mat p.erase t.erase f = some g ∧ TMap S w' M g) → (b = false → T.mat p.erase t.erase f = none) → RetMat S M p.erase t.erase f w (.returned (.bool b)) w') := fun b w' h1 h2 h3 => ⟨b, rfl, h1, h2, h3⟩
  generalize RetMat S M p.erase t.erase f w = Q at hQ0 ⊢
  have HQ := hQ0
  have hk1 : (p.k == 1) = false := by simp [hk]
  clear hm hS ip op it ot fp ft hQ0 hsame hother hk ih
  obtain ⟨pk, pn, ps, pp, pc, l⟩ := p
  obtain ⟨tk, tn, ts, tp, tc, l'⟩ := t
  simp only [Tm.val, Tm.k, Tm.n, Tm.s, Tm.p, Tm.c, Tm.l] at *
  by_cases hg : pk = tk ∧ pn = tn ∧ ps.toList = ts.toList ∧ l.length = l'.length
  · obtain ⟨rfl, rfl, e3, e4⟩ := hg
    have hs := Hsame.out ⟨rfl, rfl, by rw [Tm.erase, Tm.erase]; exact e3, by rw [Tm.erase, Tm.erase]; show (Tm.eraseL l).length = (Tm.eraseL l').length; rw [Tm.eraseL_length, Tm.eraseL_length]; exact e4⟩ f
    have Hs := Lib.hid (show T.mat (Tm.erase (.mk pk pn ps pp pc l)) (Tm.erase (.mk pk pn ts tp tc l')) f = T.matL (Tm.eraseL l) (Tm.eraseL l') f by rw [hs, Tm.erase, Tm.erase]; rfl)
    have e3' : (ps.toList == ts.toList) = true := by simp [e3]
    have E4 : Hid (l'.length = l.length) := e4.symm
    have Hlp := Lib.hid (show T.formedL (Tm.eraseL l) = true by have := Hfp.out; rw [Tm.erase] at this; exact this)
    have Hlt := Lib.hid (show T.formedL (Tm.eraseL l') = true by have := Hft.out; rw [Tm.erase] at this; exact this)
    clear hs e3 e4 Hsame Hother Hfp Hft
    rw [E4.out]
    go_enter Try.func90, Try.ntmps90
    try simp only [List.append_eq, List.cons_append, List.nil_append]
    go_upto_region 1 with fail
    obtain ⟨h3, h4, gA⟩ := two_blocks w (.int .i64 pk) (.int .i64 pn) (.string ps) (.slice pp l.length pc) (.int .i64 pk) (.int .i64 pn) (.string ts) (.slice tp l.length tc)
    generalize ((w.alloc (.cells #[.int .i64 pk, .int .i64 pn, .string ps, .slice pp l.length pc] 25)).alloc (.cells #[.int .i64 pk, .int .i64 pn, .string ts, .slice tp l.length tc] 25)) = wA at *
    obtain ⟨⟨x0, x1, x2, x3⟩, _, _⟩ := h3.out.parts
    obtain ⟨⟨y0, y1, y2, y3⟩, _, sA⟩ := h4.out.parts
    go_wp2_with fail
    clear x0 x1 x2 x3 y0 y1 y2 y3
    go_loopg [61] l.length (fun m i wr => ∃ (k : Nat) (g : Int → Option T), k ≤ l.length ∧ m = l.length - k ∧ i = .int .i64 k ∧ Hid (TMap S wr M g) ∧ Hid (T.matL (Tm.eraseL (l.drop k)) (Tm.eraseL (l'.drop k)) g = T.mat (Tm.erase (.mk pk pn ps pp pc l)) (Tm.erase (.mk pk pn ts tp tc l')) f) ∧ Kp (· = M) wA wr)
    case atStart => exact ⟨0, f, Nat.zero_le _, rfl, rfl, HM.out.gr gA, Hs.out.symm, Kp.refl _ _⟩
    case round =>
      obtain ⟨k, g, hk, rfl, rfl, hm, hmat, kr⟩ := hrel
      have b3 := h3.out.kp kr (by omega)
      have b4 := h4.out.kp kr (by omega)
      obtain ⟨⟨x0, x1, x2, x3⟩, _, _⟩ := b3.parts
      obtain ⟨⟨y0, y1, y2, y3⟩, _, _⟩ := b4.parts
      by_cases hlt : k < l.length
      · have hlt' : k < l'.length := by have := E4.out; omega
        have hip := Ip.out
        have hit := It.out
        have hop := Oon.out
        have hot := Ot.out
        rw [Tm.In] at hip hit
        rw [Tm.On] at hop hot
        obtain ⟨b, o, rfl, hSb⟩ : ∃ b o, pp = some ⟨b, o, none⟩ ∧ S b := by
          rcases hop.1 with h | h
          · rw [h] at hlt; simp at hlt
          · exact h
        obtain ⟨b', o', rfl, hSb'⟩ : ∃ b o, tp = some ⟨b, o, none⟩ ∧ S b := by
          rcases hot.1 with h | h
          · rw [h] at hlt'; simp at hlt'
          · exact h
        have hlc := hip.2.2.2.1
        obtain ⟨hlc2, hlc3⟩ := hip.2.2.2.2.1
        have hlc' := hit.2.2.2.1
        have hr1 : Tm.row w b o l := by
          rcases hip.2.2.2.2.2.1 with h | ⟨b0, o0, he, h⟩
          · rw [h] at hlt; simp at hlt
          · cases he; exact h
        have hr2 : Tm.row w b' o' l' := by
          rcases hit.2.2.2.2.2.1 with h | ⟨b0, o0, he, h⟩
          · rw [h] at hlt'; simp at hlt'
          · cases he; exact h
        have kw : Kp (· = M) w wr := (Kp.of_gr gA).trans kr
        obtain ⟨c0, c1, c2, c3⟩ := hr1 k _ (List.getElem?_eq_getElem hlt)
        obtain ⟨d0, d1, d2, d3⟩ := hr2 k _ (List.getElem?_eq_getElem hlt')
        replace c0 := kw.cell c0 (HS.out b hSb).2
        replace c1 := kw.cell c1 (HS.out b hSb).2
        replace c2 := kw.cell c2 (HS.out b hSb).2
        replace c3 := kw.cell c3 (HS.out b hSb).2
        replace d0 := kw.cell d0 (HS.out b' hSb').2
        replace d1 := kw.cell d1 (HS.out b' hSb').2
        replace d2 := kw.cell d2 (HS.out b' hSb').2
        replace d3 := kw.cell d3 (HS.out b' hSb').2
        have hmem := List.getElem_mem hlt
        have hmem' := List.getElem_mem hlt'
        have Hih2 := Lib.hid (Hih.out _ hmem)
        have Oxa := Lib.hid (Tm.OnL_mem hop.2 _ hmem)
        have Oxb := Lib.hid (Tm.OnL_mem hot.2 _ hmem')
        have Ixa := Lib.hid (kp_in (Tm.InL_mem hip.2.2.2.2.2.2 _ hmem) Oxa.out (fun b hb => (HS.out b hb).2) kw)
        have Ixb := Lib.hid (kp_in (Tm.InL_mem hit.2.2.2.2.2.2 _ hmem') Oxb.out (fun b hb => (HS.out b hb).2) kw)
        have Fxa := Lib.hid (formedL_nth l k hlt Hlp.out)
        have Fxb := Lib.hid (formedL_nth l' k hlt' Hlt.out)
        have Hst := Lib.hid (matL_step l l' k hlt hlt' g)
        clear hip hit hop hot hr1 hr2 kw hmem hmem'
        generalize l[k] = x at *
        generalize l'[k] = y at *
        go_upto_region 12 with fail
        refine wp_region_rely_tail 11 [fx (.pointer (some ⟨w.heap.size, 3, none⟩)), fx (.slice (some ⟨b, o, none⟩) l.length pc), fx (.int .i64 k), fx (.pointer (some ⟨b, o + k * 4, none⟩)), fx (.agg #[.int .i64 x.k, .int .i64 x.n, .string x.s, .slice x.p x.l.length x.c]), fx (.pointer (some ⟨w.heap.size + 1, 3, none⟩)), fx (.slice (some ⟨b', o', none⟩) l.length tc), fx (.int .i64 k), fx (.pointer (some ⟨b', o' + k * 4, none⟩)), fx (.agg #[.int .i64 y.k, .int .i64 y.n, .string y.s, .slice y.p y.l.length y.c]), fx (.map (some M))]
          (by kernel_rfl) (by kernel_rfl) (by decide) (by repeat (first | exact Stable.nil | refine Stable.fix ?_)) ?_ ?_
        · refine ⟨?_, ?_, ?_, ?_, ?_, ?_, ?_, ?_, ?_, ?_, ?_, trivial⟩
          all_goals
            intro a wz hg hold
            have h2 : a.tmps[2]?.getD undef = .map (some M) := hold 2 rfl
            have hp : a.tmps[3]?.getD undef = .pointer (some ⟨w.heap.size, 0, none⟩) := hold 3 rfl
            have hq : a.tmps[4]?.getD undef = .pointer (some ⟨w.heap.size + 1, 0, none⟩) := hold 4 rfl
            have hi : a.tmps[9]?.getD undef = .int .i64 k := hold 9 rfl
            have zc0 := Gr.at hg c0
            have zc1 := Gr.at hg c1
            have zc2 := Gr.at hg c2
            have zc3 := Gr.at hg c3
            have zd0 := Gr.at hg d0
            have zd1 := Gr.at hg d1
            have zd2 := Gr.at hg d2
            have zd3 := Gr.at hg d3
            have zx3 := Gr.at hg x3
            have zy3 := Gr.at hg y3
            clear hold x0 x1 x2 x3 y0 y1 y2 y3 c0 c1 c2 c3 d0 d1 d2 d3
            simp [predsImp, Region.binds, dstAt, fx]
            intros
            first
              | (rw [if_pos (by simp [*])]
                 intro K hK)
              | (rename_i K hK)
            go_simp
          all_goals exact hK _ _ rfl (Gr.rfl' _)
        · intro w9 hg
          rintro _ rfl _ rfl _ rfl _ rfl _ rfl _ rfl _ rfl _ rfl _ rfl _ rfl _ rfl
          simp only [finAll, Act.put, List.setIfInBounds_toArray, List.set_cons_succ, List.set_cons_zero, List.drop_succ_cons, List.drop_zero, List.take_zero]
          have gB : wA.heap.size ≤ w9.heap.size := Nat.le_trans kr.size hg.size
          have hcall := Hih2.out S y w9 M g (hm.out.gr hg) (fun b hb => ⟨by have := (HS.out b hb).1; omega, (HS.out b hb).2⟩) (Tm.In_below hg Ixa.out) Oxa.out (Tm.In_below hg Ixb.out) Oxb.out Fxa.out Fxb.out
          have Hcall := Lib.hid (show Calls Try.prog 90 #[.agg #[.int .i64 x.k, .int .i64 x.n, .string x.s, .slice x.p x.l.length x.c], .agg #[.int .i64 y.k, .int .i64 y.n, .string y.s, .slice y.p y.l.length y.c], .map (some M)] w9 _ from hcall)
          have k9 : Kp (· = M) wA w9 := kr.trans (Kp.of_gr hg)
          clear hcall x0 x1 x2 x3 y0 y1 y2 y3 c0 c1 c2 c3 d0 d1 d2 d3 hg
          go_wp2_with fail
          refine Hcall.out.mono ?_
          rintro e w5 ⟨bb, rfl, k5, hyes, hno⟩
          have kA5 := k9.trans k5
          cases bb with
          | true =>
            obtain ⟨g2, hg2, hm2⟩ := hyes rfl
            have Hm2 := Lib.hid hm2
            have Hmat2 : Hid (T.matL (Tm.eraseL (l.drop (k + 1))) (Tm.eraseL (l'.drop (k + 1))) g2 = T.mat (Tm.erase (.mk pk pn ps (some ⟨b, o, none⟩) pc l)) (Tm.erase (.mk pk pn ts (some ⟨b', o', none⟩) tc l')) f) := by
              show _ = _
              have h1 := Hst.out
              rw [hg2] at h1
              exact h1.symm.trans hmat.out
            clear hyes hno hg2 hm2
            go_wp2_with fail
            go_roundg (l.length - (k + 1))
            case measure => omega
            case rel => exact ⟨k + 1, g2, by omega, rfl, by go_num, Hm2, Hmat2, kA5⟩
          | false =>
            have Hfin := Lib.hid (HQ.out false w5 ((Kp.of_gr gA).trans kA5) (fun h => nomatch h) (fun _ => by
              rw [← hmat.out, Hst.out, hno rfl]))
            clear hyes hno
            go_wp2_with fail
            exact Hfin.out
      · obtain rfl : k = l.length := by omega
        have Hfin := Lib.hid (HQ.out true wr ((Kp.of_gr gA).trans kr) (fun _ => ⟨g, by
          rw [← hmat.out, List.drop_length, List.drop_of_length_le (by rw [E4.out]; exact Nat.le_refl _), Tm.eraseL, T.matL]
          intros; simp_all, hm.out⟩) (fun h => nomatch h))
        clear x0 x1 x2 x3 y0 y1 y2 y3
        go_wp2_with fail
        exact Hfin.out
  · have Hfin := Lib.hid (fun w' (g : Gr w w') => HQ.out false w' (Kp.of_gr g) (fun h => nomatch h) (fun _ => Hother.out (fun h => hg ⟨h.1, h.2.1, by have := h.2.2.1; rw [Tm.erase, Tm.erase] at this; exact this, by have := h.2.2.2; rw [Tm.erase, Tm.erase] at this; replace this : (Tm.eraseL l).length = (Tm.eraseL l').length := this; rwa [Tm.eraseL_length, Tm.eraseL_length] at this⟩) f))
    have Hg := Lib.hid hg
    clear hg Hsame Hother
    go_enter Try.func90, Try.ntmps90
    go_upto_region 1 with fail
    obtain ⟨h3, h4, gA⟩ := two_blocks w (.int .i64 pk) (.int .i64 pn) (.string ps) (.slice pp l.length pc) (.int .i64 tk) (.int .i64 tn) (.string ts) (.slice tp l'.length tc)
    generalize ((w.alloc (.cells #[.int .i64 pk, .int .i64 pn, .string ps, .slice pp l.length pc] 25)).alloc (.cells #[.int .i64 tk, .int .i64 tn, .string ts, .slice tp l'.length tc] 25)) = wA at *
    obtain ⟨⟨x0, x1, x2, x3⟩, _, _⟩ := h3.out.parts
    obtain ⟨⟨y0, y1, y2, y3⟩, _, sA⟩ := h4.out.parts
    go_upto_region 9 with fail
    all_goals first
      | exact Hfin.out _ gA
      | (exfalso; refine Hg.out ⟨by assumption, by assumption, by assumption, ?_⟩
         have h9 : ((l.length : Int) != l'.length) = false := by assumption
         simp at h9; omega)

theorem match_any (N : Nat) : ∀ p : Tm, SizeOf.sizeOf p ≤ N → matchOf p := by
  induction N with
  | zero => intro p h; cases p; simp at h
  | succ N ih =>
    intro p hN
    by_cases hk : p.k = 1
    · exact match_var p hk
    · refine match_comp p hk fun x hx => ih x ?_
      obtain ⟨k, n, s, q, c, l⟩ := p
      have := Tm.sizeOf_mem (show x ∈ l from hx) k n s q c
      omega
theorem match_calls {S : Nat → Prop} {p t : Tm} {w : World} {M : Nat} {f : Int → Option T} (hm : TMap S w M f) (hS : ∀ b, S b → b < w.heap.size ∧ b ≠ M) (ip : p.In w) (op : p.On S) (it : t.In w) (ot : t.On S) (fp : p.erase.formed = true) (ft : t.erase.formed = true) :
    Calls Try.prog 90 #[p.val, t.val, .map (some M)] w (RetMat S M p.erase t.erase f w) := match_any _ p (Nat.le_refl _) S t w M f hm hS ip op it ot fp ft
end Go.Proofs.Ythncdmijledpnaa

namespace Go.Proofs.Ythncdmijledpnaa
open Go.RowKit Go.Maps Go.Lib Go.Sort
open Go.ChangeMaps (setBlock)

set_option maxHeartbeats 1000000 in
set_option maxRecDepth 100000 in
theorem match1_calls (x y : Bd) (w : World) : Calls Try.prog 92 #[.agg #[.int .i64 x.v, .int .i64 x.t.k, .int .i64 x.t.n, .string x.t.s, .slice x.t.p x.t.l.length x.t.c], .agg #[.int .i64 y.v, .int .i64 y.t.k, .int .i64 y.t.n, .string y.t.s, .slice y.t.p y.t.l.length y.t.c]] w fun e w' => e = .returned (.int .i64 (cmpB x y)) ∧ ∃ q os', w' = grow (w.drewN q) os' := by
  have hcon := fun W' => compare_int64 x.v y.v W'
  unfold cmpB
  generalize cmpI x.v y.v = r at hcon ⊢
  go_enter Try.func92, Try.ntmps92
  go_wp2_with (go_at_call 93; refine (hcon _).mono ?_; rintro e w' ⟨rfl, rfl⟩)
  go_ret
  exact ⟨rfl, 0, _, by rw [alloc_eq_grow, alloc_eq_grow, grow_grow]; rfl⟩

theorem cmpLaysM (blk off size : Nat) (w : World) : CmpLays Try.prog 92 #[] Bd.cells 5 cmpB blk off size w :=
  fun _ _ _ _ x y => match1_calls x y _

/-- slices.SortFunc of binds of the call's own. -/
theorem sortBdsM_calls (B : Nat) (v : Value) (lo : List Bd) (w : World) (h : BuiltBds w B v lo) (hn : lo.length ≤ 1099511627777) (hB : B ≤ w.heap.size) :
    Calls Try.prog 91 #[v, .func (.func 92) #[] #[]] w fun e w' => e = .returned (.tuple #[]) ∧ ∃ lo', lo'.Perm lo ∧ lo'.Pairwise (fun x y => x.v ≤ y.v) ∧ BuiltBds w' B v lo' ∧ Kp (fun b => v.ownBlock = some b) w w' := by
  rcases h.2 with ⟨hv, h0⟩ | ⟨g, cap, cur, rfl, hg0, hblk, hnc, hcm, hsz, htk⟩
  · obtain rfl : lo = [] := List.eq_nil_of_length_eq_zero h0
    rw [hv] at h ⊢
    refine (Go.Proofs.AnyF.slices_SortFunc_none sfLays none 0 _ w).mono ?_
    rintro e w' ⟨rfl, rfl⟩
    exact ⟨rfl, [], List.Perm.refl _, List.Pairwise.nil, h, Kp.refl _ _⟩
  · have hgl : g < w.heap.size := (Array.getElem?_eq_some_iff.1 hblk).1
    have hH : HoldsK Bd.cells 5 w g 0 lo.toArray := holds_vals hblk (by
      rw [size_flatK, flatB]; simpa using htk)
    have hcall := Go.Proofs.AnyQ.slices_SortFunc sfLays 5 (fun w => Try.isAgg115 w) (fun w => Try.sizeOf115 w) Bd.cells (fun _ => rfl) (fun x v hv => by simp [Bd.cells, Tm.cells] at hv; rcases hv with rfl | rfl | rfl | rfl | rfl <;> rfl) cmpB swoB 92 #[] g 0 cap lo.toArray w
      (fun args w => by kernel_rfl) (cmpLaysM _ _ _ _) hH hgl (by simp; omega)
    rw [show lo.toArray.size = lo.length from by simp] at hcall
    refine hcall.mono ?_
    rintro e w' ⟨rfl, d', n, os, hp, hs, rfl⟩
    have hds : d'.size = lo.length := by rw [hp.1]; simp
    have hpl : d'.toList.Perm lo := by
      have := hp.2.2
      rw [show d'.extract 0 lo.length = d' by rw [← hds]; simp] at this
      simpa using this
    refine ⟨rfl, d'.toList, hpl, ?_, ?_, ?_⟩
    · rw [List.pairwise_iff_getElem]
      intro i j hi hj hij
      have hi' : i < d'.size := by simpa using hi
      have hj' : j < d'.size := by simpa using hj
      have := hs i j (Nat.zero_le _) hij (by omega)
      rw [ltB, getElem!_pos d' j hj', getElem!_pos d' i hi'] at this
      have := of_decide_eq_false this
      simp only [Array.getElem_toList]
      omega
    · refine ⟨by rw [bdcells_len], .inr ⟨g, cap, putCells id 0 (flatK Bd.cells 5 d') cur, by simp [hds], hg0, ?_, by simpa [hds] using hnc, hcm, ?_, ?_⟩⟩
      · exact (heap_grow_old _ _ (by simpa [putRow, putRowK, mapBlock, Go.Sort.ahead] using hgl)).trans (put_sameV _ hblk)
      · simpa [putCells] using hsz
      · have := take_putV cur (flatK Bd.cells 5 d') (by rw [size_flatK, hds, hsz]; exact Nat.mul_le_mul_right 5 hnc)
        rw [size_flatK] at this
        rw [Array.length_toList, this]
        exact flatB d'.toList
    · refine ⟨rfl, rfl, rfl, by simp [sortWorldK, putRowK, putRow, mapBlock, Go.Sort.ahead, grow], fun k hk hne => ?_⟩
      have hgk : g ≠ k := fun e => hne (by rw [← e]; rfl)
      exact (heap_grow_old _ _ (Nat.lt_of_lt_of_le hk (by simp [putRow, putRowK, mapBlock, Go.Sort.ahead]))).trans (put_otherV _ hgk)

/-- What has been collected of a map when these have been seen: all of it. -/
def ColA (f : Int → Option T) (E : Array MapEntry) (seen : Array Nat) (lo : List Bd) : Prop :=
  (lo.map Bd.v).Nodup ∧ (∀ y ∈ lo, f y.v = some y.t.erase ∧ ∃ e ∈ E.toList, seen.contains e.born = true ∧ e.key = kI64 y.v) ∧
  ∀ e ∈ E.toList, seen.contains e.born = true → ∀ n t, e.key = kI64 n → f n = some t → ∃ y ∈ lo, y.v = n
section
variable {f : Int → Option T} {E : Array MapEntry} {seen : Array Nat} {lo : List Bd}
theorem ColA.start : ColA f E #[] [] := ⟨List.nodup_nil, (fun y hy => nomatch hy), fun e _ h => by simp at h⟩
theorem ColA.snoc (h : ColA f E seen lo) (hbn : (E.toList.map (·.born)).Nodup) (hk : (E.toList.map (·.key)).Nodup) {e : MapEntry} {n : Int} {tm : Tm} (he : e ∈ E.toList) (hs : seen.contains e.born = false) (hkey : e.key = kI64 n) (hv : f n = some tm.erase) : ColA f E (seen.push e.born) (lo ++ [⟨n, tm⟩]) := by
  refine ⟨?_, fun y hy => ?_, fun e' he' hs' n' t' hk' hf' => ?_⟩
  · rw [List.map_append, List.nodup_append]
    refine ⟨h.1, by simp, ?_⟩
    intro a ha d hd
    obtain ⟨y, hy, rfl⟩ := List.mem_map.1 ha
    simp only [List.map_cons, List.map_nil, List.mem_singleton] at hd
    subst hd
    intro hyn
    obtain ⟨_, e', h3, h4, h5⟩ := h.2.1 y hy
    have := one_of (·.key) hk h3 he (by rw [h5, hkey, hyn])
    subst this
    rw [hs] at h4
    cases h4
  · rcases List.mem_append.1 hy with hy | hy
    · obtain ⟨h1, e', h3, h4, h5⟩ := h.2.1 y hy
      exact ⟨h1, e', h3, (seen_push _ _ _).2 (.inl h4), h5⟩
    · rw [List.mem_singleton] at hy
      subst hy
      exact ⟨hv, e, he, (seen_push _ _ _).2 (.inr rfl), hkey⟩
  · rcases (seen_push _ _ _).1 hs' with hs' | hs'
    · obtain ⟨y, hy, hyn⟩ := h.2.2 e' he' hs' n' t' hk' hf'
      exact ⟨y, List.mem_append_left _ hy, hyn⟩
    · have := one_of (·.born) hbn he' he hs'
      subst this
      have := kI64_inj (hk'.symm.trans hkey)
      subst this
      exact ⟨⟨n', tm⟩, List.mem_append_right _ (List.mem_singleton.2 rfl), rfl⟩
theorem ColA.all (h : ColA f E seen lo) (hall : ∀ e ∈ E.toList, seen.contains e.born = true) (hin : ∀ n t, f n = some t → ∃ e ∈ E.toList, e.key = kI64 n) (n : Int) (t : T) : (∃ y ∈ lo, y.v = n ∧ y.t.erase = t) ↔ f n = some t := by
  constructor
  · rintro ⟨y, hy, rfl, rfl⟩
    exact (h.2.1 y hy).1
  · intro h1
    obtain ⟨e, he, hk⟩ := hin n t h1
    obtain ⟨y, hy, hyn⟩ := h.2.2 e he (hall e he) n t hk h1
    refine ⟨y, hy, hyn, ?_⟩
    have := (h.2.1 y hy).1
    rw [hyn, h1] at this
    exact (Option.some.inj this).symm
theorem ColA.len (h : ColA f E seen lo) (hr : ∀ n, f n ≠ none → 0 ≤ n ∧ n ≤ 1099511627776) : lo.length ≤ 1099511627777 := by
  have := nodup_le 1099511627777 (lo.map Bd.v) h.1 fun x hx => by
    obtain ⟨y, hy, rfl⟩ := List.mem_map.1 hx
    have := hr y.v (by rw [(h.2.1 y hy).1]; simp)
    exact ⟨this.1, by omega⟩
  simpa using this
end
/-- The list of all that a map has. -/
def IsAll (f : Int → Option T) (l : List Bd) : Prop :=
  ascB (-1) l = true ∧ (∀ n t, (∃ y ∈ l, y.v = n ∧ y.t.erase = t) ↔ f n = some t) ∧ ∀ y ∈ l, y.t.erase.formed = true ∧ 0 ≤ y.v ∧ y.v ≤ 1099511627776
/-- Match's answer. -/
def RetMatch (B : Nat) (p t : T) (w : World) (e : Ending) (w' : World) : Prop :=
  ∃ (pp : Option Addr) (c : Nat) (l : List Bd) (b : Bool), e = .returned (.tuple #[.slice pp l.length c, .bool b, .int .i64 (errOf (p.formed && t.formed))]) ∧ (Bds.mk pp c l).In w' ∧ (∀ y ∈ l, y.t.On (fun x => B ≤ x)) ∧ Gr w w' ∧
    ((b = false ∧ l = [] ∧ ((p.formed && t.formed) = true → T.mat p t (fun _ => none) = none)) ∨ (b = true ∧ (p.formed && t.formed) = true ∧ ∃ g, T.mat p t (fun _ => none) = some g ∧ IsAll g l))
theorem RetMatch.low {B B' : Nat} {p t : T} {w w' : World} {e : Ending} (hB : B' ≤ B) (h : RetMatch B p t w e w') : RetMatch B' p t w e w' := by
  obtain ⟨pp, c, l, b, h1, h2, h3, h4⟩ := h
  exact ⟨pp, c, l, b, h1, h2, fun y hy => (h3 y hy).mono fun x hx => Nat.le_trans hB hx, h4⟩

end Go.Proofs.Ythncdmijledpnaa

namespace Go.Proofs.Ythncdmijledpnaa
open Go.RowKit

end Go.Proofs.Ythncdmijledpnaa

namespace Go.Proofs.Ythncdmijledpnaa
open Go.RowKit Go.Maps Go.Lib

theorem RetMatch.says {B : Nat} {p t : T} {w w' : World} {e : Ending} (hp : p.formed = true) (ht : t.formed = true) (h : RetMatch B p t w e w') :
    ∃ (v : Value) (b : Bool) (x : Int), e = .returned (.tuple #[v, .bool b, .int .i64 x]) ∧ (b = true ↔ T.matches p t) ∧ Gr w w' := by
  obtain ⟨pp, c, l, b, rfl, -, -, g, hc⟩ := h
  refine ⟨_, b, _, rfl, ?_, g⟩
  rw [← mat_iff hp ht]
  rcases hc with ⟨rfl, -, hn⟩ | ⟨rfl, -, f, hf, -⟩
  · rw [hn (by rw [hp, ht]; rfl)]
    exact ⟨(fun h => nomatch h), (fun h => nomatch h)⟩
  · rw [hf]
    exact ⟨fun _ => rfl, fun _ => rfl⟩

theorem three_blocks (w : World) (v0 : Value) (v1 : Value) (v2 : Value) (v3 : Value) (u0 : Value) (u1 : Value) (u2 : Value) (u3 : Value) (z0 : Value) (z1 : Value) (z2 : Value) (z3 : Value) : Hid (Blk4 (((w.alloc (.cells #[v0, v1, v2, v3] 25)).alloc (.cells #[u0, u1, u2, u3] 25)).alloc (.cells #[z0, z1, z2, z3] 25)) w.heap.size v0 v1 v2 v3) ∧ Hid (Blk4 (((w.alloc (.cells #[v0, v1, v2, v3] 25)).alloc (.cells #[u0, u1, u2, u3] 25)).alloc (.cells #[z0, z1, z2, z3] 25)) (w.heap.size + 1) u0 u1 u2 u3) ∧ Hid (Blk4 (((w.alloc (.cells #[v0, v1, v2, v3] 25)).alloc (.cells #[u0, u1, u2, u3] 25)).alloc (.cells #[z0, z1, z2, z3] 25)) (w.heap.size + 2) z0 z1 z2 z3) ∧ Gr w (((w.alloc (.cells #[v0, v1, v2, v3] 25)).alloc (.cells #[u0, u1, u2, u3] 25)).alloc (.cells #[z0, z1, z2, z3] 25)) := by
  obtain ⟨h1, h2, g⟩ := two_blocks w v0 v1 v2 v3 u0 u1 u2 u3
  refine ⟨h1.out.old _, h2.out.old _, ?_, g.trans (by go_grown)⟩
  have h3 := Blk4.new ((w.alloc (.cells #[v0, v1, v2, v3] 25)).alloc (.cells #[u0, u1, u2, u3] 25)) z0 z1 z2 z3
  rw [show ((w.alloc (.cells #[v0, v1, v2, v3] 25)).alloc (.cells #[u0, u1, u2, u3] 25)).heap.size = w.heap.size + 2 by simp] at h3
  exact h3
end Go.Proofs.Ythncdmijledpnaa

namespace Go.Proofs.Ythncdmijledpnaa
open Go.RowKit Go.Maps Go.Lib

def GenSays : Prop := ∀ (S : Nat → Prop) (P : Nat) (v : Value) (l : List Pr) (a b : Tm) (w : World), a.In w → b.In w → a.erase.formed = true → b.erase.formed = true → a.On S → b.On S → PSt S P v l w → l.length + T.sz a.erase ≤ 1048576 →
  Calls Try.prog 89 #[a.val, b.val, .pointer (some ⟨P, 0, none⟩)] w (RetGen S P v l a.erase b.erase w)

end Go.Proofs.Ythncdmijledpnaa
