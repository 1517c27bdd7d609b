/-
  hornref.Same, hornref.Formed
  Renaming, bodies and clauses: what they are (no program here).
  term.Is, hornref.Is, base.Callable, term.A, hornref.A
  cmp.Compare, cmp.isNaN at int and int64, cmp.Or
-/
import Derived.Test.YtjdoflfdlhpbmaaGreatBF01
import Derived.Test.YtjdoflfdlhpbmaaGreatBF03
import Derived.Test.YtjdoflfdlhpbmaaGreatShelf
namespace Go.Proofs.YtjdoflfdlhpbmaaGreat
open Go.RowKit

mutual
/-- The same term? -/
def T.same : T → T → Bool
  | .mk k n s l, .mk k' n' s' l' => decide (k = k') && decide (n = n') && decide (s = s') && decide (l.length = l'.length) && T.sameL l l'
def T.sameL : List T → List T → Bool
  | x :: xs, y :: ys => T.same x y && T.sameL xs ys
  | _, _ => true
end

theorem sameL_take (l l' : List Tm) (k : Nat) (hk : k < l.length) (hk' : k < l'.length) :
    T.sameL (Tm.eraseL (l.take (k + 1))) (Tm.eraseL (l'.take (k + 1))) = (T.sameL (Tm.eraseL (l.take k)) (Tm.eraseL (l'.take k)) && T.same l[k].erase l'[k].erase) := by
  induction l generalizing k l' with
  | nil => exact absurd hk (by simp)
  | cons x xs ih =>
    cases l' with
    | nil => exact absurd hk' (by simp)
    | cons y ys =>
      cases k with
      | zero => simp [Tm.eraseL, T.sameL]
      | succ k =>
        simp only [List.length_cons] at hk hk'
        simp only [List.take_succ_cons, Tm.eraseL, T.sameL, List.getElem_cons_succ]
        rw [ih ys k (by omega) (by omega), Bool.and_assoc]

theorem sameL_false {l l' : List Tm} (k : Nat) (hk : k < l.length) (hk' : k < l'.length) (h : T.same l[k].erase l'[k].erase = false) : T.sameL (Tm.eraseL l) (Tm.eraseL l') = false := by
  induction l generalizing k l' with
  | nil => exact absurd hk (by simp)
  | cons x xs ih =>
    cases l' with
    | nil => exact absurd hk' (by simp)
    | cons y ys =>
      rw [Tm.eraseL, Tm.eraseL, T.sameL]
      cases k with
      | zero => simp only [List.getElem_cons_zero] at h; rw [h]; rfl
      | succ k =>
        simp only [List.length_cons] at hk hk'
        rw [ih k (by omega) (by omega) (by simpa using h), Bool.and_false]

set_option maxHeartbeats 400000 in
set_option maxRecDepth 100000 in
theorem same_any (N : Nat) : ∀ (t u : Tm) (w : World), SizeOf.sizeOf t ≤ N → t.In w → u.In w →
    Calls Tryz.prog 17 #[t.val, u.val] w (Ret (.bool (T.same t.erase u.erase)) w) := by
  induction N with
  | zero => intro t u w h _; cases t; simp at h
  | succ N ih =>
    intro t u w hN h hu
    obtain ⟨k, n, s, p, c, l⟩ := t
    obtain ⟨k', n', s', p', c', l'⟩ := u
    have hsz := fun x (hx : x ∈ l) => Tm.sizeOf_mem hx k n s p c
    rw [Tm.In] at h hu
    obtain ⟨_, _, hs, hl, hc, hp, hIn⟩ := h
    obtain ⟨_, _, hs', hl', hc', hp', hIn'⟩ := hu
    have Hp := Lib.hid hp
    have HIn := Lib.hid hIn
    have Hp' := Lib.hid hp'
    have HIn' := Lib.hid hIn'
    have Hsz := Lib.hid hsz
    have Hih := Lib.hid ih
    clear hp hIn hsz ih hp' hIn'
    simp only [Tm.val, Tm.k, Tm.n, Tm.s, Tm.p, Tm.c, Tm.l, Tm.erase, T.same, Tm.eraseL_length]
    generalize hr : (_ && _ : Bool) = r
    have Hr := Lib.hid hr
    clear hr
    by_cases hg : k = k' ∧ n = n' ∧ s.toList = s'.toList ∧ l.length = l'.length
    · obtain ⟨rfl, rfl, e3, e4⟩ := hg
      have e3' : (s.toList == s'.toList) = true := by simp [e3]
      have E4 : Hid (l'.length = l.length) := e4.symm
      have Hfin : Hid (r = T.sameL (Tm.eraseL l) (Tm.eraseL l')) := by
        refine Hr.out.symm.trans ?_; simp [e3, e4]
      clear Hr e3 e4
      rw [E4.out]
      go_enter Tryz.func17, Tryz.ntmps17
      go_wp2_with fail
      go_loopw [5] (fun i wr => ∃ k : Nat, k ≤ l.length ∧ i = .int .i64 k ∧ Hid (T.sameL (Tm.eraseL (l.take k)) (Tm.eraseL (l'.take k)) = true) ∧ Gr w wr ∧
          w.heap.size + 2 ≤ wr.heap.size ∧ wr.cell? ⟨w.heap.size, 3, none⟩ = some (.slice p l.length c) ∧ wr.cell? ⟨w.heap.size + 1, 3, none⟩ = some (.slice p' l.length c'))
        (fun i _ => l.length - (intOf i).toNat)
      case atStart => exact ⟨0, Nat.zero_le _, rfl, rfl, by go_grown, by simp, by go_cell, by go_cell⟩
      case round =>
        obtain ⟨i, hi, rfl, hpre, hb, hbs, b1, b2⟩ := hrel
        by_cases hlt : i < l.length
        · rcases Hp.out with rfl | ⟨b, o, rfl, hrow⟩
          · simp at hlt
          rcases Hp'.out with rfl | ⟨b', o', rfl, hrow'⟩
          · have := E4.out; simp at this; omega
          have Hrow := Lib.hid hrow
          have Hrow' := Lib.hid hrow'
          clear hrow hrow'
          have hlt' : i < l'.length := by have := E4.out; omega
          have hbl : b < w.heap.size := Tm.row_lt Hrow.out (by rintro rfl; simp at hlt)
          have hbl' : b' < w.heap.size := Tm.row_lt Hrow'.out (by rintro rfl; simp at hlt')
          obtain ⟨c0, c1, c2, c3⟩ := Tm.row_mono Hrow.out (fun o' => hb.cell (p := ⟨b, o', none⟩) hbl) i l[i] (List.getElem?_eq_getElem hlt)
          obtain ⟨d0, d1, d2, d3⟩ := Tm.row_mono Hrow'.out (fun o'' => hb.cell (p := ⟨b', o'', none⟩) hbl') i l'[i] (List.getElem?_eq_getElem hlt')
          have hmem : l[i] ∈ l := List.getElem_mem hlt
          have hmem' : l'[i] ∈ l' := List.getElem_mem hlt'
          have hx : Hid (l[i].In wr) := Tm.In_below (hb.mono (by omega)) (Tm.InL_mem HIn.out _ hmem)
          have hx' : Hid (l'[i].In wr) := Tm.In_below (hb.mono (by omega)) (Tm.InL_mem HIn'.out _ hmem')
          have Hz := Hsz.out _ hmem
          generalize hxe : l[i] = x at *
          generalize hxe' : l'[i] = x' at *
          go_wp2_with fail
          refine wp_region_rely [fx (.pointer (some ⟨w.heap.size, 3, none⟩)), fx (.slice (some ⟨b, o, none⟩) l.length c), fx (.int .i64 i), fx (.pointer (some ⟨b, o + i * 4, none⟩)), fx x.val,
            fx (.pointer (some ⟨w.heap.size + 1, 3, none⟩)), fx (.slice (some ⟨b', o', none⟩) l.length c'), fx (.int .i64 i), fx (.pointer (some ⟨b', o' + i * 4, none⟩)), fx x'.val,
            fx (.bool (T.same x.erase x'.erase)), fx (.bool (!T.same x.erase x'.erase))] (by kernel_rfl) (by kernel_rfl) (by repeat (first | exact Stable.nil | refine Stable.fix ?_)) ?_ ?_
          · refine ⟨?_, ?_, ?_, ?_, ?_, ?_, ?_, ?_, ?_, ?_, ?_, ?_, trivial⟩
            all_goals
              intro a w1 hg hold
              have h2 : a.tmps[2]?.getD undef = .pointer (some ⟨w.heap.size, 0, none⟩) := hold 2 rfl
              have h3 : a.tmps[3]?.getD undef = .pointer (some ⟨w.heap.size + 1, 0, none⟩) := hold 3 rfl
              have h5 : a.tmps[5]?.getD undef = .int .i64 i := hold 5 rfl
              clear hold
              have z1 := Gr.at hg b1
              have z2 := Gr.at hg b2
              have z3 := Gr.at hg c0
              have z4 := Gr.at hg c1
              have z5 := Gr.at hg c2
              have z6 := Gr.at hg c3
              have z7 := Gr.at hg d0
              have z8 := Gr.at hg d1
              have z9 := Gr.at hg d2
              have z10 := Gr.at hg d3
              simp [predsImp, Region.binds, dstAt, fx]
              intros
              rename_i K hK
              clear b1 b2 c0 c1 c2 c3 d0 d1 d2 d3
              go_simp
              first
                | exact hK _ _ rfl (Gr.rfl' _)
                | (refine (Hih.out x x' _ (by omega) (Tm.In_below hg hx.out) (Tm.In_below hg hx'.out)).mono ?_
                   rintro e w2 ⟨rfl, hb2⟩
                   exact hK _ _ rfl hb2)
          · intro w1 hg
            have hsz1 := hg.size
            have b1' := Gr.at hg b1
            have b2' := Gr.at hg b2
            rintro _ rfl _ rfl _ rfl _ rfl _ rfl _ rfl _ rfl _ rfl _ rfl _ rfl _ rfl _ rfl
            simp only [finAll, Act.put, Exit.then, List.setIfInBounds_toArray, List.set_cons_succ, List.set_cons_zero]
            generalize hxf : T.same x.erase x'.erase = bx
            have Hxf := Lib.hid hxf
            have Htk : Hid (T.sameL (Tm.eraseL (l.take (i + 1))) (Tm.eraseL (l'.take (i + 1))) = bx) := by
              have h9 := sameL_take l l' i hlt hlt'
              rw [hpre.out, hxe, hxe', Hxf.out] at h9
              exact h9
            clear hxf b1 b2
            cases bx
            · go_wp2_with fail
              go_ret
              refine ret_bool ?_ (hb.trans hg)
              rw [Hfin.out, sameL_false i hlt hlt' (by rw [hxe, hxe']; exact Hxf.out)]
            · go_wp2_with fail
              go_roundw
              case rel => exact ⟨i + 1, by omega, by go_num, Htk.out, hb.trans hg, by omega, b1', b2'⟩
              case measure => simp [intOf]; omega
        · go_wp2_with fail
          go_ret
          refine ret_bool ?_ hb
          have E := E4.out
          rw [Hfin.out, ← hpre.out, List.take_of_length_le (by omega), List.take_of_length_le (by omega)]
    · have Hfin : Hid (r = false) := by
        refine Hr.out.symm.trans ?_
        rw [Bool.eq_false_iff]
        intro h9
        simp only [Bool.and_eq_true, decide_eq_true_eq] at h9
        exact hg ⟨h9.1.1.1.1, h9.1.1.1.2, h9.1.1.2, h9.1.2⟩
      have Hg := Lib.hid hg
      clear hg Hr
      go_enter Tryz.func17, Tryz.ntmps17
      go_wp2_with fail
      all_goals first
        | (go_ret; exact ret_bool Hfin.out.symm (by go_grown))
        | (exfalso; refine Hg.out ⟨by assumption, by assumption, by assumption, ?_⟩
           have h9 : ((l.length : Int) != l'.length) = false := by assumption
           simp at h9; omega)

/-- hornref.Same, of whatever terms. -/
theorem same_calls {t u : Tm} {w : World} (h : t.In w) (hu : u.In w) : Calls Tryz.prog 17 #[t.val, u.val] w (Ret (.bool (T.same t.erase u.erase)) w) :=
  same_any _ t u w (Nat.le_refl _) h hu
end Go.Proofs.YtjdoflfdlhpbmaaGreat

namespace Go.Proofs.YtjdoflfdlhpbmaaGreat

/-! ### Variables in their order, and renaming -/
mutual
def T.vars : T → List Int → List Int
  | .mk k n _ l, V => if k = 1 then (if n ∈ V then V else V ++ [n]) else T.varsL l V
def T.varsL : List T → List Int → List Int
  | [], V => V
  | x :: xs, V => T.varsL xs (T.vars x V)
end

/-- The new number of a variable. -/
def swapF (d : Int) (V : List Int) (n : Int) : T := if n ∈ V then varT (d + (V.idxOf n : Int)) else varT n

theorem T.varsL_append : ∀ (l l' : List T) (V : List Int), T.varsL (l ++ l') V = T.varsL l' (T.varsL l V)
  | [], l', V => by rw [List.nil_append, T.varsL]
  | x :: xs, l', V => by rw [List.cons_append, T.varsL, T.varsL, T.varsL_append xs l']
theorem T.varsL_single (x : T) (V : List Int) : T.varsL [x] V = T.vars x V := by rw [T.varsL, T.varsL]

mutual
theorem T.vars_prefix : ∀ (t : T) (V : List Int), V <+: T.vars t V
  | .mk k n _ l, V => by
    rw [T.vars]
    split
    · split
      · exact List.prefix_rfl
      · exact List.prefix_append _ _
    · exact T.varsL_prefix l V
theorem T.varsL_prefix : ∀ (l : List T) (V : List Int), V <+: T.varsL l V
  | [], V => by rw [T.varsL]; exact List.prefix_rfl
  | x :: xs, V => by rw [T.varsL]; exact (T.vars_prefix x V).trans (T.varsL_prefix xs _)
end

theorem idxOf_prefix {V W : List Int} (h : V <+: W) {n : Int} (hn : n ∈ V) : W.idxOf n = V.idxOf n := by
  obtain ⟨s, rfl⟩ := h
  rw [List.idxOf_append, if_pos hn]

theorem swapF_prefix {d : Int} {V W : List Int} (h : V <+: W) {n : Int} (hn : n ∈ V) : swapF d W n = swapF d V n := by
  rw [swapF, swapF, if_pos (h.subset hn), if_pos hn, idxOf_prefix h hn]

mutual
/-- All variables of the term are in the list. -/
def T.within (V : List Int) : T → Prop
  | .mk k n _ l => (k = 1 → n ∈ V) ∧ T.withinL V l
def T.withinL (V : List Int) : List T → Prop
  | [] => True
  | x :: xs => T.within V x ∧ T.withinL V xs
end

mutual
theorem T.within_mono {V W : List Int} (h : ∀ n ∈ V, n ∈ W) : ∀ {t : T}, T.within V t → T.within W t
  | .mk _ _ _ _, ht => by
    rw [T.within] at ht ⊢
    exact ⟨fun hk => h _ (ht.1 hk), T.withinL_mono h ht.2⟩
theorem T.withinL_mono {V W : List Int} (h : ∀ n ∈ V, n ∈ W) : ∀ {l : List T}, T.withinL V l → T.withinL W l
  | [], _ => by rw [T.withinL]; trivial
  | _ :: _, hl => by
    rw [T.withinL] at hl ⊢
    exact ⟨T.within_mono h hl.1, T.withinL_mono h hl.2⟩
end

theorem formed_args {k n : Int} {s : List UInt8} {l : List T} (h : (T.mk k n s l).formed = true) : (k = 4 ∧ T.formedL l = true) ∨ (k ≠ 4 ∧ l = []) := by
  rw [T.formed] at h
  by_cases h1 : k = 1
  · subst h1
    simp at h
    exact .inr ⟨by decide, h.2⟩
  · by_cases h2 : k = 2
    · subst h2
      simp at h
      exact .inr ⟨by decide, h.2⟩
    · by_cases h3 : k = 3
      · subst h3
        simp at h
        exact .inr ⟨by decide, h.2⟩
      · by_cases h4 : k = 4
        · subst h4
          simp at h
          exact .inl ⟨rfl, h.2⟩
        · simp [h1, h2, h3, h4] at h

mutual
theorem T.vars_within : ∀ (t : T) (V : List Int), t.formed = true → T.within (T.vars t V) t
  | .mk k n s l, V, h => by
    rw [T.within]
    by_cases h1 : k = 1
    · subst h1
      rcases formed_args h with ⟨h4, _⟩ | ⟨_, rfl⟩
      · cases h4
      · refine ⟨fun _ => ?_, by rw [T.withinL]; trivial⟩
        rw [T.vars, if_pos rfl]
        split
        · assumption
        · simp
    · rw [T.vars, if_neg h1]
      refine ⟨fun e => absurd e h1, ?_⟩
      rcases formed_args h with ⟨_, hl⟩ | ⟨_, rfl⟩
      · exact T.varsL_within l V hl
      · rw [T.withinL]; trivial
theorem T.varsL_within : ∀ (l : List T) (V : List Int), T.formedL l = true → T.withinL (T.varsL l V) l
  | [], V, _ => by rw [T.withinL]; trivial
  | x :: xs, V, h => by
    rw [T.formedL, Bool.and_eq_true] at h
    rw [T.withinL, T.varsL]
    exact ⟨T.within_mono (fun n hn => (T.varsL_prefix xs _).subset hn) (T.vars_within x V h.1), T.varsL_within xs _ h.2⟩
end

mutual
theorem T.map_swap {d : Int} {V W : List Int} (h : V <+: W) : ∀ {t : T}, T.within V t → T.map (swapF d W) t = T.map (swapF d V) t
  | .mk k n s l, ht => by
    rw [T.within] at ht
    rw [T.map, T.map, T.mapL_swap h ht.2]
    by_cases hk : k = 1
    · rw [if_pos hk, if_pos hk, swapF_prefix h (ht.1 hk)]
    · rw [if_neg hk, if_neg hk]
theorem T.mapL_swap {d : Int} {V W : List Int} (h : V <+: W) : ∀ {l : List T}, T.withinL V l → T.mapL (swapF d W) l = T.mapL (swapF d V) l
  | [], _ => by rw [T.mapL, T.mapL]
  | x :: xs, hl => by
    rw [T.withinL] at hl
    rw [T.mapL, T.mapL, T.map_swap h hl.1, T.mapL_swap h hl.2]
end

/-- The list of variables is fit: each one once, each a variable's number. -/
def VarsOk (V : List Int) : Prop := V.Nodup ∧ ∀ n ∈ V, 0 ≤ n ∧ n ≤ 1099511627776

theorem VarsOk.len {V : List Int} (h : VarsOk V) : V.length ≤ 1099511627777 := by
  have h1 : V.Nodup := h.1
  have h2 : V ⊆ (List.range 1099511627777).map (fun i : Nat => (i : Int)) := by
    intro n hn
    have := h.2 n hn
    rw [List.mem_map]
    exact ⟨n.toNat, List.mem_range.2 (by omega), by omega⟩
  have h3 := h1.length_le_of_subset h2
  rw [List.length_map, List.length_range] at h3
  exact h3

theorem VarsOk.nil : VarsOk [] := ⟨List.nodup_nil, fun _ h => by cases h⟩

theorem formed_var {n : Int} {s : List UInt8} {l : List T} (h : (T.mk 1 n s l).formed = true) : (0 ≤ n ∧ n ≤ 1099511627776) ∧ s = [] ∧ l = [] := by
  rw [T.formed] at h
  simp at h
  exact ⟨h.1.1, h.1.2, h.2⟩

theorem VarsOk.one {V : List Int} (h : VarsOk V) {n : Int} (hn : 0 ≤ n ∧ n ≤ 1099511627776) : VarsOk (if n ∈ V then V else V ++ [n]) := by
  split
  · exact h
  · rename_i hm
    refine ⟨?_, fun k hk => ?_⟩
    · rw [List.nodup_append]
      exact ⟨h.1, by simp, fun a ha b hb => by rw [List.mem_singleton] at hb; subst hb; exact fun e => hm (e ▸ ha)⟩
    · rcases List.mem_append.1 hk with hk | hk
      · exact h.2 k hk
      · rw [List.mem_singleton] at hk; exact hk ▸ hn

mutual
theorem VarsOk.vars : ∀ (t : T) {V : List Int}, VarsOk V → t.formed = true → VarsOk (T.vars t V)
  | .mk k n s l, V, h, hf => by
    rw [T.vars]
    by_cases h1 : k = 1
    · subst h1
      rw [if_pos rfl]
      exact h.one (formed_var hf).1
    · rw [if_neg h1]
      rcases formed_args hf with ⟨_, hl⟩ | ⟨_, rfl⟩
      · exact VarsOk.varsL l h hl
      · rw [T.varsL]; exact h
theorem VarsOk.varsL : ∀ (l : List T) {V : List Int}, VarsOk V → T.formedL l = true → VarsOk (T.varsL l V)
  | [], V, h, _ => by rw [T.varsL]; exact h
  | x :: xs, V, h, hf => by
    rw [T.formedL, Bool.and_eq_true] at hf
    rw [T.varsL]
    exact VarsOk.varsL xs (VarsOk.vars x h hf.1) hf.2
end

/-! ### Bodies and clauses -/
def sTrue : List UInt8 := [116, 114, 117, 101]
def sCallT : List UInt8 := [99, 97, 108, 108]
def sNeck : List UInt8 := [58, 45]
def T.isOf (t : T) (s : List UInt8) (n : Int) : Bool := (decide (t.k = 4) || decide (t.k = 3)) && decide (t.s = s) && decide ((t.l.length : Int) = n)
def T.joins (t : T) : Bool := t.isOf [44] 2 || t.isOf [59] 2 || t.isOf [45, 62] 2

mutual
/-- A term as a body. -/
def T.body : T → Option T
  | .mk k n s l =>
    if k = 1 then some (compT sCallT [.mk k n s l])
    else if k = 2 then none
    else if (T.mk k n s l).joins then (T.bodyL l).map (compT s)
    else some (.mk k n s l)
def T.bodyL : List T → Option (List T)
  | [] => some []
  | x :: xs => match T.body x, T.bodyL xs with
    | some y, some ys => some (y :: ys)
    | _, _ => none
end

mutual
theorem formed_mapped (f : Int → T) (hf : ∀ n, 0 ≤ n → n ≤ 1099511627776 → (f n).formed = true) : ∀ t : T, t.formed = true → (T.map f t).formed = true
  | .mk k n s l, h => by
    rw [T.map]
    by_cases h1 : k = 1
    · subst h1
      rw [if_pos rfl]
      exact hf n (formed_var h).1.1 (formed_var h).1.2
    · rw [if_neg h1]
      by_cases h4 : k = 4
      · subst h4
        rw [if_pos rfl]
        rw [T.formed] at h ⊢
        simp only [show ¬ (4 : Int) = 1 by decide, show ¬ (4 : Int) = 2 by decide, show ¬ (4 : Int) = 3 by decide, if_false, if_true, Bool.and_eq_true, decide_eq_true_eq, T.mapL_length] at h ⊢
        exact ⟨h.1, formedL_mapped f hf l h.2⟩
      · rw [if_neg h4]
        rcases formed_args h with ⟨h5, _⟩ | ⟨_, rfl⟩
        · exact absurd h5 h4
        · exact h
theorem formedL_mapped (f : Int → T) (hf : ∀ n, 0 ≤ n → n ≤ 1099511627776 → (f n).formed = true) : ∀ l : List T, T.formedL l = true → T.formedL (T.mapL f l) = true
  | [], _ => by rw [T.mapL, T.formedL]
  | x :: xs, h => by
    rw [T.formedL, Bool.and_eq_true] at h
    rw [T.mapL, T.formedL, Bool.and_eq_true]
    exact ⟨formed_mapped f hf x h.1, formedL_mapped f hf xs h.2⟩
end

theorem varT_formed {n : Int} (h : 0 ≤ n ∧ n ≤ 1099511627776) : (varT n).formed = true := by
  rw [varT, T.formed]; simp [h.1, h.2]

theorem swapF_formed {V : List Int} (hV : VarsOk V) (n : Int) (h0 : 0 ≤ n) (h1 : n ≤ 1099511627776) : (swapF 0 V n).formed = true := by
  rw [swapF]
  split
  · rename_i hm
    have h2 := List.idxOf_lt_length_of_mem hm
    have h3 := hV.len
    exact varT_formed ⟨by omega, by omega⟩
  · exact varT_formed ⟨h0, h1⟩

theorem formed_two {s : List UInt8} {x y : T} (hs : s.length ≤ 100) (hx : x.formed = true) (hy : y.formed = true) : (compT s [x, y]).formed = true := by
  rw [compT, T.formed, T.formedL, T.formedL, T.formedL]
  simp [hs, hx, hy]
theorem formed_one {s : List UInt8} {x : T} (hs : s.length ≤ 100) (hx : x.formed = true) : (compT s [x]).formed = true := by
  rw [compT, T.formed, T.formedL, T.formedL]
  simp [hs, hx]
theorem formed_atom {s : List UInt8} (hs : s.length ≤ 100) : (atomT s).formed = true := by
  rw [atomT, T.formed]; simp [hs]
theorem formed_two_inv {s : List UInt8} {k n : Int} {x y : T} (h : (T.mk k n s [x, y]).formed = true) : k = 4 ∧ n = 0 ∧ s.length ≤ 100 ∧ x.formed = true ∧ y.formed = true := by
  rcases formed_args h with ⟨rfl, hl⟩ | ⟨_, hl⟩
  · rw [T.formedL, T.formedL, T.formedL] at hl
    rw [T.formed] at h
    simp at h hl
    exact ⟨rfl, h.1.1, h.1.2, hl.1, hl.2⟩
  · cases hl

theorem isOf_two {t : T} {s : List UInt8} (h : t.isOf s 2 = true) : ∃ k n x y, t = .mk k n s [x, y] := by
  obtain ⟨k, n, s', l⟩ := t
  simp only [T.isOf, Bool.and_eq_true] at h
  obtain ⟨⟨_, hs⟩, hl⟩ := h
  obtain rfl : s' = s := of_decide_eq_true hs
  replace hl : (l.length : Int) = 2 := of_decide_eq_true hl
  match l, hl with
  | [x, y], _ => exact ⟨k, n, x, y, rfl⟩
  | [], hl => simp at hl
  | [_], hl => simp at hl
  | _ :: _ :: _ :: _, hl => simp at hl; omega
theorem joins_two {t : T} (h : t.joins = true) : ∃ k n s x y, t = .mk k n s [x, y] := by
  simp only [T.joins, Bool.or_eq_true] at h
  rcases h with (h | h) | h
  · obtain ⟨k, n, x, y, rfl⟩ := isOf_two h; exact ⟨_, _, _, _, _, rfl⟩
  · obtain ⟨k, n, x, y, rfl⟩ := isOf_two h; exact ⟨_, _, _, _, _, rfl⟩
  · obtain ⟨k, n, x, y, rfl⟩ := isOf_two h; exact ⟨_, _, _, _, _, rfl⟩

theorem body_var (n : Int) (s : List UInt8) (l : List T) : T.body (.mk 1 n s l) = some (compT sCallT [.mk 1 n s l]) := by rw [T.body, if_pos rfl]
theorem body_int (n : Int) (s : List UInt8) (l : List T) : T.body (.mk 2 n s l) = none := by rw [T.body, if_neg (by decide), if_pos rfl]
theorem body_plain {k n : Int} {s : List UInt8} {l : List T} (h1 : k ≠ 1) (h2 : k ≠ 2) (hj : (T.mk k n s l).joins = false) : T.body (.mk k n s l) = some (.mk k n s l) := by
  rw [T.body, if_neg h1, if_neg h2, hj]; rfl
theorem body_joins {k n : Int} {s : List UInt8} {x y : T} (h1 : k ≠ 1) (h2 : k ≠ 2) (hj : (T.mk k n s [x, y]).joins = true) : T.body (.mk k n s [x, y]) = match T.body x, T.body y with
    | some a, some b => some (compT s [a, b])
    | _, _ => none := by
  rw [T.body, if_neg h1, if_neg h2, if_pos hj, T.bodyL, T.bodyL, T.bodyL]
  cases T.body x <;> cases T.body y <;> rfl

theorem body_formed (N : Nat) : ∀ (t u : T), SizeOf.sizeOf t ≤ N → t.formed = true → T.body t = some u → u.formed = true := by
  induction N with
  | zero => intro t u h; cases t; simp at h
  | succ N ih =>
    intro t u hN hf hb
    by_cases hk1 : t.k = 1
    · obtain ⟨k, n, s, l⟩ := t
      obtain rfl : k = 1 := hk1
      rw [body_var] at hb
      cases hb
      exact formed_one (by decide) hf
    by_cases hk2 : t.k = 2
    · obtain ⟨k, n, s, l⟩ := t
      obtain rfl : k = 2 := hk2
      rw [body_int] at hb
      cases hb
    cases hj : t.joins with
    | false =>
      obtain ⟨k, n, s, l⟩ := t
      rw [body_plain (show k ≠ 1 from hk1) (show k ≠ 2 from hk2) hj] at hb
      cases hb
      exact hf
    | true =>
      obtain ⟨k, n, s, x, y, rfl⟩ := joins_two hj
      obtain ⟨_, _, hs, hx, hy⟩ := formed_two_inv hf
      rw [body_joins (show k ≠ 1 from hk1) (show k ≠ 2 from hk2) hj] at hb
      simp only [T.mk.sizeOf_spec, List.cons.sizeOf_spec, List.nil.sizeOf_spec] at hN
      cases ha : T.body x with
      | none => rw [ha] at hb; cases hb
      | some a =>
        cases hc : T.body y with
        | none => rw [ha, hc] at hb; cases hb
        | some c =>
          rw [ha, hc] at hb
          cases hb
          exact formed_two hs (ih x a (by omega) hx ha) (ih y c (by omega) hy hc)

/-- The parts of a clause as a term. -/
def T.parts (t : T) : T × T := if t.isOf sNeck 2 then (t.l.getD 0 zeroT, t.l.getD 1 zeroT) else (t, atomT sTrue)
def T.callable (t : T) : Bool := decide (t.k = 3) || decide (t.k = 4)
/-- A term as a clause; res: is a predicate reserved? -/
def T.make (res : List UInt8 → Int → Bool) (t : T) : Option (T × T) :=
  match T.body t.parts.2 with
  | none => none
  | some b => if t.parts.1.callable && !res t.parts.1.s (t.parts.1.l.length : Int) then some (T.map (swapF 0 (T.varsL [t.parts.1, b] [])) t.parts.1, T.map (swapF 0 (T.varsL [t.parts.1, b] [])) b) else none
/-- A clause as a term. -/
def clauseT (h b : T) : T := if b.isOf sTrue 0 then h else compT sNeck [h, b]
def plainErr (res : List UInt8 → Int → Bool) (h b : T) : Int :=
  if h.formed && b.formed then (match T.make res (clauseT h b) with
    | none => 7
    | some (h', b') => if T.same h' h && T.same b' b then 0 else 7) else 2

theorem body_true : T.body (atomT sTrue) = some (atomT sTrue) := by
  rw [atomT]; exact body_plain (by decide) (by decide) (by decide)

theorem parts_formed {t : T} (h : t.formed = true) : t.parts.1.formed = true ∧ t.parts.2.formed = true := by
  rw [T.parts]
  split
  · rename_i hi
    obtain ⟨k, n, x, y, rfl⟩ := isOf_two hi
    obtain ⟨_, _, _, hx, hy⟩ := formed_two_inv h
    exact ⟨hx, hy⟩
  · exact ⟨h, formed_atom (by decide)⟩
theorem clause_formed {h b : T} (hh : h.formed = true) (hb : b.formed = true) : (clauseT h b).formed = true := by
  rw [clauseT]
  split
  · exact hh
  · exact formed_two (by decide) hh hb
theorem make_formed {res : List UInt8 → Int → Bool} {t h b : T} (hf : t.formed = true) (hm : T.make res t = some (h, b)) : h.formed = true ∧ b.formed = true := by
  obtain ⟨p1, p2⟩ := parts_formed hf
  rw [T.make] at hm
  cases hb : T.body t.parts.2 with
  | none => rw [hb] at hm; cases hm
  | some u =>
    have hu := body_formed _ _ _ (Nat.le_refl _) p2 hb
    rw [hb] at hm
    simp only at hm
    split at hm
    · have hV : VarsOk (T.varsL [t.parts.1, u] []) := VarsOk.varsL _ VarsOk.nil (by rw [T.formedL, T.formedL, T.formedL, p1, hu]; rfl)
      cases hm
      exact ⟨formed_mapped _ (swapF_formed hV) _ p1, formed_mapped _ (swapF_formed hV) _ hu⟩
    · cases hm

end Go.Proofs.YtjdoflfdlhpbmaaGreat

namespace Go.Proofs.YtjdoflfdlhpbmaaGreat
open Go.RowKit

theorem isOf_eq (t : Tm) (s : ByteArray) (n : Int) : t.erase.isOf s.toList n = ((t.k == 4 || t.k == 3) && (t.s.toList == s.toList) && ((t.l.length : Int) == n)) := by
  obtain ⟨k, n', s', p, c, l⟩ := t
  have h1 : (s'.toList == s.toList) = decide (s'.toList = s.toList) := by rw [Bool.eq_iff_iff]; simp
  show _ = ((k == 4 || k == 3) && (s'.toList == s.toList) && ((l.length : Int) == n))
  rw [h1, ← Tm.eraseL_length l]
  rfl

set_option maxHeartbeats 1000000 in
set_option maxRecDepth 100000 in
theorem is_calls (t : Tm) (s : ByteArray) (n : Int) (w : World) : Calls Tryz.prog 20 #[t.val, .string s, .int .i64 n] w (Ret (.bool (t.erase.isOf s.toList n)) w) := by
  have hR : Hid (∀ b, t.erase.isOf s.toList n = b → ∀ w', Gr w w' → Ret (.bool (t.erase.isOf s.toList n)) w (.returned (.bool b)) w') := fun b hb w' hg => ⟨by rw [hb], hg⟩
  rw [isOf_eq] at hR ⊢
  generalize hQ : Ret _ w = Q at hR ⊢
  clear hQ
  obtain ⟨k, n', s', p, c, l⟩ := t
  simp only [Tm.val, Tm.k, Tm.n, Tm.s, Tm.p, Tm.c, Tm.l] at hR ⊢
  cases h4 : (k == 4) <;> cases h3 : (k == 3) <;> cases hs : (s'.toList == s.toList) <;> cases hl : ((l.length : Int) == n) <;> rw [h4, h3, hs, hl] at hR
  all_goals
    go_enter Tryz.func20, Tryz.ntmps20
    go_wp2_with fail
    exact hR.out _ rfl _ (by go_grown)


set_option maxHeartbeats 1000000 in
theorem callable_calls (t : Tm) (w : World) : Calls Tryz.prog 22 #[t.val] w (Ret (.bool t.erase.callable) w) := by
  have hc : t.erase.callable = (t.k == 3 || t.k == 4) := by obtain ⟨k, n', s', p, c, l⟩ := t; rfl
  rw [hc]
  have hR : Hid (∀ b, (t.k == 3 || t.k == 4) = b → ∀ w', Gr w w' → Ret (.bool (t.k == 3 || t.k == 4)) w (.returned (.bool b)) w') := fun b hb w' hg => ⟨by rw [hb], hg⟩
  generalize hQ : Ret _ w = Q at hR ⊢
  clear hQ hc
  obtain ⟨k, n', s', p, c, l⟩ := t
  simp only [Tm.val, Tm.k, Tm.n, Tm.s, Tm.p, Tm.c, Tm.l] at hR ⊢
  cases h3 : (k == 3) <;> cases h4 : (k == 4) <;> rw [h3, h4] at hR
  all_goals
    go_enter Tryz.func22, Tryz.ntmps22
    go_wp2_with fail
    exact hR.out _ rfl _ (by go_grown)

theorem atomR_calls (s : ByteArray) (w : World) : Calls Tryz.prog 16 #[.string s] w (Ret (.agg #[.int .i64 3, .int .i64 0, .string s, .slice none 0 0]) w) := by
  go_enter Tryz.func16, Tryz.ntmps16
  go_wp2_with fail
  exact bodyPost_ret (v := .agg #[.int .i64 3, .int .i64 0, .string s, .slice none 0 0]) (by simp [results, Tryz.results16, go_sem]) rfl ⟨rfl, by go_grown⟩

end Go.Proofs.YtjdoflfdlhpbmaaGreat

namespace Go.Proofs.YtjdoflfdlhpbmaaGreat
open Go.RowKit

def cmpI (a b : Int) : Int := if a < b then -1 else if b < a then 1 else 0
theorem cmpI_lt {a b : Int} (h : a < b) : cmpI a b = -1 := by simp [cmpI, h]
theorem cmpI_gt {a b : Int} (h : b < a) : cmpI a b = 1 := by unfold cmpI; rw [if_neg (by omega), if_pos h]
theorem cmpI_eq {a b : Int} (h : a ≤ b) (h' : b ≤ a) : cmpI a b = 0 := by unfold cmpI; rw [if_neg (by omega), if_neg (by omega)]
def RetSame (v : Value) (w : World) (e : Ending) (w' : World) : Prop := e = .returned v ∧ w = w'

theorem ret_same {a b : Int} {w : World} (h : a = b) : RetSame (.int .i64 b) w (.returned (.int .i64 a)) w := ⟨by rw [h], rfl⟩

set_option maxHeartbeats 400000 in
theorem isNaN_int (a : Int) (w : World) : Calls Tryz.prog 83 #[.int .i64 a] w fun e w' => e = .returned (.bool false) ∧ w = w' := by
  go_enter Tryz.func83, Tryz.ntmps83
  go_wp2_with fail
  go_ret
  exact ⟨by simp, rfl⟩

set_option maxHeartbeats 400000 in
theorem isNaN_int64 (a : Int) (w : World) : Calls Tryz.prog 85 #[.int .i64 a] w fun e w' => e = .returned (.bool false) ∧ w = w' := by
  go_enter Tryz.func85, Tryz.ntmps85
  go_wp2_with fail
  go_ret
  exact ⟨by simp, rfl⟩

set_option maxHeartbeats 400000 in
theorem compare_int (a b : Int) (w : World) : Calls Tryz.prog 70 #[.int .i64 a, .int .i64 b] w (RetSame (.int .i64 (cmpI a b)) w) := by
  go_enter Tryz.func70, Tryz.ntmps70
  go_wp2_with (go_at_call 83; refine (isNaN_int _ _).mono ?_; rintro e w' ⟨rfl, rfl⟩)
  all_goals
    go_ret
    first | exact ret_same (cmpI_lt (by assumption)).symm | exact ret_same (cmpI_gt (by assumption)).symm | exact ret_same (cmpI_eq (by assumption) (by assumption)).symm

set_option maxHeartbeats 400000 in
theorem compare_int64 (a b : Int) (w : World) : Calls Tryz.prog 74 #[.int .i64 a, .int .i64 b] w (RetSame (.int .i64 (cmpI a b)) w) := by
  go_enter Tryz.func74, Tryz.ntmps74
  go_wp2_with (go_at_call 85; refine (isNaN_int64 _ _).mono ?_; rintro e w' ⟨rfl, rfl⟩)
  all_goals
    go_ret
    first | exact ret_same (cmpI_lt (by assumption)).symm | exact ret_same (cmpI_gt (by assumption)).symm | exact ret_same (cmpI_eq (by assumption) (by assumption)).symm

set_option maxHeartbeats 400000 in
/-- cmp.Or of two numbers. -/
theorem or_two (x y : Int) (b o : Nat) (w : World) (h0 : w.cell? ⟨b, o, none⟩ = some (.int .i64 x)) (h1 : w.cell? ⟨b, o + 1, none⟩ = some (.int .i64 y)) :
    Calls Tryz.prog 72 #[.slice (some ⟨b, o, none⟩) 2 2] w (RetSame (.int .i64 (if x = 0 then y else x)) w) := by
  by_cases hx : x = 0
  · subst hx
    by_cases hy : y = 0
    · subst hy
      go_enter Tryz.func72, Tryz.ntmps72
      go_wp2_with fail
      go_rounds 3
      go_ret
      exact ret_same (by simp)
    · have hy' : (y != 0) = true := by simp [hy]
      go_enter Tryz.func72, Tryz.ntmps72
      go_wp2_with fail
      go_rounds 3
      go_ret
      exact ret_same (by simp)
  · have hx' : (x != 0) = true := by simp [hx]
    rw [if_neg hx]
    go_enter Tryz.func72, Tryz.ntmps72
    go_wp2_with fail
    go_rounds 3
    go_ret
    exact ret_same rfl

theorem strings_compare (a b : ByteArray) (w : World) : Calls Tryz.prog 71 #[.string a, .string b] w (RetSame (.int .i64 (Lib.compareBytes a.toList b.toList)) w) := by
  rw [ByteArray.toList_eq, ByteArray.toList_eq]
  exact (Tryz.strings_Compare a b w).mono fun e w' ⟨h1, h2⟩ => ⟨h1, h2.symm⟩
end Go.Proofs.YtjdoflfdlhpbmaaGreat
