/-
  hornkeep.TermMemory's sixth function that is asked twice.
  term.Vars, whose answer is the caller's own.
  A term is the same as itself.
-/
import Derived.Test.YthncdmijledpnaaTM27
import Derived.Test.YthncdmijledpnaaTM19
import Derived.Test.YthncdmijledpnaaTM18
import Derived.Test.YthncdmijledpnaaTM10
import Derived.BigQuiet
import Derived.Test.YthncdmijledpnaaTM03
namespace Go.Proofs.Ythncdmijledpnaa
open Go.RowKit Go.Maps Go.Lib

theorem asc_see : ∀ (l l' : List Bd) (n : Int), seeBds l = seeBds l' → ascB n l = ascB n l'
  | [], [], _, _ => rfl
  | [], _ :: _, _, h => by simp [seeBds] at h
  | _ :: _, [], _, h => by simp [seeBds] at h
  | x :: xs, y :: ys, n, h => by
    simp only [seeBds, List.map_cons, List.cons.injEq, Prod.mk.injEq] at h
    rw [ascB, ascB, h.1.1, asc_see xs ys _ h.2]
theorem all_see : ∀ (l l' : List Bd), seeBds l = seeBds l' → (l.all fun y => y.t.erase.formed) = (l'.all fun y => y.t.erase.formed)
  | [], [], _ => rfl
  | [], _ :: _, h => by simp [seeBds] at h
  | _ :: _, [], h => by simp [seeBds] at h
  | x :: xs, y :: ys, h => by
    simp only [seeBds, List.map_cons, List.cons.injEq, Prod.mk.injEq] at h
    rw [List.all_cons, List.all_cons, h.1.2, all_see xs ys h.2]
theorem lookup_see : ∀ (l l' : List Bd), seeBds l = seeBds l' → lookupT l = lookupT l'
  | [], [], _ => rfl
  | [], _ :: _, h => by simp [seeBds] at h
  | _ :: _, [], h => by simp [seeBds] at h
  | x :: xs, y :: ys, h => by
    simp only [seeBds, List.map_cons, List.cons.injEq, Prod.mk.injEq] at h
    funext n
    rw [lookupT, lookupT, h.1.1, h.1.2, lookup_see xs ys h.2]
theorem ap_see {a : T} {l l' : List Bd} (h : seeBds l = seeBds l') : apAns a l = apAns a l' := by
  have e : applyErr a l = applyErr a l' := by unfold applyErr bindsErr; rw [all_see _ _ h, asc_see _ _ _ h]
  rw [apAns, apAns, e, lookup_see _ _ h]
/-- What is composed lets a term become one term. -/
theorem comp_uniq (a : T) (s u : List Bd) : ∃ U, ∀ l : List Bd, (compErr s u ≠ 0 → l = []) → (compErr s u = 0 → IsBinds (compM s u) l) → apAns a l = U := by
  by_cases h : ∃ l : List Bd, (compErr s u ≠ 0 → l = []) ∧ (compErr s u = 0 → IsBinds (compM s u) l)
  · obtain ⟨l0, h1, h2⟩ := h
    refine ⟨apAns a l0, fun l h3 h4 => ?_⟩
    by_cases hc : compErr s u = 0
    · exact ap_see ((h4 hc).uniq (h2 hc))
    · rw [h3 hc, h1 hc]
  · exact ⟨zeroT, fun l h3 h4 => absurd ⟨l, h3, h4⟩ h⟩

/-- What stands while the region goes by: operation 3's answer C, operation 4's term, its copies; the block of operation 8 that operation 9 fills. -/
structure TmJ (U : T) (B0 : Nat) (C : Value → World → Prop) (listed : Array Bool) (a : Act) (w : World) : Prop where
  sz : a.tmps.size = 15
  o9 : listed.getD 9 false = true → listed.getD 4 false = true ∧ listed.getD 8 false = true
  gr : B0 ≤ w.heap.size
  od : (listed.getD 5 false = true → listed.getD 4 false = true) ∧ (listed.getD 6 false = true → listed.getD 4 false = true) ∧ (listed.getD 4 false = true → listed.getD 3 false = true)
  c : listed.getD 3 false = true → listed.getD 4 false = false → C (a.tmps[10]?.getD undef) w
  q : listed.getD 8 false = true → ∃ B, a.tmps[4]?.getD undef = .pointer (some ⟨B, 0, none⟩) ∧ B0 ≤ B ∧ B < w.heap.size ∧ (listed.getD 9 false = false → Blk4 w B (.int .i64 0) (.int .i64 0) (.string ⟨#[]⟩) (.slice none 0 0))
  x : listed.getD 4 false = true → ∃ (x : Tm) (e : Int), x.In w ∧ x.erase = U ∧ x.Mine w ∧ x.On (B0 ≤ ·) ∧ a.tmps[11]?.getD undef = .tuple #[x.val, .int .i64 e] ∧ (listed.getD 5 false = true → a.tmps[6]?.getD undef = .tuple #[x.val, .int .i64 e]) ∧ (listed.getD 6 false = true → a.tmps[12]?.getD undef = x.val) ∧
    ∀ B, listed.getD 8 false = true → a.tmps[4]?.getD undef = .pointer (some ⟨B, 0, none⟩) → x.On (· ≠ B) ∧ (listed.getD 9 false = true → BlkTm w B x)
section
variable {U : T} {B0 : Nat} {C : Value → World → Prop} {listed : Array Bool} {a : Act} {w w' : World}
theorem rep_f (m i : Nat) : (Array.replicate m false).getD i false = false := by
  rw [Array.getD_eq_getD_getElem?, Array.getElem?_replicate]
  split <;> rfl
theorem rep_t {m i : Nat} (h : i < m) : (Array.replicate m true).getD i false = true := by
  rw [Array.getD_eq_getD_getElem?, Array.getElem?_replicate, if_pos h]; rfl
theorem ptr_inj {B B' : Nat} (h : Value.pointer (some ⟨B, 0, none⟩) = .pointer (some ⟨B', 0, none⟩)) : B = B' := by cases h; rfl
theorem TmJ.start (m : Nat) (a : Act) (w : World) (h : a.tmps.size = 15) (hg : B0 ≤ w.heap.size) : TmJ U B0 C (Array.replicate m false) a w :=
  ⟨h, (fun h => by rw [rep_f] at h; cases h), hg, ⟨(fun h => by rw [rep_f] at h; cases h), (fun h => by rw [rep_f] at h; cases h), (fun h => by rw [rep_f] at h; cases h)⟩, (fun h => by rw [rep_f] at h; cases h), (fun h => by rw [rep_f] at h; cases h), (fun h => by rw [rep_f] at h; cases h)⟩
theorem TmJ.other (hC : ∀ v w w', C v w → Gr w w' → C v w') {i : Nat} {t : Option Tmp} (hi : (i != 3 && i != 4 && i != 5 && i != 6 && i != 8 && i != 9 && t != some 10 && t != some 4 && t != some 11 && t != some 6 && t != some 12) = true) (listed : Array Bool) (a : Act) (w w' : World) (v : Value) (h : TmJ U B0 C listed a w) (hg : Gr w w') :
    TmJ U B0 C (listed.setIfInBounds i true) (a.put t v) w' := by
  simp only [Bool.and_eq_true, bne_iff_ne] at hi
  obtain ⟨⟨⟨⟨⟨⟨⟨⟨⟨⟨h3, h4⟩, h5⟩, h6⟩, h8⟩, h9⟩, t10⟩, t4⟩, t11⟩, t6⟩, t12⟩ := hi
  refine ⟨by rw [put_size]; exact h.sz, ?_, Nat.le_trans h.gr hg.size, ?_, ?_, ?_, ?_⟩
  all_goals simp only [getD_set_ne false h3, getD_set_ne false h4, getD_set_ne false h5, getD_set_ne false h6, getD_set_ne false h8, getD_set_ne false h9, put_ne t10, put_ne t4, put_ne t11, put_ne t6, put_ne t12]
  · exact h.o9
  · exact h.od
  · exact fun k1 k2 => hC _ _ _ (h.c k1 k2) hg
  · exact fun k => by
      obtain ⟨B, e1, e2, e3, e4⟩ := h.q k
      exact ⟨B, e1, e2, Nat.lt_of_lt_of_le e3 hg.size, fun k => (e4 k).gr hg⟩
  · exact fun k => by
      obtain ⟨x, e, x1, x2, x3, x4, x5, x6, x7, x8⟩ := h.x k
      exact ⟨x, e, Tm.In_below hg x1, x2, x3.gr x1 hg, x4, x5, x6, x7, fun B k8 hB => ⟨(x8 B k8 hB).1, fun k9 => ((x8 B k8 hB).2 k9).gr hg⟩⟩
theorem TmJ.s3 (h : TmJ U B0 C listed a w) (hl : listed.getD 3 true = false) (hg : Gr w w') {v : Value} (hv : C v w') : TmJ U B0 C (listed.setIfInBounds 3 true) (a.put (some 10) v) w' := by
  have h4 : listed.getD 4 false = false := by
    cases h9 : listed.getD 4 false with
    | false => rfl
    | true => have := h.od.2.2 h9; rw [getD_tf hl] at this; cases this
  refine ⟨by rw [put_size]; exact h.sz, ?_, Nat.le_trans h.gr hg.size, ?_, fun _ _ => by rw [put_at (by rw [h.sz]; decide)]; exact hv, ?_, ?_⟩
  all_goals simp only [getD_set_ne false (show (3 : Nat) ≠ 4 by decide), getD_set_ne false (show (3 : Nat) ≠ 8 by decide), getD_set_ne false (show (3 : Nat) ≠ 9 by decide), getD_set_ne false (show (3 : Nat) ≠ 5 by decide), getD_set_ne false (show (3 : Nat) ≠ 6 by decide), put_ne (show (some 10 : Option Nat) ≠ some 4 by decide)]
  · exact h.o9
  · exact ⟨h.od.1, h.od.2.1, fun _ => getD_set_eq hl⟩
  · exact fun k => by
      obtain ⟨B, e1, e2, e3, e4⟩ := h.q k
      exact ⟨B, e1, e2, Nat.lt_of_lt_of_le e3 hg.size, fun k => (e4 k).gr hg⟩
  · intro k
    rw [h4] at k; cases k
theorem TmJ.s4 (h : TmJ U B0 C listed a w) (hl : listed.getD 4 true = false) (hl3 : listed.getD 3 false = true) (hg : Gr w w') {x : Tm} {e : Int} (x1 : x.In w') (x2 : x.erase = U) (x3 : x.Mine w') (x4 : x.On (w.heap.size ≤ ·)) :
    TmJ U B0 C (listed.setIfInBounds 4 true) (a.put (some 11) (.tuple #[x.val, .int .i64 e])) w' := by
  have hn9 : listed.getD 9 false = false := by
    cases h9 : listed.getD 9 false with
    | false => rfl
    | true => have := (h.o9 h9).1; rw [getD_tf hl] at this; cases this
  have h5 : listed.getD 5 false = false := by
    cases h9 : listed.getD 5 false with
    | false => rfl
    | true => have := h.od.1 h9; rw [getD_tf hl] at this; cases this
  have h6 : listed.getD 6 false = false := by
    cases h9 : listed.getD 6 false with
    | false => rfl
    | true => have := h.od.2.1 h9; rw [getD_tf hl] at this; cases this
  refine ⟨by rw [put_size]; exact h.sz, ?_, Nat.le_trans h.gr hg.size, ⟨fun _ => getD_set_eq hl, fun _ => getD_set_eq hl, fun _ => by rw [getD_set_ne false (by decide)]; exact hl3⟩, ?_, ?_, fun _ => ⟨x, e, x1, x2, x3, x4.mono fun b hb => Nat.le_trans h.gr hb, by rw [put_at (by rw [h.sz]; decide)], ?_, ?_, ?_⟩⟩
  · rw [getD_set_ne false (by decide), hn9]; intro k; cases k
  · intro _ k; rw [getD_set_eq hl] at k; cases k
  · rw [getD_set_ne false (by decide), getD_set_ne false (by decide), put_ne (by decide)]
    exact fun k => by
      obtain ⟨B, e1, e2, e3, e4⟩ := h.q k
      exact ⟨B, e1, e2, Nat.lt_of_lt_of_le e3 hg.size, fun k => (e4 k).gr hg⟩
  · rw [getD_set_ne false (by decide), h5]; intro k; cases k
  · rw [getD_set_ne false (by decide), h6]; intro k; cases k
  · intro B k8 hB
    rw [getD_set_ne false (by decide)] at k8
    rw [put_ne (by decide)] at hB
    obtain ⟨B', e1, e2, e3, e4⟩ := h.q k8
    obtain rfl := ptr_inj (hB.symm.trans e1)
    refine ⟨x4.mono fun b hb => by omega, fun k => ?_⟩
    rw [getD_set_ne false (by decide), hn9] at k; cases k
theorem TmJ.s5 (h : TmJ U B0 C listed a w) (h4 : listed.getD 4 false = true) {v : Value} (hv : a.tmps[11]?.getD undef = v) : TmJ U B0 C (listed.setIfInBounds 5 true) (a.put (some 6) v) w := by
  refine ⟨by rw [put_size]; exact h.sz, ?_, h.gr, ?_, ?_, ?_, ?_⟩
  all_goals simp only [getD_set_ne false (show (5 : Nat) ≠ 3 by decide), getD_set_ne false (show (5 : Nat) ≠ 4 by decide), getD_set_ne false (show (5 : Nat) ≠ 6 by decide), getD_set_ne false (show (5 : Nat) ≠ 8 by decide), getD_set_ne false (show (5 : Nat) ≠ 9 by decide), put_ne (show (some 6 : Option Nat) ≠ some 10 by decide), put_ne (show (some 6 : Option Nat) ≠ some 4 by decide), put_ne (show (some 6 : Option Nat) ≠ some 11 by decide), put_ne (show (some 6 : Option Nat) ≠ some 12 by decide)]
  · exact h.o9
  · exact ⟨fun _ => h4, h.od.2.1, h.od.2.2⟩
  · intro _ k; rw [h4] at k; cases k
  · exact h.q
  · exact fun k => by
      obtain ⟨x, e, x1, x2, x3, x4, x5, x6, x7, x8⟩ := h.x k
      exact ⟨x, e, x1, x2, x3, x4, x5, fun _ => by rw [put_at (by rw [h.sz]; decide), ← hv]; exact x5, x7, x8⟩
theorem TmJ.s6 (h : TmJ U B0 C listed a w) (h4 : listed.getD 4 false = true) {v : Value} (hv : ∀ (x : Tm) (e : Int), a.tmps[11]?.getD undef = .tuple #[x.val, .int .i64 e] → v = x.val) : TmJ U B0 C (listed.setIfInBounds 6 true) (a.put (some 12) v) w := by
  refine ⟨by rw [put_size]; exact h.sz, ?_, h.gr, ?_, ?_, ?_, ?_⟩
  all_goals simp only [getD_set_ne false (show (6 : Nat) ≠ 3 by decide), getD_set_ne false (show (6 : Nat) ≠ 4 by decide), getD_set_ne false (show (6 : Nat) ≠ 5 by decide), getD_set_ne false (show (6 : Nat) ≠ 8 by decide), getD_set_ne false (show (6 : Nat) ≠ 9 by decide), put_ne (show (some 12 : Option Nat) ≠ some 10 by decide), put_ne (show (some 12 : Option Nat) ≠ some 4 by decide), put_ne (show (some 12 : Option Nat) ≠ some 11 by decide), put_ne (show (some 12 : Option Nat) ≠ some 6 by decide)]
  · exact h.o9
  · exact ⟨h.od.1, fun _ => h4, h.od.2.2⟩
  · intro _ k; rw [h4] at k; cases k
  · exact h.q
  · exact fun k => by
      obtain ⟨x, e, x1, x2, x3, x4, x5, x6, x7, x8⟩ := h.x k
      exact ⟨x, e, x1, x2, x3, x4, x5, x6, fun _ => by rw [put_at (by rw [h.sz]; decide)]; exact hv x e x5, x8⟩
theorem TmJ.s8 (hC : ∀ v w w', C v w → Gr w w' → C v w') (h : TmJ U B0 C listed a w) (hl : listed.getD 8 true = false) (hg : Gr w w') (hlt : w.heap.size < w'.heap.size) (hz : Blk4 w' w.heap.size (.int .i64 0) (.int .i64 0) (.string ⟨#[]⟩) (.slice none 0 0)) :
    TmJ U B0 C (listed.setIfInBounds 8 true) (a.put (some 4) (.pointer (some ⟨w.heap.size, 0, none⟩))) w' := by
  have hn9 : listed.getD 9 false = false := by
    cases h9 : listed.getD 9 false with
    | false => rfl
    | true => have := (h.o9 h9).2; rw [getD_tf hl] at this; cases this
  refine ⟨by rw [put_size]; exact h.sz, ?_, Nat.le_trans h.gr hg.size, ?_, ?_, fun _ => ⟨w.heap.size, by rw [put_at (by rw [h.sz]; decide)], h.gr, hlt, fun _ => hz⟩, ?_⟩
  all_goals simp only [getD_set_ne false (show (8 : Nat) ≠ 3 by decide), getD_set_ne false (show (8 : Nat) ≠ 4 by decide), getD_set_ne false (show (8 : Nat) ≠ 5 by decide), getD_set_ne false (show (8 : Nat) ≠ 6 by decide), getD_set_ne false (show (8 : Nat) ≠ 9 by decide), put_ne (show (some 4 : Option Nat) ≠ some 10 by decide), put_ne (show (some 4 : Option Nat) ≠ some 6 by decide), put_ne (show (some 4 : Option Nat) ≠ some 11 by decide), put_ne (show (some 4 : Option Nat) ≠ some 12 by decide)]
  · rw [hn9]; intro k; cases k
  · exact h.od
  · exact fun k1 k2 => hC _ _ _ (h.c k1 k2) hg
  · exact fun k => by
      obtain ⟨x, e, x1, x2, x3, x4, x5, x6, x7, x8⟩ := h.x k
      refine ⟨x, e, Tm.In_below hg x1, x2, x3.gr x1 hg, x4, x5, x6, x7, fun B _ hB => ⟨?_, fun k9 => by rw [hn9] at k9; cases k9⟩⟩
      rw [put_at (by rw [h.sz]; decide)] at hB
      obtain rfl := ptr_inj hB
      exact x1.on.mono fun b hb => by omega
theorem TmJ.s9 (h : TmJ U B0 C listed a w) (hl : listed.getD 9 true = false) (h4 : listed.getD 4 false = true) (h8 : listed.getD 8 false = true) {B : Nat} (hB : a.tmps[4]?.getD undef = .pointer (some ⟨B, 0, none⟩)) (hk : Kp (· = B) w w') (v : Value)
    (hb : ∀ (x : Tm) (e : Int), a.tmps[11]?.getD undef = .tuple #[x.val, .int .i64 e] → BlkTm w' B x) : TmJ U B0 C (listed.setIfInBounds 9 true) (a.put none v) w' := by
  refine ⟨by rw [put_size]; exact h.sz, ?_, Nat.le_trans h.gr hk.size, ?_, ?_, ?_, ?_⟩
  all_goals simp only [getD_set_ne false (show (9 : Nat) ≠ 3 by decide), getD_set_ne false (show (9 : Nat) ≠ 4 by decide), getD_set_ne false (show (9 : Nat) ≠ 5 by decide), getD_set_ne false (show (9 : Nat) ≠ 6 by decide), getD_set_ne false (show (9 : Nat) ≠ 8 by decide), put_ne (show (none : Option Nat) ≠ some 10 by decide), put_ne (show (none : Option Nat) ≠ some 6 by decide), put_ne (show (none : Option Nat) ≠ some 11 by decide), put_ne (show (none : Option Nat) ≠ some 12 by decide), put_ne (show (none : Option Nat) ≠ some 4 by decide)]
  · exact fun _ => ⟨h4, h8⟩
  · exact h.od
  · intro _ k; rw [h4] at k; cases k
  · exact fun k => by
      obtain ⟨B', e1, e2, e3, e4⟩ := h.q k
      exact ⟨B', e1, e2, Nat.lt_of_lt_of_le e3 hk.size, fun k => by rw [getD_set_eq hl] at k; cases k⟩
  · exact fun k => by
      obtain ⟨x, e, x1, x2, x3, x4, x5, x6, x7, x8⟩ := h.x k
      have hne := (x8 B h8 hB).1
      refine ⟨x, e, kp_in x1 hne (fun b hb e => hb e) hk, x2, mine_kp x3 x1 hne (fun b hb e => hb e) hk, x4, x5, x6, x7, fun B' k8 hB' => ?_⟩
      obtain rfl := ptr_inj (hB.symm.trans hB')
      exact ⟨hne, fun _ => hb x e x5⟩
theorem TmJ.done {m : Nat} (h : TmJ U B0 C (Array.replicate m true) a w) (hm : 9 < m) {B : Nat} (hB : a.tmps[4]?.getD undef = .pointer (some ⟨B, 0, none⟩)) : B0 ≤ B ∧ ∃ x : Tm, x.In w ∧ x.erase = U ∧ x.Mine w ∧ x.On (B0 ≤ ·) ∧ BlkTm w B x := by
  obtain ⟨x, e, x1, x2, x3, x4, x5, x6, x7, x8⟩ := h.x (rep_t (by omega))
  obtain ⟨B', e1, e2, e3, e4⟩ := h.q (rep_t (by omega))
  obtain rfl := ptr_inj (hB.symm.trans e1)
  exact ⟨e2, x, x1, x2, x3, x4, (x8 B (rep_t (by omega)) hB).2 (rep_t (by omega))⟩
end
theorem tup_fst {v u e e' : Value} (h : Value.tuple #[v, e] = .tuple #[u, e']) : v = u := by cases h; rfl
theorem blk_val {k n : Int} {s : ByteArray} {p : Option Addr} {l c : Nat} {x : Tm} {w : World} {B : Nat} (h : Value.agg #[.int .i64 k, .int .i64 n, .string s, .slice p l c] = x.val) (hb : Blk4 w B (.int .i64 k) (.int .i64 n) (.string s) (.slice p l c)) : BlkTm w B x := by
  obtain ⟨k', n', s', p', c', l'⟩ := x
  rw [tm_val] at h
  cases h
  exact hb
/-- The composed binds. -/
def compV (U : T) (a : T) : Value → World → Prop := fun v w => ∃ p c l, v = .slice p (List.length l) c ∧ (Bds.mk p c l).In w ∧ apAns a l = U
theorem compV_gr {U a : T} : ∀ v w w', compV U a v w → Gr w w' → compV U a v w' := fun _ _ _ ⟨p, c, l, h1, h2, h3⟩ hg => ⟨p, c, l, h1, h2.mono hg, h3⟩
def slV : VP := fun v _ => ∃ p n c, v = .slice p n c
theorem slV_stable {R : World → World → Prop} : ∀ v w w', slV v w → R w w' → slV v w' := fun _ _ _ h _ => h
def tupV : VP := fun v _ => ∃ (k n : Int) (s : ByteArray) (p : Option Addr) (l c : Nat) (e : Int), v = .tuple #[.agg #[.int .i64 k, .int .i64 n, .string s, .slice p l c], .int .i64 e]
theorem tupV_stable {R : World → World → Prop} : ∀ v w w', tupV v w → R w w' → tupV v w' := fun _ _ _ h _ => h
def agV : VP := fun v _ => ∃ (k n : Int) (s : ByteArray) (p : Option Addr) (l c : Nat), v = .agg #[.int .i64 k, .int .i64 n, .string s, .slice p l c]
theorem agV_stable {R : World → World → Prop} : ∀ v w w', agV v w → R w w' → agV v w' := fun _ _ _ h _ => h
def intV : VP := fun v _ => ∃ n : Int, v = .int .i64 n
theorem intV_stable {R : World → World → Prop} : ∀ v w w', intV v w → R w w' → intV v w' := fun _ _ _ h _ => h

set_option maxHeartbeats 4000000 in
set_option maxRecDepth 100000 in
theorem tm6_calls (x : Tm) (Bx : Nat) (py : Option Addr) (cy : Nat) (ly : List Bd) (By : Nat) (pz : Option Addr) (cz : Nat) (lz : List Bd) (Bz : Nat) (w : World) (ix : x.In w) (hx : Blk4 w Bx (.int .i64 x.k) (.int .i64 x.n) (.string x.s) (.slice x.p x.l.length x.c)) (iy : (Bds.mk py cy ly).In w) (hy : BlkT w By 44 #[.slice py ly.length cy]) (iz : (Bds.mk pz cz lz).In w) (hz : BlkT w Bz 44 #[.slice pz lz.length cz]) (U : T) (hU : ∀ l : List Bd, (compErr ly lz ≠ 0 → l = []) → (compErr ly lz = 0 → IsBinds (compM ly lz) l) → apAns x.erase l = U) :
    Calls Try.prog 46 #[.pointer (some ⟨Bx, 0, none⟩), .pointer (some ⟨By, 0, none⟩), .pointer (some ⟨Bz, 0, none⟩)] w (RetMi (U) w) := by
  have Vx := Lib.hid (show x.val = .agg #[.int .i64 x.k, .int .i64 x.n, .string x.s, .slice x.p x.l.length x.c] from rfl)
  have Ix := Lib.hid ix
  have HBx := Lib.hid hx
  have Iy := Lib.hid iy
  have HBy := Lib.hid hy
  have Iz := Lib.hid iz
  have HBz := Lib.hid hz
  generalize hQ : RetMi (U) w = Q
  have HQ := Lib.hid hQ
  clear hQ ix hx iy hy iz hz
  go_enter Try.func46, Try.ntmps46
  try simp only [List.append_eq, List.cons_append, List.nil_append]
  go_upto_region 1 with fail
  have hR0 := Blk4.new w (.int .i64 0) (.int .i64 0) (.string ⟨#[]⟩) (.slice none 0 0)
  have gA : Gr w (w.alloc (.cells #[.int .i64 0, .int .i64 0, .string ⟨#[]⟩, .slice none 0 0] 25)) := by go_grown
  have hsA : w.heap.size < (w.alloc (.cells #[.int .i64 0, .int .i64 0, .string ⟨#[]⟩, .slice none 0 0] 25)).heap.size := by simp
  generalize w.alloc (.cells #[.int .i64 0, .int .i64 0, .string ⟨#[]⟩, .slice none 0 0] 25) = wA at *
  obtain ⟨⟨k0x, k1x, k2x, k3x⟩, _, _⟩ := (HBx.out.gr gA).parts
  have k0y := (HBy.out.gr gA).cell 0 (v := .slice py ly.length cy) rfl
  have k0z := (HBz.out.gr gA).cell 0 (v := .slice pz lz.length cz) rfl
  have HU := Lib.hid hU
  clear hU
  have nBx : ¬ wA.heap.size ≤ Bx := by have := (HBx.out.gr gA).parts.2.2; omega
  have nBy : ¬ wA.heap.size ≤ By := by have := (HBy.out.gr gA).lt; omega
  have nBz : ¬ wA.heap.size ≤ Bz := by have := (HBz.out.gr gA).lt; omega
  have HXk : Hid (∀ W, Kp (fun b => wA.heap.size ≤ b) wA W → x.In W) := fun W hk => kp_in (Tm.In_below gA Ix.out) (Tm.In_below gA Ix.out).on (fun b hb h => by omega) hk
  have HYk : Hid (∀ W, Kp (fun b => wA.heap.size ≤ b) wA W → (Bds.mk py cy ly).In W) := fun W hk => (Iy.out.mono gA).mono (hk.below (fun b h => h) (Nat.le_refl _))
  have HZk : Hid (∀ W, Kp (fun b => wA.heap.size ≤ b) wA W → (Bds.mk pz cz lz).In W) := fun W hk => (Iz.out.mono gA).mono (hk.below (fun b h => h) (Nat.le_refl _))
  refine wp_region_relyA 11 [fx (.agg #[.int .i64 x.k, .int .i64 x.n, .string x.s, .slice x.p x.l.length x.c]), fx (.slice py ly.length cy), fx (.slice pz lz.length cz), slV, tupV, tupV, agV, intV, ptrV, fx undef, intV]
    (Kp (fun b => wA.heap.size ≤ b)) (TmJ U wA.heap.size (compV U x.erase)) (by kernel_rfl) (by kernel_rfl) (by decide) (by kernel_rfl) (fun _ _ h => Kp.of_gr h) (fun _ _ _ h k => Kp.trans h k) (fun w hw => TmJ.start _ _ w rfl hw.size) (by repeat (first | exact StableR.nil | refine StableR.fix ?_ | refine StableR.cons slV_stable ?_ | refine StableR.cons tupV_stable ?_ | refine StableR.cons agV_stable ?_ | refine StableR.cons intV_stable ?_ | refine StableR.cons ptrV_stable ?_)) ?_ ?_
  · refine ⟨stepA_plain (fun _ _ h => Kp.of_gr h) (fun listed a w w' v h hg => TmJ.other compV_gr rfl listed a w w' v h hg) ?_, stepA_plain (fun _ _ h => Kp.of_gr h) (fun listed a w w' v h hg => TmJ.other compV_gr rfl listed a w w' v h hg) ?_, stepA_plain (fun _ _ h => Kp.of_gr h) (fun listed a w w' v h hg => TmJ.other compV_gr rfl listed a w w' v h hg) ?_, ?a3, ?a4, ?a5, ?a6, stepA_plain (fun _ _ h => Kp.of_gr h) (fun listed a w w' v h hg => TmJ.other compV_gr rfl listed a w w' v h hg) ?b7, ?a8, ?a9, stepA_plain (fun _ _ h => Kp.of_gr h) (fun listed a w w' v h hg => TmJ.other compV_gr rfl listed a w w' v h hg) ?b10, trivial⟩
    case a3 =>
      intro listed fr wr hj hl hpre hg hdef hold
      have h0 : fr.tmps[0]?.getD undef = .pointer (some ⟨Bx, 0, none⟩) := hold 0 rfl
      have h1 : fr.tmps[1]?.getD undef = .pointer (some ⟨By, 0, none⟩) := hold 1 rfl
      have h2 : fr.tmps[2]?.getD undef = .pointer (some ⟨Bz, 0, none⟩) := hold 2 rfl
      have z0 := Kp.cell hg k0x nBx
      have z1 := Kp.cell hg k1x nBx
      have z2 := Kp.cell hg k2x nBx
      have z3 := Kp.cell hg k3x nBx
      have z4 := Kp.cell hg k0y nBy
      have z5 := Kp.cell hg k0z nBz
      have Hg := Lib.hid hg
      clear hold k0x k1x k2x k3x k0y k0z
      clear hdef
      simp [predsImp, Region.binds, dstAt, fx]
      intros
      rename_i K hK
      go_simp
      refine (composed_calls py pz cy cz ly lz _ (HYk.out _ Hg.out) (HZk.out _ Hg.out)).mono ?_
      rintro e w9 ⟨pc, cc, lc, rfl, ic, gc, hc1, hc2⟩
      exact hK _ _ ⟨_, _, _, rfl⟩ (Kp.of_gr gc) (TmJ.s3 hj hl gc ⟨_, _, _, rfl, ic, HU.out lc hc1 hc2⟩)
    case a4 =>
      intro listed fr wr hj hl hpre hg hdef hold
      have h0 : fr.tmps[0]?.getD undef = .pointer (some ⟨Bx, 0, none⟩) := hold 0 rfl
      have h1 : fr.tmps[1]?.getD undef = .pointer (some ⟨By, 0, none⟩) := hold 1 rfl
      have h2 : fr.tmps[2]?.getD undef = .pointer (some ⟨Bz, 0, none⟩) := hold 2 rfl
      have z0 := Kp.cell hg k0x nBx
      have z1 := Kp.cell hg k1x nBx
      have z2 := Kp.cell hg k2x nBx
      have z3 := Kp.cell hg k3x nBx
      have z4 := Kp.cell hg k0y nBy
      have z5 := Kp.cell hg k0z nBz
      have Hg := Lib.hid hg
      clear hold k0x k1x k2x k3x k0y k0z
      clear hdef
      simp only [predsImp]
      intro v1 e1 p1 v2 e2 p2 v3 e4 p3 K hK
      replace p1 : v1 = .agg #[.int .i64 x.k, .int .i64 x.n, .string x.s, .slice x.p x.l.length x.c] := p1
      subst p1
      clear p2 p3 e4
      have h3 := hpre ⟨3, Ground.data⟩ (by simp) rfl
      obtain ⟨pc, cc, lc, e3, ic, ec⟩ := hj.c h3 (getD_tf hl)
      rw [e3] at e2
      subst e2
      have Ic := Lib.hid ic
      have Ec := Lib.hid ec
      clear ic ec
      go_simp
      rewrite [← Vx.out]
      refine (applyW_calls x pc cc lc _ (HXk.out _ Hg.out) Ic.out).mono ?_
      intro e w9 hh
      obtain ⟨xx, c, rfl, hin, he, hmi, hon, hg9⟩ := ap_mine hh
      exact hK _ _ ⟨_, _, _, _, _, _, _, rfl⟩ (Kp.of_gr hg9) (TmJ.s4 hj hl h3 hg9 hin (he.trans Ec.out) hmi hon)
    case a5 =>
      intro listed fr wr hj hl hpre hg hdef hold
      have h0 : fr.tmps[0]?.getD undef = .pointer (some ⟨Bx, 0, none⟩) := hold 0 rfl
      have h1 : fr.tmps[1]?.getD undef = .pointer (some ⟨By, 0, none⟩) := hold 1 rfl
      have h2 : fr.tmps[2]?.getD undef = .pointer (some ⟨Bz, 0, none⟩) := hold 2 rfl
      have z0 := Kp.cell hg k0x nBx
      have z1 := Kp.cell hg k1x nBx
      have z2 := Kp.cell hg k2x nBx
      have z3 := Kp.cell hg k3x nBx
      have z4 := Kp.cell hg k0y nBy
      have z5 := Kp.cell hg k0z nBz
      have Hg := Lib.hid hg
      clear hold k0x k1x k2x k3x k0y k0z
      clear hdef
      simp only [predsImp]
      intro v1 e1 p1 K hK
      obtain ⟨k1, n1, s1, q1, d1, c1, t1, rfl⟩ := p1
      go_simp
      exact hK _ _ ⟨_, _, _, _, _, _, _, rfl⟩ (Kp.of_gr (Gr.rfl' _)) (TmJ.s5 hj (hpre ⟨4, Ground.data⟩ (by simp) rfl) e1)
    case a6 =>
      intro listed fr wr hj hl hpre hg hdef hold
      have h0 : fr.tmps[0]?.getD undef = .pointer (some ⟨Bx, 0, none⟩) := hold 0 rfl
      have h1 : fr.tmps[1]?.getD undef = .pointer (some ⟨By, 0, none⟩) := hold 1 rfl
      have h2 : fr.tmps[2]?.getD undef = .pointer (some ⟨Bz, 0, none⟩) := hold 2 rfl
      have z0 := Kp.cell hg k0x nBx
      have z1 := Kp.cell hg k1x nBx
      have z2 := Kp.cell hg k2x nBx
      have z3 := Kp.cell hg k3x nBx
      have z4 := Kp.cell hg k0y nBy
      have z5 := Kp.cell hg k0z nBz
      have Hg := Lib.hid hg
      clear hold k0x k1x k2x k3x k0y k0z
      clear hdef
      simp only [predsImp]
      intro v1 e1 p1 K hK
      obtain ⟨k1, n1, s1, q1, d1, c1, t1, rfl⟩ := p1
      have h5 := hpre ⟨5, Ground.data⟩ (by simp) rfl
      have h4 := hj.od.1 h5
      go_simp
      exact hK _ _ ⟨_, _, _, _, _, _, rfl⟩ (Kp.of_gr (Gr.rfl' _)) (TmJ.s6 hj h4 fun xx e h11 => by obtain ⟨x', e', _, _, _, _, x5, x6, _⟩ := hj.x h4; have h66 := e1.symm.trans (x6 h5); have h67 := x5.symm.trans h11; rw [tup_fst h66, tup_fst h67])
    case a8 =>
      intro listed fr wr hj hl hpre hg hdef hold
      have h0 : fr.tmps[0]?.getD undef = .pointer (some ⟨Bx, 0, none⟩) := hold 0 rfl
      have h1 : fr.tmps[1]?.getD undef = .pointer (some ⟨By, 0, none⟩) := hold 1 rfl
      have h2 : fr.tmps[2]?.getD undef = .pointer (some ⟨Bz, 0, none⟩) := hold 2 rfl
      have z0 := Kp.cell hg k0x nBx
      have z1 := Kp.cell hg k1x nBx
      have z2 := Kp.cell hg k2x nBx
      have z3 := Kp.cell hg k3x nBx
      have z4 := Kp.cell hg k0y nBy
      have z5 := Kp.cell hg k0z nBz
      have Hg := Lib.hid hg
      clear hold k0x k1x k2x k3x k0y k0z
      clear hdef
      simp only [predsImp]
      intro K hK
      go_simp
      exact hK _ _ ⟨_, rfl⟩ (Kp.of_gr (by go_grown)) (TmJ.s8 compV_gr hj hl (by go_grown) (by simp) (Blk4.new _ _ _ _ _))
    case a9 =>
      intro listed fr wr hj hl hpre hg hdef hold
      have h0 : fr.tmps[0]?.getD undef = .pointer (some ⟨Bx, 0, none⟩) := hold 0 rfl
      have h1 : fr.tmps[1]?.getD undef = .pointer (some ⟨By, 0, none⟩) := hold 1 rfl
      have h2 : fr.tmps[2]?.getD undef = .pointer (some ⟨Bz, 0, none⟩) := hold 2 rfl
      have z0 := Kp.cell hg k0x nBx
      have z1 := Kp.cell hg k1x nBx
      have z2 := Kp.cell hg k2x nBx
      have z3 := Kp.cell hg k3x nBx
      have z4 := Kp.cell hg k0y nBy
      have z5 := Kp.cell hg k0z nBz
      have Hg := Lib.hid hg
      clear hold k0x k1x k2x k3x k0y k0z
      clear hdef
      simp only [predsImp]
      intro v1 e1 p1 v2 e2 p2
      obtain ⟨B1, rfl⟩ := p1
      obtain ⟨k2, n2, s2, q2, d2, c2, rfl⟩ := p2
      repeat intro _
      rename_i K hK
      subst_vars
      have h8 := hpre ⟨8, Ground.data⟩ (by simp) rfl
      have h6 := hpre ⟨6, Ground.data⟩ (by simp) rfl
      have h4 := hj.od.2.1 h6
      obtain ⟨B, hB, hB0, hBl, hz⟩ := hj.q h8
      obtain rfl : B1 = B := ptr_inj (e1.symm.trans hB)
      have Hz := Lib.hid (hz (getD_tf hl))
      obtain ⟨⟨u0, u1, u2, u3⟩, ⟨f0, f1, f2, f3⟩, _⟩ := (hz (getD_tf hl)).parts
      clear hz
      go_simp
      exact hK _ _ rfl (Kp.sets hB0 _ _ _ _) (TmJ.s9 hj hl h4 h8 hB (Kp.sets (C := (· = B1)) rfl _ _ _ _) _ fun xx e h11 => by obtain ⟨x', e', _, _, _, _, x5, _, x7, _⟩ := hj.x h4; have h67 := x5.symm.trans h11; have h68 : _ = xx.val := (e2.symm.trans (x7 h6)).trans (tup_fst h67); exact blk_val h68 (Blk4.sets Hz.out _ _ _ _))
    case b7 =>
      intro fr wr hg hold
      have h0 : fr.tmps[0]?.getD undef = .pointer (some ⟨Bx, 0, none⟩) := hold 0 rfl
      have h1 : fr.tmps[1]?.getD undef = .pointer (some ⟨By, 0, none⟩) := hold 1 rfl
      have h2 : fr.tmps[2]?.getD undef = .pointer (some ⟨Bz, 0, none⟩) := hold 2 rfl
      have z0 := Kp.cell hg k0x nBx
      have z1 := Kp.cell hg k1x nBx
      have z2 := Kp.cell hg k2x nBx
      have z3 := Kp.cell hg k3x nBx
      have z4 := Kp.cell hg k0y nBy
      have z5 := Kp.cell hg k0z nBz
      have Hg := Lib.hid hg
      clear hold k0x k1x k2x k3x k0y k0z
      simp [predsImp, Region.binds, dstAt]
      rintro ⟨k1, n1, s1, q1, d1, c1, t1, h6⟩ K hK
      go_simp
      exact hK _ _ ⟨_, rfl⟩ (Gr.rfl' _)
    case b10 =>
      intro fr wr hg hold
      have h0 : fr.tmps[0]?.getD undef = .pointer (some ⟨Bx, 0, none⟩) := hold 0 rfl
      have h1 : fr.tmps[1]?.getD undef = .pointer (some ⟨By, 0, none⟩) := hold 1 rfl
      have h2 : fr.tmps[2]?.getD undef = .pointer (some ⟨Bz, 0, none⟩) := hold 2 rfl
      have z0 := Kp.cell hg k0x nBx
      have z1 := Kp.cell hg k1x nBx
      have z2 := Kp.cell hg k2x nBx
      have z3 := Kp.cell hg k3x nBx
      have z4 := Kp.cell hg k0y nBy
      have z5 := Kp.cell hg k0z nBz
      have Hg := Lib.hid hg
      clear hold k0x k1x k2x k3x k0y k0z
      simp only [predsImp]
      intro v1 e1 p1
      obtain ⟨n1, rfl⟩ := p1
      repeat intro _
      rename_i K hK
      subst_vars
      go_simp
      exact hK _ _ ⟨_, rfl⟩ (Gr.rfl' _)
    all_goals
      intro fr wr hg hold
      have h0 : fr.tmps[0]?.getD undef = .pointer (some ⟨Bx, 0, none⟩) := hold 0 rfl
      have h1 : fr.tmps[1]?.getD undef = .pointer (some ⟨By, 0, none⟩) := hold 1 rfl
      have h2 : fr.tmps[2]?.getD undef = .pointer (some ⟨Bz, 0, none⟩) := hold 2 rfl
      have z0 := Kp.cell hg k0x nBx
      have z1 := Kp.cell hg k1x nBx
      have z2 := Kp.cell hg k2x nBx
      have z3 := Kp.cell hg k3x nBx
      have z4 := Kp.cell hg k0y nBy
      have z5 := Kp.cell hg k0z nBz
      have Hg := Lib.hid hg
      clear hold k0x k1x k2x k3x k0y k0z
      simp [predsImp, fx]
      intros
      rename_i K hK
      go_simp
    all_goals exact hK _ _ rfl (Gr.rfl' _)
  · intro w9 hg
    rintro _ rfl _ rfl _ rfl _ ⟨_, _, _, rfl⟩ _ ⟨_, _, _, _, _, _, _, rfl⟩ _ ⟨_, _, _, _, _, _, _, rfl⟩ _ ⟨_, _, _, _, _, _, rfl⟩ _ ⟨_, rfl⟩ _ ⟨B, rfl⟩ _ rfl _ ⟨_, rfl⟩ htj
    simp only [Act.put, List.setIfInBounds_toArray, List.set_cons_succ, List.set_cons_zero, List.drop_succ_cons, List.drop_zero] at htj ⊢
    obtain ⟨hB0, ⟨kb, nb, sb, pb, cb, lb⟩, hin, he, hwh, hon, hbk⟩ := htj.done (by show 9 < 11; omega) rfl
    have hN : Blk4 w9 B (.int .i64 kb) (.int .i64 nb) (.string sb) (.slice pb lb.length cb) := hbk
    clear htj hbk k0x k1x k2x k3x k0y k0z
    have HB2 := Lib.hid (And.intro hin (And.intro he (And.intro hwh hon)))
    clear hin he hwh hon
    have g9 : Gr w w9 := gA.trans (hg.below (fun b h => h) (Nat.le_refl _))
    obtain ⟨⟨n0, n1, n2, n3⟩, _, _⟩ := hN.parts
    obtain ⟨⟨r0, r1, r2, r3⟩, ⟨f0, f1, f2, f3⟩, hlt⟩ := ((hR0.kp hg (by omega))).parts
    go_wp2_with fail
    refine bodyPost_ret (v := (Tm.mk kb nb sb pb cb lb).val) (by simp (maxDischargeDepth := 9) [results, Try.results46, go_sem, tm_val, r0, r1, r2, r3]) rfl ?_
    obtain ⟨hin, he, hwh, hon⟩ := HB2.out
    rw [← HQ.out]
    have k4 : ∀ q0 q1 q2 q3 : Value, Kp (· = w.heap.size) w9 ((((w9.setCell ⟨w.heap.size, 0, none⟩ q0).setCell ⟨w.heap.size, 1, none⟩ q1).setCell ⟨w.heap.size, 2, none⟩ q2).setCell ⟨w.heap.size, 3, none⟩ q3) := fun _ _ _ _ => Kp.set4 (C := fun b => b = w.heap.size) rfl
    have hne : ∀ b, wA.heap.size ≤ b → ¬ (b = w.heap.size) := fun b hb => by omega
    have g4 := g9
    exact ⟨_, rfl, kp_in (hin) hon hne (k4 _ _ _ _), he, mine_kp (hwh) (hin) hon hne (k4 _ _ _ _), hon.mono fun b hb => (by have : wA.heap.size ≤ b := hb; omega), Below.trans g4 ((k4 _ _ _ _).below (fun b hb => by omega) g4.size)⟩
end Go.Proofs.Ythncdmijledpnaa

namespace Go.Proofs.Ythncdmijledpnaa
open Go.RowKit Go.Maps Go.Lib

theorem ownsRow_from {w : World} {B B' : Nat} {e : TypeId} {sz : Nat} {v : Value} {n : Nat} {xs : List Value} (h : w.ownsRow B e sz v n xs) (hB : B' ≤ B) : w.ownsRow B' e sz v n xs := by
  refine ⟨h.1, ?_⟩
  rcases h.2 with h1 | ⟨g, cap, cur, h0, h1, h2⟩
  · exact .inl h1
  · exact .inr ⟨g, cap, cur, h0, by omega, h2⟩
theorem eraseL_one (p : Tm) : Tm.eraseL [p] = [p.erase] := by rw [Tm.eraseL, Tm.eraseL]
mutual
theorem vars_len : ∀ (t : T) (acc : List Int), (T.vars t acc).length ≤ acc.length + T.sz t
  | .mk k n s l, acc => by
    have h := varsL_len l acc
    rw [T.vars, T.sz]
    repeat' split
    all_goals try simp only [List.length_append, List.length_cons, List.length_nil]
    all_goals omega
theorem varsL_len : ∀ (l : List T) (acc : List Int), (T.varsL l acc).length ≤ acc.length + T.szL l
  | [], acc => by rw [T.varsL]; omega
  | x :: xs, acc => by
    have h1 := vars_len x acc
    have h2 := varsL_len xs (T.vars x acc)
    rw [T.varsL, T.szL]
    omega
end

/-- Vars' answer: the caller's own. -/
def RetVarsM (t : T) (w : World) (e : Ending) (w' : World) : Prop := ∃ (pv : Option Addr) (c : Nat) (V : List Int), e = .returned (.tuple #[.slice pv V.length c, .int .i64 (errOf t.formed)]) ∧ IntSl w' pv c V ∧ Gr w w' ∧ w'.ownsRow w.heap.size 2 1 (.slice pv V.length c) V.length (V.map (Value.int .i64)) ∧ V = if t.formed then T.varsL [t] [] else []
set_option maxHeartbeats 2000000 in
set_option maxRecDepth 100000 in
theorem varsM_calls (p : Tm) (w : World) (ip : p.In w) : Calls Try.prog 48 #[p.val] w (RetVarsM p.erase w) := by
  have Ip := Lib.hid ip
  have hformed := Lib.hid (fun W (g : Gr w W) => show Calls Try.prog 96 #[.agg #[.int .i64 p.k, .int .i64 p.n, .string p.s, .slice p.p p.l.length p.c]] W (Ret (.bool p.erase.formed) W) from formed_calls (t := p) (Tm.In_below g ip))
  have hQ0 : Hid (∀ pv c V (ff : Bool) w', p.erase.formed = ff → IntSl w' pv c V → Gr w w' → w'.ownsRow w.heap.size 2 1 (.slice pv V.length c) V.length (V.map (Value.int .i64)) → (V = if ff then T.varsL [p.erase] [] else []) → RetVarsM p.erase w (.returned (.tuple #[.slice pv V.length c, .int .i64 (errOf ff)])) w') := fun pv c V ff w' h0 h1 h2 h4 h3 => ⟨pv, c, V, by rw [h0], h1, h2, h4, by rw [h0]; exact h3⟩
  generalize RetVarsM p.erase w = Q at hQ0 ⊢
  have HQ := hQ0
  have hone : ∀ (w0 w' : World), Gr w w0 → p.erase.formed = true → Gr (w0.alloc (.cells #[.int .i64 p.k, .int .i64 p.n, .string p.s, .slice p.p p.l.length p.c] 25)) w' → Calls Try.prog 111 #[.slice (some ⟨w0.heap.size, 0, none⟩) 1 1] w' fun e w'' => ∃ (pv : Option Addr) (c : Nat), e = .returned (.slice pv (T.varsL [p.erase] []).length c) ∧ IntSl w'' pv c (T.varsL [p.erase] []) ∧ Gr w' w'' ∧ w''.ownsRow w.heap.size 2 1 (.slice pv (T.varsL [p.erase] []).length c) (T.varsL [p.erase] []).length ((T.varsL [p.erase] []).map (Value.int .i64)) := fun w0 w' h0 hf h1 => by
    refine (variables_calls (some ⟨w0.heap.size, 0, none⟩) 1 [p] w' (one_new (Tm.In_below h0 Ip.out) h1) (fun x hx => by rw [List.mem_singleton] at hx; rw [hx]; exact fmd_of hf)).mono ?_
    rintro e w'' ⟨v, rfl, hv, hg⟩
    obtain ⟨pv, c, rfl⟩ := hv.form
    rw [eraseL_one] at *
    have hr := (VarsOkB.varsL [p.erase] VarsOkB.nil (by rw [← eraseL_one]; exact fmdL_erase fun y hy => by rw [List.mem_singleton] at hy; rw [hy]; exact fmd_of hf)).in64
    exact ⟨pv, c, rfl, (hv.sl hr).2, hg, ownsRow_from hv (Nat.le_trans h0.size (by have := h1.size; simp at this; omega))⟩
  have Hone := Lib.hid hone
  clear ip hone hQ0
  rw [show p.val = .agg #[.int .i64 p.k, .int .i64 p.n, .string p.s, .slice p.p p.l.length p.c] from rfl]
  go_enter Try.func48, Try.ntmps48
  try simp only [List.append_eq, List.cons_append, List.nil_append]
  go_upto_region 1 with fail
  have h3 := Lib.hid (Blk4.new w (.int .i64 p.k) (.int .i64 p.n) (.string p.s) (.slice p.p p.l.length p.c))
  have gA : Gr w (w.alloc (.cells #[.int .i64 p.k, .int .i64 p.n, .string p.s, .slice p.p p.l.length p.c] 25)) := by go_grown
  generalize (w.alloc (.cells #[.int .i64 p.k, .int .i64 p.n, .string p.s, .slice p.p p.l.length p.c] 25)) = wA at *
  obtain ⟨⟨x0, x1, x2, x3⟩, _, _⟩ := h3.out.parts
  obtain ⟨ff, hff⟩ : ∃ ff, p.erase.formed = ff := ⟨_, rfl⟩
  rw [hff] at hformed Hone
  have Hff := Lib.hid hff
  clear hff
  go_wp2_with fail
  refine (hformed.out _ gA).mono ?_
  rintro e w2 ⟨rfl, hg2⟩
  replace hg2 : Gr wA w2 := hg2
  have g2 : Gr w w2 := gA.trans hg2
  obtain ⟨⟨y0, y1, y2, y3⟩, _, _⟩ := (h3.out.gr hg2).parts
  clear x0 x1 x2 x3 hg2
  cases ff with
  | false =>
    have Hb := Lib.hid (HQ.out none 0 [] false w2 Hff.out ⟨Nat.le_refl _, by omega, (fun n hn => nomatch hn), .inl rfl⟩ g2 (World.ownsRow_nil _ _ _ 1) rfl)
    go_wp2_with fail
    exact Hb.out
  | true =>
    have Hv := Lib.hid (fun w' => Hone.out w2 w' g2 rfl)
    go_wp2_with fail
    refine (Hv.out _ (Gr.rfl' _)).mono ?_
    rintro e w3 ⟨pv, c, rfl, hi, hg3, ho⟩
    have Hb := Lib.hid (HQ.out pv c _ true w3 Hff.out hi (g2.trans (Gr.trans (show Gr w2 _ by go_grown) hg3)) ho rfl)
    clear ho hg3 y0 y1 y2 y3
    generalize T.varsL [p.erase] [] = V at *
    go_wp2_with fail
    exact Hb.out
end Go.Proofs.Ythncdmijledpnaa

namespace Go.Proofs.Ythncdmijledpnaa
open Go.RowKit

mutual
theorem T.same_self : ∀ t : T, T.same t t = true
  | .mk k n s l => by simp [T.same, T.sameL_self l]
theorem T.sameL_self : ∀ l : List T, T.sameL l l = true
  | [] => by simp [T.sameL]
  | x :: xs => by simp [T.sameL, T.same_self x, T.sameL_self xs]
end

end Go.Proofs.Ythncdmijledpnaa
