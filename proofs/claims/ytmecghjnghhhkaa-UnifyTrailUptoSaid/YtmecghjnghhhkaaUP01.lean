/-
  The document's store: a list of pairs in a block; append of pairs.
  The document's store: Unify.
  The document's store: Resolve, Bound; hornref.SameNumbers.
  What a store has been through.
  Slices of any struct: what one that came in is, carried and read.
-/
import Derived.Test.YtmecghjnghhhkaaUO29
import Derived.Test.YtmecghjnghhhkaaUO21
import Derived.Test.YtmecghjnghhhkaaUO14
import Derived.Test.YtmecghjnghhhkaaUO02
namespace Go.Proofs.Ytmecghjnghhhkaa
open Go.RowKit Go.Maps Go.Lib

theorem append_prs (w : World) (B : Nat) (v : Value) (l : List Pr) (p : Option Addr) (c : Nat) (s : List Pr) (hs : (Prs.mk p c s).In w) (h : BuiltPrs w B v l) (hB : B ≤ w.heap.size) (hl : (l.length + s.length) * 112 ≤ 140737488351232) :
    ∃ v' w', (Builtin.append_ #[22, 22] 22 #[v, .slice p s.length c]).run Try.prog w = .ok v' w' ∧ BuiltPrs w' B v' (l ++ s) ∧ w.grownBy w' v.ownBlock ∧ (v'.ownBlock = v.ownBlock ∨ v'.ownBlock = some w.heap.size) := by
  obtain ⟨i0, hi, hz0, hz1, hz2⟩ := info_parts infoPr
  by_cases h0 : s = []
  · subst h0
    rcases h.2 with ⟨rfl, h1⟩ | ⟨g, cap, cur, rfl, hg0, hg, hnc, hr⟩
    · refine ⟨_, w, run_append_empty w _ _ _ i0 Try.underlying22 hi none 0 0 p c (Nat.le_refl _), by simpa using h, ⟨rfl, rfl, rfl, Nat.le_refl _, fun _ _ _ => rfl⟩, .inl rfl⟩
    · refine ⟨_, w, run_append_empty w _ _ _ i0 Try.underlying22 hi _ l.length cap p c hnc, by simpa using h, ⟨rfl, rfl, rfl, Nat.le_refl _, fun _ _ _ => rfl⟩, .inl rfl⟩
  · have hpos : 0 < s.length := List.length_pos_iff.2 h0
    obtain ⟨b, o, rfl⟩ := hs.ptr hpos
    obtain ⟨v', w', hr, h2, h3, h4⟩ := run_append_own_fresh (P := Try.prog) w B 22 22 29 i0 _ 8 112 Try.underlying22 hi hz0 hz1 hz2 rfl (by decide) v l.length (l.flatMap Pr.cells) h
      ⟨b, o, none⟩ s.length c (s.flatMap Pr.cells) (prcells_len s) (by
        intro j u hu
        rw [Go.WideShapes.add_plain]
        have hj : j < s.length * 8 := by have := (List.getElem?_eq_some_iff.1 hu).1; rwa [prcells_len] at this
        have hi' : j / 8 < s.length := by omega
        obtain ⟨⟨⟨c0, c1, c2, c3⟩, c4, c5, c6, c7⟩, _⟩ := hs.elem (j / 8) hi'
        have h5 := prcells_at (List.getElem?_eq_getElem hi') (j % 8) (by omega)
        rw [show j / 8 * 8 + j % 8 = j by omega, hu] at h5
        rw [show o + j = o + j / 8 * 8 + j % 8 by omega]
        have hm : j % 8 < 8 := by omega
        match hj5 : j % 8, hm with
        | 0, _ => rw [hj5] at h5; rw [h5]; exact c0
        | 1, _ => rw [hj5] at h5; rw [h5]; exact c1
        | 2, _ => rw [hj5] at h5; rw [h5]; exact c2
        | 3, _ => rw [hj5] at h5; rw [h5]; exact c3
        | 4, _ => rw [hj5] at h5; rw [h5]; exact c4
        | 5, _ => rw [hj5] at h5; rw [h5]; exact c5
        | 6, _ => rw [hj5] at h5; rw [h5]; exact c6
        | 7, _ => rw [hj5] at h5; rw [h5]; exact c7) (by
        intro u hu
        obtain ⟨y, hy, hu⟩ := List.mem_flatMap.1 hu
        simp only [Pr.cells, Tm.cells, List.cons_append, List.nil_append, List.mem_cons, List.mem_nil_iff, or_false] at hu
        rcases hu with rfl | rfl | rfl | rfl | rfl | rfl | rfl | rfl <;> rfl) (by simp only [maxLen]; omega) (by omega) hB (by omega)
    refine ⟨v', w', hr, ?_, h3, h4⟩
    show w'.ownsRow B _ 8 v' _ _
    rw [List.length_append, List.flatMap_append]
    exact h2

theorem Prs.In.kp {w w' : World} {x : Prs} {C : Nat → Prop} (h : x.In w) (k : Kp C w w') (hp : ∀ b, (Prs.val x).ownBlock = some b → ¬ C b) (hy : ∀ y ∈ x.l, y.a.In w' ∧ y.b.In w') : x.In w' := by
  obtain ⟨h1, h2, h3, -⟩ := h
  refine ⟨h1, h2, ?_, hy⟩
  rcases h3 with h3 | ⟨b, o, hb, hr⟩
  · exact .inl h3
  · have hC : ¬ C b := hp b (by rw [Prs.val, hb]; rfl)
    refine .inr ⟨b, o, hb, fun i y hy => ?_⟩
    obtain ⟨⟨a0, a1, a2, a3⟩, a4, a5, a6, a7⟩ := hr i y hy
    exact ⟨⟨k.cell a0 hC, k.cell a1 hC, k.cell a2 hC, k.cell a3 hC⟩, k.cell a4 hC, k.cell a5 hC, k.cell a6 hC, k.cell a7 hC⟩

/-- The document's store at Q: a slice v of the pairs l, whose terms lie on S. -/
structure RS (S : Nat → Prop) (w : World) (Q : Nat) (v : Value) (l : List Pr) : Prop where
  blk : BlkT w Q 41 #[v]
  row : ∃ p c, v = .slice p l.length c ∧ (Prs.mk p c l).In w
  nq : v.ownBlock ≠ some Q
  vlt : ∀ b, v.ownBlock = some b → b < w.heap.size
  onn : ∀ y ∈ l, y.a.On S ∧ y.b.On S
  form : ∀ y ∈ l, y.a.erase.formed = true ∧ y.b.erase.formed = true
  sepS : ∀ b, S b → b < w.heap.size ∧ b ≠ Q

section
variable {S : Nat → Prop} {w w' : World} {Q : Nat} {v : Value} {l : List Pr}
theorem RS.inn (h : RS S w Q v l) : ∀ y ∈ l, y.a.In w ∧ y.b.In w := by
  obtain ⟨p, c, _, h2⟩ := h.row
  exact h2.2.2.2
theorem RS.size (h : RS S w Q v l) : l.length * 112 ≤ 140737488351232 := by
  obtain ⟨p, c, _, h2⟩ := h.row
  exact h2.2.1.1
theorem RS.kp (h : RS S w Q v l) {C : Nat → Prop} (k : Kp C w w') (hQ : ¬ C Q) (hv : ∀ b, v.ownBlock = some b → ¬ C b) (hS : ∀ b, S b → ¬ C b) : RS S w' Q v l where
  blk := h.blk.kp k hQ
  row := by
    obtain ⟨p, c, rfl, h2⟩ := h.row
    exact ⟨p, c, rfl, h2.kp k hv fun y hy => ⟨kp_in (h.inn y hy).1 (h.onn y hy).1 hS k, kp_in (h.inn y hy).2 (h.onn y hy).2 hS k⟩⟩
  nq := h.nq
  vlt b hb := Nat.lt_of_lt_of_le (h.vlt b hb) k.size
  onn := h.onn
  form := h.form
  sepS b hb := ⟨Nat.lt_of_lt_of_le (h.sepS b hb).1 k.size, (h.sepS b hb).2⟩
theorem RS.gr (h : RS S w Q v l) (hg : Gr w w') : RS S w' Q v l := h.kp (C := fun _ => False) (Kp.of_gr hg) id (fun _ _ => id) fun _ _ => id
theorem RS.prs (h : RS S w Q v l) : ∃ p c, v = .slice p l.length c ∧ (Prs.mk p c l).In w := h.row
theorem RS.start (hS : ∀ b, S b → b < w.heap.size) : RS S (w.alloc (.cells #[.slice none 0 0] 41)) w.heap.size (.slice none 0 0) [] where
  blk := BlkT.new _ _ _
  row := ⟨none, 0, rfl, Nat.le_refl _, ⟨by simp, by simp⟩, .inl rfl, (fun y hy => nomatch hy)⟩
  nq h := nomatch h
  vlt b h := nomatch h
  onn y hy := nomatch hy
  form y hy := nomatch hy
  sepS b hb := ⟨by have := hS b hb; simp; omega, by have := hS b hb; omega⟩
/-- Its block has another row. -/
theorem RS.put (h : RS S w Q v l) {p' : Option Addr} {c' : Nat} {l' : List Pr} (hr : (Prs.mk p' c' l').In w) (hn : (Prs.val ⟨p', c', l'⟩).ownBlock ≠ some Q) (hvl : ∀ b, (Prs.val ⟨p', c', l'⟩).ownBlock = some b → b < w.heap.size) (ho : ∀ y ∈ l', y.a.On S ∧ y.b.On S) (hf : ∀ y ∈ l', y.a.erase.formed = true ∧ y.b.erase.formed = true) :
    RS S (w.setCell ⟨Q, 0, none⟩ (Prs.val ⟨p', c', l'⟩)) Q (Prs.val ⟨p', c', l'⟩) l' where
  blk := h.blk.set 0 _
  row := ⟨p', c', rfl, hr.kp (Kp.set (C := (· = Q)) rfl) (fun b hb e => hn (by rw [hb, e])) fun y hy => ⟨kp_in (hr.2.2.2 y hy).1 (ho y hy).1 (fun b hb => (h.sepS b hb).2) (Kp.set (C := (· = Q)) rfl), kp_in (hr.2.2.2 y hy).2 (ho y hy).2 (fun b hb => (h.sepS b hb).2) (Kp.set (C := (· = Q)) rfl)⟩⟩
  nq := hn
  vlt b hb := by have := hvl b hb; simpa using this
  onn := ho
  form := hf
  sepS b hb := ⟨by have := (h.sepS b hb).1; simpa using this, (h.sepS b hb).2⟩
theorem Prs.In.take {p : Option Addr} {c : Nat} (h : (Prs.mk p c l).In w) (n : Nat) (hn : n ≤ l.length) : (Prs.mk p n (l.take n)).In w := by
  obtain ⟨h1, h2, h3, h4⟩ := h
  simp only at h1 h2
  have hl : (l.take n).length = n := by rw [List.length_take]; omega
  refine ⟨by simp only [hl]; exact Nat.le_refl _, ⟨by simp only [hl]; omega, by simp only; omega⟩, ?_, fun y hy => h4 y (List.mem_of_mem_take hy)⟩
  rcases h3 with h3 | ⟨b, o, hb, hr⟩
  · simp only at h3
    subst h3
    exact .inl List.take_nil
  · refine .inr ⟨b, o, hb, fun i y hy => hr i y ?_⟩
    rw [List.getElem?_take] at hy
    split at hy
    · exact hy
    · cases hy
/-- Only the first n pairs are left. -/
theorem RS.cut (h : RS S w Q v l) (n : Nat) (hn : n ≤ l.length) {p : Option Addr} {c : Nat} (hv : v = .slice p l.length c) : RS S (w.setCell ⟨Q, 0, none⟩ (.slice p n n)) Q (.slice p n n) (l.take n) := by
  obtain ⟨p0, c0, h1, h2⟩ := h.row
  rw [hv] at h1
  cases h1
  have hl : (l.take n).length = n := by rw [List.length_take]; omega
  have e : Value.slice p n n = Prs.val ⟨p, n, l.take n⟩ := by rw [Prs.val, hl]
  have hob : (Prs.val ⟨p, n, l.take n⟩).ownBlock = v.ownBlock := by rw [hv, Prs.val]; cases p <;> rfl
  rw [e]
  exact h.put (h2.take n hn) (by rw [hob]; exact h.nq) (fun b hb => h.vlt b (by rw [← hob]; exact hb)) (fun y hy => h.onn y (List.mem_of_mem_take hy)) fun y hy => h.form y (List.mem_of_mem_take hy)
end

theorem seePrs_append (l : List Pr) (x : Pr) : seePrs (l ++ [x]) = seePrs l ++ [(x.a.erase, x.b.erase)] := by simp [seePrs]
theorem formedP_see {l : List Pr} (h : ∀ y ∈ l, y.a.erase.formed = true ∧ y.b.erase.formed = true) : FormedP (seePrs l) := fun p hp => by
  obtain ⟨y, hy, rfl⟩ := List.mem_map.1 hp
  exact h y hy
end Go.Proofs.Ytmecghjnghhhkaa

namespace Go.Proofs.Ytmecghjnghhhkaa
open Go.RowKit Go.Maps Go.Lib

/-- A new row of pairs. -/
def prsNew (B0 B : Nat) (l : List Pr) : VP := fun v w => BuiltPrs w B v l ∧ ∀ b, v.ownBlock = some b → B0 ≤ b
theorem prsNew_stable {B0 B : Nat} {l : List Pr} : ∀ v w w', prsNew B0 B l v w → Gr w w' → prsNew B0 B l v w' := fun _ _ _ ⟨h1, h2⟩ hg => ⟨h1.gr hg, h2⟩

def RUOut (S : Nat → Prop) (Q : Nat) (l : List Pr) (w : World) (e : Ending) (w' : World) : RobOut → Prop
  | .grown => GrownE e ∧ Gr w w'
  | .clash => e = .returned (.bool false) ∧ Gr w w'
  | .done _ => e = .returned (.bool true) ∧ ∃ v', RS S w' Q v' l ∧ Kp (· = Q) w w' ∧ ∀ b, v'.ownBlock = some b → w.heap.size ≤ b
/-- What the document's store says to a pair. -/
def RetRU (S : Nat → Prop) (Q : Nat) (l : List Pr) (w : World) (e : Ending) (w' : World) : Prop := ∃ o, Rob varT (seePrs l) o ∧ RUOut S Q l w e w' o

set_option maxHeartbeats 2000000 in
set_option maxRecDepth 100000 in
theorem rsUnify_calls {S : Nat → Prop} {w : World} {Q : Nat} {v : Value} {l : List Pr} (hs : RS S w Q v l) (a b : Tm) (ia : a.In w) (ib : b.In w) (oa : a.On S) (ob : b.On S) (fa : a.erase.formed = true) (fb : b.erase.formed = true) (hl : (l.length + 1) * 112 ≤ 140737488351232) :
    Calls Try.prog 82 #[.pointer (some ⟨Q, 0, none⟩), a.val, b.val] w (RetRU S Q (l ++ [⟨a, b⟩]) w) := by
  have HS := Lib.hid hs
  have Ia := Lib.hid ia
  have Ib := Lib.hid ib
  have hQl := hs.blk.lt
  obtain ⟨p, c, rfl, hpr⟩ := hs.prs
  have Hpr := Lib.hid hpr
  have hall : ∀ y ∈ l ++ [⟨a, b⟩], y.a.erase.formed = true ∧ y.b.erase.formed = true := fun y hy => by
    rcases List.mem_append.1 hy with hy | hy
    · exact hs.form y hy
    · rw [List.mem_singleton] at hy; subst hy; exact ⟨fa, fb⟩
  have hput : Hid (∀ (v' : Value) (w' w2 : World), BuiltPrs w' w.heap.size v' (l ++ [⟨a, b⟩]) → Gr w w' → (∀ b, v'.ownBlock = some b → w.heap.size ≤ b) → Gr w' w2 → RS S (w2.setCell ⟨Q, 0, none⟩ v') Q v' (l ++ [⟨a, b⟩]) ∧ Kp (· = Q) w (w2.setCell ⟨Q, 0, none⟩ v')) := fun v' w' w2 h1 h2 h3 h4 => by
    have g2 := h2.trans h4
    obtain ⟨p', c', rfl, hprs⟩ := (h1.gr h4).prs (by rw [List.length_append]; exact hl) fun y hy => by
      rcases List.mem_append.1 hy with hy' | hy'
      · exact (hs.gr g2).inn y hy'
      · rw [List.mem_singleton] at hy'; subst hy'; exact ⟨Tm.In_below g2 ia, Tm.In_below g2 ib⟩
    exact ⟨(hs.gr g2).put hprs (fun e => by have := h3 _ e; omega) (fun b hb => own_lt (h1.gr h4) hb) (fun y hy => by
      rcases List.mem_append.1 hy with hy' | hy'
      · exact hs.onn y hy'
      · rw [List.mem_singleton] at hy'; subst hy'; exact ⟨oa, ob⟩) hall, (Kp.of_gr g2).trans (Kp.set rfl)⟩
  have Hall := Lib.hid hall
  generalize hRe : RetRU S Q (l ++ [⟨a, b⟩]) w = R
  have HR : Hid (∀ o e w', Rob varT (seePrs (l ++ [⟨a, b⟩])) o → RUOut S Q (l ++ [⟨a, b⟩]) w e w' o → R e w') := fun o e w' h1 h2 => by rw [← hRe]; exact ⟨o, h1, h2⟩
  have hap := fun W (g : Gr w W) => append_prs W w.heap.size (.slice none 0 0) [] p c l (hpr.mono g) (World.ownsRow_nil _ _ _ 8) g.size (by simp; omega)
  have Hap := Lib.hid hap
  clear hs ia ib oa ob fa fb hall hRe hpr hap
  rw [show a.val = .agg #[.int .i64 a.k, .int .i64 a.n, .string a.s, .slice a.p a.l.length a.c] from rfl, show b.val = .agg #[.int .i64 b.k, .int .i64 b.n, .string b.s, .slice b.p b.l.length b.c] from rfl]
  go_enter Try.func82, Try.ntmps82
  try simp only [List.append_eq, List.cons_append, List.nil_append]
  go_upto_region 1 with fail
  obtain ⟨h4, h5, gA⟩ := two_blocks w (.int .i64 a.k) (.int .i64 a.n) (.string a.s) (.slice a.p a.l.length a.c) (.int .i64 b.k) (.int .i64 b.n) (.string b.s) (.slice b.p b.l.length b.c)
  generalize ((w.alloc (.cells #[.int .i64 a.k, .int .i64 a.n, .string a.s, .slice a.p a.l.length a.c] 27)).alloc (.cells #[.int .i64 b.k, .int .i64 b.n, .string b.s, .slice b.p b.l.length b.c] 27)) = wA at *
  obtain ⟨⟨x0, x1, x2, x3⟩, _, _⟩ := h4.out.parts
  obtain ⟨⟨y0, y1, y2, y3⟩, _, _⟩ := h5.out.parts
  have q0 := (HS.out.gr gA).blk.cell 0 (v := .slice p l.length c) rfl
  refine wp_region_rely_tail 9 [fx (.pointer (some ⟨Q, 0, none⟩)), fx (.pointer (some ⟨Q, 0, none⟩)), fx (.pointer (some ⟨Q, 0, none⟩)), fx (.slice p l.length c), prsNew wA.heap.size w.heap.size l, fx (.agg #[.int .i64 a.k, .int .i64 a.n, .string a.s, .slice a.p a.l.length a.c]), fx (.agg #[.int .i64 b.k, .int .i64 b.n, .string b.s, .slice b.p b.l.length b.c]), fx (.agg #[.int .i64 a.k, .int .i64 a.n, .string a.s, .slice a.p a.l.length a.c, .int .i64 b.k, .int .i64 b.n, .string b.s, .slice b.p b.l.length b.c]), prNew wA.heap.size ⟨a, b⟩]
    (by kernel_rfl) (by kernel_rfl) (by decide) (by repeat (first | exact Stable.nil | refine Stable.fix ?_ | refine Stable.cons prNew_stable ?_ | refine Stable.cons prsNew_stable ?_)) ?_ ?_
  · refine ⟨?_, ?_, ?_, ?_, ?a4, ?_, ?_, ?_, ?a8, trivial⟩
    case a4 =>
      intro af wz hg hold
      have Hg := Lib.hid hg
      obtain ⟨vn, wn, hrn, hbn, hgn, hon⟩ := Hap.out wz (gA.trans hg)
      have Hbn := Lib.hid hbn
      have Hgn := Lib.hid hgn
      have Hon := Lib.hid hon
      clear hold hbn hgn hon
      simp [predsImp, Region.binds, dstAt, fx]
      intros
      rename_i h13 K hK
      refine wp_append_run wz _ _ _ _ rfl _ _ rfl (by simp [Act.eval, h13]) vn wn hrn (hK _ _ ⟨Hbn.out, fun b hb => ?_⟩ ?_)
      · rcases Hon.out with e | e
        · rw [e] at hb; cases hb
        · rw [e] at hb; cases hb; exact Hg.out.size
      · exact grownBy_below Hgn.out (Nat.le_refl _) fun b hb => nomatch hb
    all_goals
      intro af wz hg hold
      have h0 : af.tmps[0]?.getD undef = .pointer (some ⟨Q, 0, none⟩) := hold 0 rfl
      have hb4 : af.tmps[4]?.getD undef = .pointer (some ⟨w.heap.size, 0, none⟩) := hold 4 rfl
      have hb5 : af.tmps[5]?.getD undef = .pointer (some ⟨w.heap.size + 1, 0, none⟩) := hold 5 rfl
      have z0 := Gr.at hg x0
      have z1 := Gr.at hg x1
      have z2 := Gr.at hg x2
      have z3 := Gr.at hg x3
      have zy0 := Gr.at hg y0
      have zy1 := Gr.at hg y1
      have zy2 := Gr.at hg y2
      have zy3 := Gr.at hg y3
      have zq := Gr.at hg q0
      have Hg := Lib.hid hg
      clear hold x0 x1 x2 x3 y0 y1 y2 y3 q0
      simp [predsImp, Region.binds, dstAt, fx]
      intros
      first
        | (rw [if_pos (by simp [*])]
           intro K hK)
        | (rename_i K hK)
      go_simp
    case a8 => exact hK _ _ ⟨_, rfl, Hg.out.size, BlkT.new _ _ _⟩ (by go_grown)
    all_goals exact hK _ _ rfl (Gr.rfl' _)
  · intro w9 hg
    rintro _ rfl _ rfl _ rfl _ rfl v1 ⟨hv1, hv2⟩ _ rfl _ rfl _ rfl _ ⟨X0, rfl, hX0, hX⟩
    simp only [finAll, Act.put, List.setIfInBounds_toArray, List.set_cons_succ, List.set_cons_zero, List.drop_succ_cons, List.drop_zero, List.take_zero]
    have gw9 : Gr w w9 := gA.trans hg
    have HX := Lib.hid hX
    have Hv1 := Lib.hid hv1
    have Hv2 := Lib.hid hv2
    have hB9 : w.heap.size ≤ w9.heap.size := gw9.size
    clear hX hv1 hv2 x0 x1 x2 x3 y0 y1 y2 y3 q0
    refine wpList_append_pr rfl _ _ rfl rfl w.heap.size v1 l ⟨a, b⟩ X0 1 (by rfl) (by rfl) Hv1.out hB9 hl HX.out ?_
    intro v2 w10 h2 h3 h4
    have hge : ∀ b, v2.ownBlock = some b → w.heap.size ≤ b := fun b hb => by
      rcases h4 with e | e
      · rw [e] at hb; exact Nat.le_trans gA.size (Hv2.out b hb)
      · rw [e] at hb; cases hb; exact gw9.size
    have g10 : Gr w w10 := Below.trans gw9 (grownBy_below (B := w.heap.size) h3 gw9.size fun b hb => Nat.le_trans gA.size (Hv2.out b hb))
    obtain ⟨p2, c2, hv2', hprs⟩ := h2.prs (by rw [List.length_append]; exact hl) fun y hy => by
      rcases List.mem_append.1 hy with hy | hy
      · exact (HS.out.gr g10).inn y hy
      · rw [List.mem_singleton] at hy; subst hy; exact ⟨Tm.In_below g10 Ia.out, Tm.In_below g10 Ib.out⟩
    have hu0 := runify_calls p2 c2 (l ++ [⟨a, b⟩]) w10 hprs Hall.out
    have hlen : (l ++ [(⟨a, b⟩ : Pr)]).length = l.length + 1 := by simp
    rw [hlen] at hu0 hv2'
    have Hu := Lib.hid hu0
    subst hv2'
    clear hu0 hlen
    have Hp := Lib.hid (fun w2 => hput.out _ w10 w2 h2 g10 hge)
    have Hge := Lib.hid hge
    have Hq := Lib.hid (HS.out.gr g10).blk
    clear h2 h3 h4 hge hprs
    go_wp2_with fail
    refine Hu.out.mono ?_
    rintro e w11 ⟨o, ho, hout, hg11⟩
    have g11 : Gr w w11 := g10.trans hg11
    cases o with
    | grown =>
      have hE : GrownE e := hout
      have hfin := HR.out .grown e w11 ho ⟨hE, g11⟩
      rw [GrownE] at hE
      subst hE
      exact ⟨rfl, hfin⟩
    | clash =>
      obtain rfl : e = .returned (.tuple #[.slice none 0 0, .bool false]) := hout
      have Hfin := Lib.hid (HR.out .clash _ w11 ho ⟨rfl, g11⟩)
      clear ho
      go_wp2_with fail
      exact Hfin.out
    | done ρ =>
      obtain ⟨p1, c1, l1, rfl, -, -⟩ := hout
      have Hfin := Lib.hid (HR.out (.done ρ) (.returned (.bool true)) _ ho ⟨rfl, _, (Hp.out w11 hg11).1, (Hp.out w11 hg11).2, Hge.out⟩)
      have hq := (BlkT.gr Hq.out hg11)
      have hq0 := hq.cell 0 (v := .slice p l.length c) rfl
      have hqf := hq.open_ 0
      clear ho hq
      go_wp2_with fail
      exact Hfin.out
end Go.Proofs.Ytmecghjnghhhkaa

namespace Go.Proofs.Ytmecghjnghhhkaa
open Go.RowKit Go.Maps Go.Lib

/-- The term as the pairs make it; or there is more of it than is looked at. -/
def RetRR (S : Nat → Prop) (t : T) (w : World) (e : Ending) (w' : World) : Prop :=
  Gr w w' ∧ ((GrownE e ∧ Fat t) ∨ (¬ Fat t ∧ ∃ u : Tm, e = .returned u.val ∧ u.In w' ∧ u.erase = t ∧ u.On (fun b => S b ∨ w.heap.size ≤ b)))

set_option maxHeartbeats 2000000 in
set_option maxRecDepth 100000 in
theorem rsResolve_calls {S : Nat → Prop} {w : World} {Q : Nat} {v : Value} {l : List Pr} (hs : RS S w Q v l) {ρ : Int → T} (hr : Rob varT (seePrs l) (.done ρ)) (t : Tm) (it : t.In w) (ft : t.erase.formed = true) :
    Calls Try.prog 83 #[.pointer (some ⟨Q, 0, none⟩), t.val] w (RetRR S (T.map ρ t.erase) w) := by
  have HS := Lib.hid hs
  have It := Lib.hid it
  have Ft := Lib.hid ft
  have Hr := Lib.hid hr
  have hQl := hs.blk.lt
  obtain ⟨p, c, rfl, hpr⟩ := hs.prs
  have Hpr := Lib.hid hpr
  have hQ0 : Hid (∀ e w', Gr w w' → ((GrownE e ∧ Fat (T.map ρ t.erase)) ∨ (¬ Fat (T.map ρ t.erase) ∧ ∃ u : Tm, e = .returned u.val ∧ u.In w' ∧ u.erase = T.map ρ t.erase ∧ u.On (fun b => S b ∨ w.heap.size ≤ b))) → RetRR S (T.map ρ t.erase) w e w') := fun e w' h1 h2 => ⟨h1, h2⟩
  generalize RetRR S (T.map ρ t.erase) w = Q at hQ0 ⊢
  have HQ := hQ0
  clear hs it ft hr hpr hQ0
  rw [show t.val = .agg #[.int .i64 t.k, .int .i64 t.n, .string t.s, .slice t.p t.l.length t.c] from rfl]
  go_enter Try.func83, Try.ntmps83
  try simp only [List.append_eq, List.cons_append, List.nil_append]
  go_upto_region 1 with fail
  obtain ⟨h3, h4, gA⟩ := two_blocks w (.int .i64 t.k) (.int .i64 t.n) (.string t.s) (.slice t.p t.l.length t.c) (.int .i64 0) (.int .i64 0) (.string ⟨#[]⟩) (.slice none 0 0)
  generalize ((w.alloc (.cells #[.int .i64 t.k, .int .i64 t.n, .string t.s, .slice t.p t.l.length t.c] 27)).alloc (.cells #[.int .i64 0, .int .i64 0, .string ⟨#[]⟩, .slice none 0 0] 27)) = wA at *
  have hA2 : w.heap.size + 1 < wA.heap.size := h4.out.parts.2.2
  have q0 := (HS.out.gr gA).blk.cell 0 (v := .slice p l.length c) rfl
  have Hu := Lib.hid (runifyO_calls (fun b => S b ∨ wA.heap.size ≤ b) p c l wA (Hpr.out.mono gA) HS.out.form (fun b hb => .inr hb) fun y hy => ⟨(HS.out.onn y hy).1.mono fun b hb => .inl hb, (HS.out.onn y hy).2.mono fun b hb => .inl hb⟩)
  go_wp2_with fail
  refine Hu.out.mono ?_
  rintro e w1 ⟨o, ho, hout, hg1⟩
  obtain rfl := Hr.out.same_out ho
  obtain ⟨p1, c1, s, rfl, hin, hls⟩ := hout
  have gA1 : Gr w w1 := gA.trans hg1
  have hap := rapplyOn_calls (S := fun b => S b ∨ wA.heap.size ≤ b) (t := t) (x := ⟨p1, c1, s⟩) (Tm.In_below gA1 It.out) Ft.out hin.1 (fun b hb => .inr (Nat.le_trans hg1.size hb)) hin.2
  rw [hls.lookup] at hap
  rw [show t.val = .agg #[.int .i64 t.k, .int .i64 t.n, .string t.s, .slice t.p t.l.length t.c] from rfl] at hap
  have Hap := Lib.hid (show Calls Try.prog 136 #[.agg #[.int .i64 t.k, .int .i64 t.n, .string t.s, .slice t.p t.l.length t.c], .slice p1 s.length c1] w1 _ from hap)
  have k3 := h3.out.gr hg1
  have k4 := Lib.hid (h4.out.gr hg1)
  obtain ⟨⟨x0, x1, x2, x3⟩, ⟨f0, f1, f2, f3⟩, _⟩ := k3.parts
  have K3 := Lib.hid k3
  clear hap hin hls ho q0 k3 h3 h4 Hu
  go_upto_region 2 with fail
  go_wp2_with fail
  refine Hap.out.mono ?_
  rintro e w2 ⟨u, iu, eu, rfl, hg2, ou⟩
  have Huv := Lib.hid (show u.val = .agg #[.int .i64 u.k, .int .i64 u.n, .string u.s, .slice u.p u.l.length u.c] from rfl)
  rw [Huv.out]
  have gA2 : Gr w w2 := gA1.trans hg2
  clear x0 x1 x2 x3 f0 f1 f2 f3
  have k3 := K3.out.gr hg2
  obtain ⟨⟨x0, x1, x2, x3⟩, ⟨f0, f1, f2, f3⟩, hl3⟩ := k3.parts
  have kk : Kp (· = w.heap.size) w2 _ := Kp.sets (C := (· = w.heap.size)) (w := w2) (b := w.heap.size) rfl (.int .i64 u.k) (.int .i64 u.n) (.string u.s) (.slice u.p u.l.length u.c)
  have b3 := Lib.hid (Blk4.sets k3 (.int .i64 u.k) (.int .i64 u.n) (.string u.s) (.slice u.p u.l.length u.c))
  have iu3 := Lib.hid (kp_in iu ou (fun b hb e => by
    rcases hb with hb | hb
    · have := (HS.out.sepS b hb).1; omega
    · omega) kk)
  have k43 := Lib.hid ((k4.out.gr hg2).kp (C := (· = w.heap.size)) kk (by omega))
  have g3 := Lib.hid (show Gr w _ from Below.trans gA2 (kk.below (fun b hb => by omega) gA2.size))
  have Ou := Lib.hid ou
  clear iu ou kk k3
  go_upto_region 3 with fail
  clear x0 x1 x2 x3 f0 f1 f2 f3
  generalize ((((w2.setCell ⟨w.heap.size, 0, none⟩ (.int .i64 u.k)).setCell ⟨w.heap.size, 1, none⟩ (.int .i64 u.n)).setCell ⟨w.heap.size, 2, none⟩ (.string u.s)).setCell ⟨w.heap.size, 3, none⟩ (.slice u.p u.l.length u.c)) = w3 at *
  obtain ⟨⟨x0, x1, x2, x3⟩, _, _⟩ := b3.out.parts
  have Hsl := Lib.hid (show ∀ W, Gr (w3.alloc (.cells #[.int .i64 u.k, .int .i64 u.n, .string u.s, .slice u.p u.l.length u.c] 27)) W → Calls Try.prog 137 #[.slice (some ⟨w3.heap.size, 0, none⟩) 1 1] W (RetSlim (∃ x ∈ [u], Fat x.erase) W) from fun W hW => slim_calls _ 1 [u] W (one_new iu3.out hW))
  go_wp2_with fail
  refine (Hsl.out _ (Gr.rfl' _)).mono ?_
  rintro e w4 ⟨hs, hg4⟩
  have g34 : Gr w3 w4 := Below.trans (show Gr w3 _ by go_grown) (Below.mono hg4 (by simp))
  have gw4 : Gr w w4 := g3.out.trans g34
  clear hg4 x0 x1 x2 x3
  rcases hs with ⟨rfl, hnf⟩ | ⟨hE, hfat⟩
  · obtain ⟨⟨x0, x1, x2, x3⟩, _, _⟩ := (b3.out.gr g34).parts
    have k44 := k43.out.gr g34
    obtain ⟨⟨y0, y1, y2, y3⟩, ⟨f0, f1, f2, f3⟩, hl4⟩ := k44.parts
    have kk : Kp (· = w.heap.size + 1) w4 _ := Kp.sets (C := (· = w.heap.size + 1)) (w := w4) (b := w.heap.size + 1) rfl (.int .i64 u.k) (.int .i64 u.n) (.string u.s) (.slice u.p u.l.length u.c)
    have hnf' : ¬ Fat (T.map ρ t.erase) := fun h => hnf ⟨u, by simp, by rw [eu]; exact h⟩
    have Hb := Lib.hid (HQ.out (.returned u.val) _ (Below.trans gw4 (kk.below (fun b hb => by omega) gw4.size)) (.inr ⟨hnf', u, rfl, kp_in (Tm.In_below g34 iu3.out) Ou.out (fun b hb e => by
      rcases hb with hb | hb
      · have := (HS.out.sepS b hb).1; omega
      · omega) kk, eu, Ou.out.mono fun b hb => hb.imp id fun h => by omega⟩))
    clear kk k44 hnf hnf'
    go_wp2_with fail
    exact bodyPost_ret (v := u.val) (by simp (maxDischargeDepth := 9) [results, Try.results83, go_sem, Tm.val, y0, y1, y2, y3]) rfl Hb.out
  · rw [GrownE] at hE
    subst hE
    obtain ⟨x, hx, hf⟩ := hfat
    rw [List.mem_singleton] at hx
    subst hx
    rw [eu] at hf
    exact ⟨rfl, HQ.out _ _ gw4 (.inl ⟨rfl, hf⟩)⟩

/-- The variables of a list of binds. -/
def RetBound (ρ : Int → T) (w : World) (e : Ending) (w' : World) : Prop := ∃ (s : List Bd) (v : Value), ListOf ρ s ∧ e = .returned v ∧ IntsOwn w' w.heap.size v (s.map Bd.v) ∧ Gr w w'

set_option maxHeartbeats 2000000 in
set_option maxRecDepth 100000 in
theorem rsBound_calls {S : Nat → Prop} {w : World} {Q : Nat} {v : Value} {l : List Pr} (hs : RS S w Q v l) {ρ : Int → T} (hr : Rob varT (seePrs l) (.done ρ)) :
    Calls Try.prog 23 #[.pointer (some ⟨Q, 0, none⟩)] w (RetBound ρ w) := by
  have HS := Lib.hid hs
  have Hr := Lib.hid hr
  have hQl := hs.blk.lt
  obtain ⟨p, c, rfl, hpr⟩ := hs.prs
  have q0 := hs.blk.cell 0 (v := .slice p l.length c) rfl
  have Hu := Lib.hid (runify_calls p c l w hpr hs.form)
  have hQ0 : Hid (∀ (s : List Bd) (v : Value) (B0 : Nat) w', ListOf ρ s → w.heap.size ≤ B0 → IntsOwn w' B0 v (s.map Bd.v) → Gr w w' → RetBound ρ w (.returned v) w') := fun s v B0 w' h1 h2 h3 h4 => ⟨s, v, h1, rfl, ownsRow_base_a h3 h2, h4⟩
  generalize RetBound ρ w = Q at hQ0 ⊢
  have HQ := hQ0
  clear hs hr hpr hQ0
  go_enter Try.func23, Try.ntmps23
  try simp only [List.append_eq, List.cons_append, List.nil_append]
  go_wp2_with fail
  refine Hu.out.mono ?_
  rintro e w1 ⟨o, ho, hout, g1⟩
  obtain rfl := Hr.out.same_out ho
  obtain ⟨p1, c1, s, rfl, hin, hls⟩ := hout
  have Hin := Lib.hid hin
  have Hls := Lib.hid hls
  have hsl := hin.2.1.1
  simp only at hsl
  have hs40 : s.length ≤ 1099511627777 := by
    have h1 := asc_pairwise hls.1
    have h2 : (s.map Bd.v).Nodup := (List.pairwise_map.2 (h1.imp fun {a b} h => by omega))
    have h3 := nodup_le 1099511627777 (s.map Bd.v) h2 fun x hx => by
      obtain ⟨y, hy, rfl⟩ := List.mem_map.1 hx
      have h4 := (hls.2.2 y hy).2
      omega
    simpa using h3
  clear hin hls ho q0
  go_wp2_with fail
  go_loopg [5, 6] s.length (fun m v i wr => ∃ (k : Nat) (u : Value), u = v ∧ k ≤ s.length ∧ m = s.length - k ∧ i = .int .i64 k ∧ Hid (IntsOwn wr w1.heap.size u ((s.take k).map Bd.v)) ∧ Gr w1 wr)
  case atStart => exact ⟨0, _, rfl, Nat.zero_le _, rfl, rfl, IntsOwn.nil _ _, Gr.rfl' _⟩
  case round =>
    obtain ⟨k, u, rfl, hk, rfl, rfl, hrow, gr⟩ := hrel
    have gwr : Gr w wr := g1.trans gr
    have hsz := gr.size
    by_cases hlt : k < s.length
    · obtain ⟨b, o, rfl⟩ := Hin.out.ptr (by omega)
      obtain ⟨⟨c0, c1, c2, c3, c4⟩, hti, ⟨hv1, hv2⟩, hbl0⟩ := (Hin.out.mono gr).elem k hlt
      have Htk := Lib.hid (show (s.take (k + 1)).map Bd.v = (s.take k).map Bd.v ++ [s[k].v] by rw [List.take_succ_eq_append_getElem hlt, List.map_append]; rfl)
      have htl : ((s.take k).map Bd.v).length ≤ 1099511627777 := by rw [List.length_map, List.length_take]; omega
      clear hti
      generalize s[k] = y at *
      go_wp2_with (first
        | (refine wpList_append_int rfl _ _ rfl rfl w1.heap.size u ((s.take k).map Bd.v) y.v wr.heap.size 1 (by rfl) (by rfl) (hrow.out.gr (by go_grown)) (by simp; omega) htl (by go_cell) ?_
           intro v' w4 h2 h3 h4)
        | fail)
      have g4 : Gr w1 w4 := Below.trans gr (Below.trans (Below.mono (show Gr wr _ by go_grown) hsz) (grownBy_below (B := w1.heap.size) h3 (by simp; omega) fun b hb => by
        rcases hrow.out.2 with ⟨h0, _⟩ | ⟨g, cap, cur, h0, h2, _⟩
        · rw [h0] at hb; cases hb
        · rw [h0] at hb; cases hb; exact h2))
      go_roundg (s.length - (k + 1))
      case measure => omega
      case rel => exact ⟨k + 1, _, rfl, by omega, rfl, by go_num, by show IntsOwn _ _ _ _; rw [Htk.out]; exact h2, g4⟩
    · obtain rfl : k = s.length := by omega
      have Hfin := Lib.hid (HQ.out s u w1.heap.size wr Hls.out g1.size (by have := hrow.out; rwa [List.take_length] at this) gwr)
      go_wp2_with fail
      exact Hfin.out

set_option maxHeartbeats 2000000 in
set_option maxRecDepth 100000 in
theorem sameNumbers_calls (p q : Option Addr) (c d : Nat) (L : List Int) (w : World) (hx : IntSl w p c L) (hy : IntSl w q d L) :
    Calls Try.prog 21 #[.slice p L.length c, .slice q L.length d] w (Ret (.bool true) w) := by
  have hR : Hid (∀ b, true = b → ∀ w', Gr w w' → Ret (.bool true) w (.returned (.bool b)) w') := fun b hb w' hg => ⟨by rw [hb], hg⟩
  have hlc : L.length ≤ c := hx.1
  have hc : c ≤ 9223372036854775807 := hx.2.1
  have H := Lib.hid hx
  have K := Lib.hid hy
  generalize hQ : Ret (.bool true) w = Q at hR ⊢
  clear hQ hx hy
  go_enter Try.func21, Try.ntmps21
  try simp only [List.append_eq, List.cons_append, List.nil_append]
  go_wp2_with fail
  go_loopg [5] L.length (fun m i wr => ∃ k : Nat, k ≤ L.length ∧ m = L.length - k ∧ i = .int .i64 k ∧ Gr w wr)
  case atStart => exact ⟨0, Nat.zero_le _, rfl, rfl, Gr.rfl' _⟩
  case round =>
    obtain ⟨k, hk, rfl, rfl, gr⟩ := hrel
    by_cases hlt : k < L.length
    · obtain ⟨b, o, rfl, _, hr⟩ := (H.out.mono gr).ptr (by omega)
      obtain ⟨b', o', rfl, _, hr'⟩ := (K.out.mono gr).ptr (by omega)
      have h0 : L[k]? = some L[k] := List.getElem?_eq_getElem hlt
      have c0 := hr k _ h0
      have d0 := hr' k _ h0
      clear hr hr' h0
      generalize L[k] = y at *
      go_wp2_with fail
      go_quiet (fail)
      go_wp2_with fail
      go_roundg (L.length - (k + 1))
      case measure => omega
      case rel => exact ⟨k + 1, by omega, rfl, by go_num, gr.drewN _⟩
    · obtain rfl : k = L.length := by omega
      go_wp2_with fail
      exact hR.out _ rfl _ gr
end Go.Proofs.Ytmecghjnghhhkaa

namespace Go.Proofs.Ytmecghjnghhhkaa

/-- The pairs that a store holds, what it is, its trail, its marks. -/
inductive Hist : List (T × T) → (Int → Option T) → (Int → T) → List Int → List Int → Prop where
  | start : Hist [] (fun _ => none) varT [] []
  | step {E : List (T × T)} {σ σ' : Int → Option T} {ρ ρ' : Int → T} {tr new mk : List Int} {p : T × T} (h : Hist E σ ρ tr mk) (ok : StoreOk σ' ρ') (hh : Holds (E ++ [p]) ρ') (fr : ∀ n, n ∈ new → σ n = none) (ke : ∀ n, n ∉ new → σ' n = σ n) : Hist (E ++ [p]) σ' ρ' (tr ++ new) (mk ++ [(tr.length : Int)])

theorem Hist.ok {E : List (T × T)} {σ : Int → Option T} {ρ : Int → T} {tr mk : List Int} (h : Hist E σ ρ tr mk) : StoreOk σ ρ := by
  cases h with
  | start => exact StoreOk.empty
  | step _ ok _ _ _ => exact ok
theorem Hist.holds {E : List (T × T)} {σ : Int → Option T} {ρ : Int → T} {tr mk : List Int} (h : Hist E σ ρ tr mk) : Holds E ρ := by
  cases h with
  | start => exact holds_nil
  | step _ _ hh _ _ => exact hh
theorem Hist.len {E : List (T × T)} {σ : Int → Option T} {ρ : Int → T} {tr mk : List Int} (h : Hist E σ ρ tr mk) : E.length = mk.length := by
  induction h with
  | start => rfl
  | step _ _ _ _ _ ih => simp [ih]
/-- What stood at a mark. -/
theorem Hist.back {E : List (T × T)} {σ : Int → Option T} {ρ : Int → T} {tr mk : List Int} (h : Hist E σ ρ tr mk) : ∀ (k : Nat) (hk : k < mk.length),
    ∃ σk ρk trk new, Hist (E.take k) σk ρk trk (mk.take k) ∧ tr = trk ++ new ∧ (∀ n, n ∈ new → σk n = none) ∧ (∀ n, n ∉ new → σ n = σk n) ∧ mk[k] = (trk.length : Int) := by
  induction h with
  | start => intro k hk; simp at hk
  | @step E σ σ' ρ ρ' tr new mk p h ok hh fr ke ih =>
    intro k hk
    have hl := h.len
    by_cases h1 : k < mk.length
    · obtain ⟨σk, ρk, trk, nw, a1, a2, a3, a4, a5⟩ := ih k h1
      refine ⟨σk, ρk, trk, nw ++ new, ?_, by rw [a2, List.append_assoc], fun n hn => ?_, fun n hn => ?_, ?_⟩
      · rw [List.take_append_of_le_length (by omega), List.take_append_of_le_length (by omega)]
        exact a1
      · rcases List.mem_append.1 hn with hn | hn
        · exact a3 n hn
        · by_cases h2 : n ∈ nw
          · exact a3 n h2
          · rw [← a4 n h2]
            exact fr n hn
      · have h2 : n ∉ nw := fun h => hn (List.mem_append_left _ h)
        have h3 : n ∉ new := fun h => hn (List.mem_append_right _ h)
        rw [ke n h3, a4 n h2]
      · rw [List.getElem_append_left h1]
        exact a5
    · obtain rfl : k = mk.length := by
        rw [List.length_append, List.length_singleton] at hk
        omega
      refine ⟨σ, ρ, tr, new, ?_, rfl, fr, ke, ?_⟩
      · rw [List.take_left, ← hl, List.take_left]
        exact h
      · simp
end Go.Proofs.Ytmecghjnghhhkaa

namespace Go.Proofs.Ytmecghjnghhhkaa
open Go.ChangeShapes Go.WideShapes Go.ChangeAt Go.RowKit Go.Deep

/-- A row of structs. -/
def RowOf {X : Type} (cellsX : X → List Value) (sz : Nat) (w : World) (b o : Nat) (l : List X) : Prop :=
  ∀ (i : Nat) (x : X), l[i]? = some x → ∀ (j : Nat) (v : Value), (cellsX x)[j]? = some v → w.cell? ⟨b, o + i * sz + j, none⟩ = some v

/-- A slice of structs, of each of which something is known. -/
def SlOf {X : Type} (cellsX : X → List Value) (InX : X → Prop) (sz bytes : Nat) (w : World) (p : Option Addr) (c : Nat) (l : List X) : Prop :=
  l.length ≤ c ∧ (l.length * bytes ≤ 140737488351232 ∧ c ≤ 9223372036854775807) ∧ (l = [] ∨ ∃ b o, p = some ⟨b, o, none⟩ ∧ b < w.heap.size ∧ RowOf cellsX sz w b o l) ∧ ∀ y ∈ l, InX y

section
variable {X : Type} {cellsX : X → List Value} {InX : X → Prop} {sz bytes : Nat} {w w' : World} {p : Option Addr} {c : Nat} {l : List X}

theorem SlOf.mono (h : SlOf cellsX InX sz bytes w p c l) (hg : Gr w w') : SlOf cellsX InX sz bytes w' p c l := by
  obtain ⟨h1, h2, h3, h4⟩ := h
  refine ⟨h1, h2, h3.imp id ?_, h4⟩
  rintro ⟨b, o, hp, hb, hr⟩
  exact ⟨b, o, hp, Nat.lt_of_lt_of_le hb hg.size, fun i y hy j v hv => hg.at (hr i y hy j v hv)⟩

theorem SlOf.ptr (h : SlOf cellsX InX sz bytes w p c l) (hl : 0 < l.length) : ∃ b o, p = some ⟨b, o, none⟩ ∧ b < w.heap.size ∧ RowOf cellsX sz w b o l := by
  obtain ⟨_, _, h3, _⟩ := h
  rcases h3 with rfl | h3
  · simp at hl
  · exact h3

theorem SlOf.nil : SlOf cellsX InX sz bytes w none 0 [] := ⟨Nat.le_refl _, ⟨by simp, by omega⟩, .inl rfl, fun y hy => by simp at hy⟩
end

section
variable {H : Type} {enc : TypeId × Value → H} {W : World}

/-- A slice that came in. -/
theorem open_sl {X : Type} {E T : TypeId} {sz bytes : Nat} (cellsX : X → List Value) (InX : X → Prop) (ht : Try.prog.underlying T = some (.slice E)) (hc : Try.prog.cellsOf E = sz) (hb : Try.prog.bytesOf E = bytes) (hpos : 0 < sz)
    (hel : ∀ (fuel : Nat) (cs : List Value) (x : DataW H × List MemPlace), DataW.trod enc Try.prog W 0 (fun _ => true) true fuel E cs = some x → (∀ n ∈ x.1.weights Try.prog E, n ≤ reachBytes) → ∃ y : X, cs = cellsX y ∧ InX y)
    {fuel : Nat} {cs : List Value} {x : DataW H × List MemPlace} (h : DataW.trod enc Try.prog W 0 (fun _ => true) true fuel T cs = some x) (hw : ∀ n ∈ x.1.weights Try.prog T, n ≤ reachBytes) :
    ∃ p c l, cs = [.slice p l.length c] ∧ SlOf cellsX InX sz bytes W p c l := by
  rcases open_slice_el cellsX InX ht hc hb hel h hw with hcs | ⟨a, cap, l, hcs, h1, h2, h3, h4⟩
  · exact ⟨none, 0, [], hcs, SlOf.nil⟩
  · have hll : l.length * bytes ≤ 140737488351232 := Nat.le_trans (Nat.mul_le_mul_right _ h1) h3
    refine ⟨some a, cap, l, hcs, h1, ⟨hll, h2⟩, ?_, fun y hy => ?_⟩
    · by_cases hl0 : l = []
      · exact .inl hl0
      · right
        have h0 : 0 < l.length := List.length_pos_iff.2 hl0
        obtain ⟨h10, _⟩ := h4 0 l[0] (List.getElem?_eq_getElem h0)
        obtain ⟨_, hn2, hn3⟩ := World.cells?_some h10
        obtain ⟨b, o, spot⟩ := a
        have hne : W.cell? ⟨b, o, spot⟩ = some ((cellsX l[0])[0]'(by omega)) := by
          have h9 := hn3 0 (by omega)
          rw [List.getElem?_eq_getElem (by omega)] at h9
          rw [← h9]
          simp [Addr.add]
        have hspot : spot = none := World.cell?_spot hne
        subst hspot
        refine ⟨b, o, rfl, World.block_lt_of_cell? _ _ hne, fun i x hx j v hv => ?_⟩
        obtain ⟨h10, _⟩ := h4 i x hx
        obtain ⟨_, hm2, hm3⟩ := World.cells?_some h10
        have hj : j < sz := by rw [← hm2]; exact (List.getElem?_eq_some_iff.1 hv).1
        have h9 := hm3 j hj
        rw [Go.WideShapes.add_plain, Go.WideShapes.add_plain, hv] at h9
        exact h9
    · obtain ⟨i, hi, rfl⟩ := List.getElem_of_mem hy
      exact (h4 i l[i] (List.getElem?_eq_getElem hi)).2
end
end Go.Proofs.Ytmecghjnghhhkaa
