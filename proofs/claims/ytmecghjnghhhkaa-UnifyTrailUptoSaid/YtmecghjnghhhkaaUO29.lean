/-
  hornkeep.UnifyOrder: the walk.
-/
import Derived.Test.YtmecghjnghhhkaaUO28
namespace Go.Proofs.Ytmecghjnghhhkaa
open Go.RowKit Go.Maps Go.Lib

/-- The slice v of the call's own (blocks from B on) holds the pairs l. -/
def BuiltPrs (w : World) (B : Nat) (v : Value) (l : List Pr) : Prop := w.ownsRow B 29 8 v l.length (l.flatMap Pr.cells)
theorem infoPr : (Try.prog.info? 29).map (fun i => (i.zero, i.size, i.bytes)) = some (some (.agg #[.int .i64 0, .int .i64 0, .string ⟨#[]⟩, .slice none 0 0, .int .i64 0, .int .i64 0, .string ⟨#[]⟩, .slice none 0 0]), 8, 112) := by kernel_rfl
def prCells (x : Pr) : Array Value := #[.int .i64 x.a.k, .int .i64 x.a.n, .string x.a.s, .slice x.a.p x.a.l.length x.a.c, .int .i64 x.b.k, .int .i64 x.b.n, .string x.b.s, .slice x.b.p x.b.l.length x.b.c]
theorem wpList_append_pr {P : Program} {w : World} {ops : Array Oper} {rest : List Oper} {o : Oper} {a : Act} {Q : Exit → Act → World → Prop} (hgd : o.guard = none) (s y : Operand)
    (ho : o.op = .call { callee := .builtin .append, args := #[s, y], argTypes := #[22, 22] }) (hP : P = Try.prog)
    (B : Nat) (v : Value) (l : List Pr) (x : Pr) (b c : Nat) (hs : a.eval s = v) (hy : a.eval y = .slice (some ⟨b, 0, none⟩) 1 c) (h : BuiltPrs w B v l) (hB : B ≤ w.heap.size) (hl : (l.length + 1) * 112 ≤ 140737488351232)
    (hX : BlkT w b 29 (prCells x))
    (hK : ∀ v' w', BuiltPrs w' B v' (l ++ [x]) → w.grownBy w' v.ownBlock → (v'.ownBlock = v.ownBlock ∨ v'.ownBlock = some w.heap.size) → wpList P ops Q rest (a.put o.dst v') w') : wpList P ops Q (o :: rest) a w := by
  subst hP
  refine wpList_append_one hgd s y 22 29 ho Try.underlying22 infoPr rfl (by decide) B v l.length (l.flatMap Pr.cells) b c x.cells hs hy h hB rfl ?_ ?_ (by simp only [maxLen]; omega) (by omega) ?_
  · intro j u hu
    match j, hu with
    | 0, hu => cases hu; exact hX.cell 0 rfl
    | 1, hu => cases hu; exact hX.cell 1 rfl
    | 2, hu => cases hu; exact hX.cell 2 rfl
    | 3, hu => cases hu; exact hX.cell 3 rfl
    | 4, hu => cases hu; exact hX.cell 4 rfl
    | 5, hu => cases hu; exact hX.cell 5 rfl
    | 6, hu => cases hu; exact hX.cell 6 rfl
    | 7, hu => cases hu; exact hX.cell 7 rfl
    | j + 8, hu => simp [Pr.cells, Tm.cells] at hu
  · intro u hu
    simp only [Pr.cells, Tm.cells, List.cons_append, List.nil_append, List.mem_cons, List.mem_nil_iff, or_false] at hu
    rcases hu with rfl | rfl | rfl | rfl | rfl | rfl | rfl | rfl <;> rfl
  · intro v' w' h2 h3 h4
    refine hK v' w' ?_ h3 h4
    show w'.ownsRow B _ 8 v' _ _
    rw [List.length_append, List.flatMap_append]
    simpa using h2
theorem prcells_len : ∀ l : List Pr, (l.flatMap Pr.cells).length = l.length * 8
  | [] => rfl
  | x :: xs => by rw [List.flatMap_cons, List.length_append, prcells_len xs, List.length_cons, Pr.cells, Tm.cells, Tm.cells]; simp; omega
theorem prcells_at : ∀ {l : List Pr} {i : Nat} {x : Pr}, l[i]? = some x → ∀ j, j < 8 → (l.flatMap Pr.cells)[i * 8 + j]? = x.cells[j]?
  | y :: ys, 0, x, h, j, hj => by
    simp only [List.getElem?_cons_zero, Option.some.injEq] at h
    subst h
    rw [List.flatMap_cons, Nat.zero_mul, Nat.zero_add, List.getElem?_append_left (by simp [Pr.cells, Tm.cells]; omega)]
  | y :: ys, i + 1, x, h, j, hj => by
    simp only [List.getElem?_cons_succ] at h
    rw [List.flatMap_cons, List.getElem?_append_right (by simp [Pr.cells, Tm.cells]; omega), ← prcells_at h j hj]
    simp only [Pr.cells, Tm.cells, List.length_append, List.length_cons, List.length_nil]
    congr 1
    omega
theorem BuiltPrs.prs {w : World} {B : Nat} {v : Value} {l : List Pr} (h : BuiltPrs w B v l) (hl : l.length * 112 ≤ 140737488351232) (hs : ∀ y ∈ l, y.a.In w ∧ y.b.In w) :
    ∃ p c, v = .slice p l.length c ∧ (Prs.mk p c l).In w := by
  rcases h.2 with ⟨rfl, h1⟩ | ⟨g, cap, cur, h0, hbg, hg, hnc, hcm, hcs, htake⟩
  · have hn : l = [] := List.eq_nil_of_length_eq_zero h1
    subst hn
    exact ⟨none, 0, rfl, Nat.le_refl _, ⟨by simp, by simp⟩, .inl rfl, fun y hy => by simp at hy⟩
  · simp only [maxLen] at hcm
    refine ⟨some ⟨g, 0, none⟩, cap, h0, hnc, ⟨hl, by simp only; omega⟩, .inr ⟨g, 0, rfl, ?_⟩, hs⟩
    intro i x hx
    have hi : i < l.length := (List.getElem?_eq_some_iff.1 hx).1
    subst h0
    have hat : ∀ j, j < 8 → w.cell? ⟨g, 0 + i * 8 + j, none⟩ = x.cells[j]? := by
      intro j hj
      rw [Nat.zero_add, World.ownsRow.cellAt h _ (by omega)]
      exact prcells_at hx j hj
    exact ⟨⟨hat 0 (by omega), hat 1 (by omega), hat 2 (by omega), hat 3 (by omega)⟩, hat 4 (by omega), hat 5 (by omega), hat 6 (by omega), hat 7 (by omega)⟩
theorem BuiltPrs.gr {w w' : World} {B : Nat} {v : Value} {l : List Pr} (h : BuiltPrs w B v l) (hg : Gr w w') : BuiltPrs w' B v l := ownsRow_gr h hg
theorem BuiltPrs.ge {w : World} {B : Nat} {v : Value} {l : List Pr} (h : BuiltPrs w B v l) {b : Nat} (hb : v.ownBlock = some b) : B ≤ b := by
  rcases h.2 with ⟨rfl, _⟩ | ⟨g, cap, cur, rfl, h2, _⟩
  · cases hb
  · cases hb; exact h2

/-- A new block for a pair. -/
def prNew (B0 : Nat) (x : Pr) : VP := fun v w => ∃ B, v = .slice (some ⟨B, 0, none⟩) 1 1 ∧ B0 ≤ B ∧ BlkT w B 29 (prCells x)
theorem prNew_stable {B0 : Nat} {x : Pr} : ∀ v w w', prNew B0 x v w → Gr w w' → prNew B0 x v w' := fun _ _ _ ⟨B, h1, h2, h3⟩ hg => ⟨B, h1, h2, h3.gr hg⟩
/-- A pair as it stood, or its sides changed over. -/
def Turned (x y : Pr) : Prop := y = x ∨ y = ⟨x.b, x.a⟩
theorem Turned.formed {x y : Pr} (h : Turned x y) : (y.a.erase.formed && y.b.erase.formed) = (x.a.erase.formed && x.b.erase.formed) := by
  rcases h with rfl | rfl
  · rfl
  · exact Bool.and_comm _ _
theorem Turned.unif {x y : Pr} (h : Turned x y) (θ : Int → T) : T.map θ y.a.erase = T.map θ y.b.erase ↔ T.map θ x.a.erase = T.map θ x.b.erase := by
  rcases h with rfl | rfl
  · exact Iff.rfl
  · exact eq_comm
/-- The last j pairs, turned this way or that. -/
structure Back (l : List Pr) (j : Nat) (m : List Pr) : Prop where
  len : m.length = j
  src : ∀ y ∈ m, ∃ x ∈ l, Turned x y
  all : ∀ (i : Nat) (h : i < l.length), l.length ≤ i + j → ∃ y ∈ m, Turned l[i] y
theorem Back.step {l : List Pr} {j : Nat} {m : List Pr} (h : Back l j m) (hj : j < l.length) {y : Pr} (hy : Turned (l[l.length - 1 - j]'(by omega)) y) : Back l (j + 1) (m ++ [y]) where
  len := by rw [List.length_append, h.len]; rfl
  src z hz := by
    rcases List.mem_append.1 hz with hz | hz
    · exact h.src z hz
    · rw [List.mem_singleton] at hz
      subst hz
      exact ⟨_, List.getElem_mem _, hy⟩
  all i hi hij := by
    by_cases h1 : l.length ≤ i + j
    · obtain ⟨z, hz, ht⟩ := h.all i hi h1
      exact ⟨z, List.mem_append_left _ hz, ht⟩
    · have : i = l.length - 1 - j := by omega
      subst this
      exact ⟨y, List.mem_append_right _ (List.mem_singleton.2 rfl), hy⟩
theorem Back.allP {l m : List Pr} (h : Back l l.length m) : allP m = allP l := by
  rw [Bool.eq_iff_iff]
  unfold Go.Proofs.Ytmecghjnghhhkaa.allP
  rw [List.all_eq_true, List.all_eq_true]
  constructor
  · intro h1 x hx
    obtain ⟨i, hi, rfl⟩ := List.getElem_of_mem hx
    obtain ⟨y, hy, ht⟩ := h.all i hi (by omega)
    have := h1 y hy
    rwa [ht.formed] at this
  · intro h1 y hy
    obtain ⟨x, hx, ht⟩ := h.src y hy
    rw [ht.formed]
    exact h1 x hx
theorem Back.unif {l m : List Pr} (h : Back l l.length m) (θ : Int → T) : Unif θ (seePrs m) ↔ Unif θ (seePrs l) := by
  constructor
  · intro h1 q hq
    obtain ⟨x, hx, rfl⟩ := List.mem_map.1 hq
    obtain ⟨i, hi, rfl⟩ := List.getElem_of_mem hx
    obtain ⟨y, hy, ht⟩ := h.all i hi (by omega)
    exact (ht.unif θ).1 (h1 (y.a.erase, y.b.erase) (List.mem_map.2 ⟨y, hy, rfl⟩))
  · intro h1 q hq
    obtain ⟨y, hy, rfl⟩ := List.mem_map.1 hq
    obtain ⟨x, hx, ht⟩ := h.src y hy
    exact (ht.unif θ).2 (h1 (x.a.erase, x.b.erase) (List.mem_map.2 ⟨x, hx, rfl⟩))
theorem Back.holds {l m : List Pr} (h : Back l l.length m) {ρ : Int → T} (hh : Holds (seePrs m) ρ) : Holds (seePrs l) ρ :=
  ⟨(h.unif ρ).1 hh.1, fun θ hθ => hh.2 θ ((h.unif θ).2 hθ)⟩
/-- Two solved forms of the same pairs. -/
theorem Holds.uniq {E : List (T × T)} {ρ ρ' : Int → T} (h : Holds E ρ) (h' : Holds E ρ') (hc : Canon ρ) (hc' : Canon ρ') : ρ = ρ' := hc.uniq hc' (h.2 _ h'.1) (h'.2 _ h.1)

set_option maxHeartbeats 4000000 in
set_option maxRecDepth 100000 in
theorem unifyOrder_walk (x : Prs) (n : Int) (w : World) (h : x.In w) (_ : In64 n) : Calls Try.prog 3 #[x.val, .int .i64 n] w (Ret (.bool true) w) := by
  obtain ⟨p, c, l⟩ := x
  have HP := Lib.hid h
  have hll := h.2.1.1
  simp only at hll
  have Hfits := Lib.hid (fitsPairs_calls p c l w h)
  have Hsolve := Lib.hid (fun w' (g : Gr w w') => solve_calls p c l w' (h.mono g))
  have hR : Hid (∀ b w', true = b → Gr w w' → Ret (.bool true) w (.returned (.bool b)) w') := fun b w' h1 h2 => ⟨by rw [h1], h2⟩
  generalize Ret (.bool true) w = Q at hR ⊢
  have HR := hR
  clear h hR
  rw [show (Prs.mk p c l).val = .slice p l.length c from rfl]
  go_enter Try.func3, Try.ntmps3
  try simp only [List.append_eq, List.cons_append, List.nil_append]
  go_wp2_with fail
  refine Hfits.out.mono ?_
  rintro e w1 ⟨b, rfl, hfit, g1⟩
  clear hfit Hfits
  cases b with
  | false =>
    go_wp2_with fail
    exact HR.out _ _ rfl g1
  | true =>
    go_wp2_with fail
    refine (thereUnify_calls w1).mono ?_
    rintro e w2 ⟨rfl, g2⟩
    replace g2 : Gr w w2 := g1.trans g2
    have hs2 : w.heap.size ≤ w2.heap.size := g2.size
    go_wp2_with fail
    go_loopg [5, 6] l.length (fun m v0 i wi => ∃ (j : Nat) (lm : List Pr) (v : Value), v = v0 ∧ j ≤ l.length ∧ m = l.length - j ∧ i = .int .i64 ((l.length : Int) - 1 - j) ∧ BuiltPrs wi w2.heap.size v lm ∧ Hid (Back l j lm) ∧ Gr w2 wi)
    case atStart => exact ⟨0, [], _, rfl, Nat.zero_le _, rfl, by simp, World.ownsRow_nil _ _ _ 8, ⟨rfl, (fun y hy => nomatch hy), fun i h hi => by omega⟩, Gr.rfl' _⟩
    case round =>
      obtain ⟨j, lm, v, rfl, hj, rfl, hi, hrow, hback, gr⟩ := hrel
      have Hrow := Lib.hid hrow
      clear hrow
      by_cases hlt : j < l.length
      · obtain ⟨b, o, rfl⟩ := HP.out.ptr (by omega)
        have hk : l.length - 1 - j < l.length := by omega
        rw [show (l.length : Int) - 1 - j = ((l.length - 1 - j : Nat) : Int) by omega] at hi
        have Hst : Hid (∀ y, Turned l[l.length - 1 - j] y → Back l (j + 1) (lm ++ [y])) := fun y hy => hback.out.step hlt hy
        obtain ⟨⟨⟨c0, c1, c2, c3⟩, ⟨d0, d1, d2, d3⟩⟩, ⟨hia, hib⟩, hbl⟩ := (HP.out.mono (g2.trans gr)).elem (l.length - 1 - j) hk
        have hlm := hback.out.len
        have hnext : ((l.length - 1 - j : Nat) : Int) - 1 = (l.length : Int) - 1 - (j + 1 : Nat) := by omega
        generalize l[l.length - 1 - j] = y at *
        generalize l.length - 1 - j = k at *
        subst hi
        have hsz : w2.heap.size ≤ wr.heap.size := gr.size
        have hlen : (lm.length + 1) * 112 ≤ 140737488351232 := by omega
        clear hia hib hback
        go_upto_if 27 with fail
        generalize ((wrap64 (↑k + n)).tmod 2 == 0) = bb at *
        cases bb with
        | true =>
          have hB := Hst.out y (.inl rfl)
          have HB := Lib.hid hB
          clear hB
          go_wp2_with (first
            | (refine wpList_append_pr rfl _ _ rfl rfl w2.heap.size _ lm y wr.heap.size 1 (by rfl) (by rfl) (Hrow.out.gr (by go_grown)) (by simp; omega) hlen (BlkT.new wr _ _) ?_
               intro v' w6 h2 h3 h4)
            | fail)
          have g6 : Gr w2 w6 := Below.trans gr (Below.trans (Below.mono (show Gr wr _ by go_grown) hsz) (grownBy_below h3 (by simp; omega) fun b hb => Hrow.out.ge hb))
          go_roundg (l.length - (j + 1))
          case measure => omega
          case rel => exact ⟨j + 1, _, _, rfl, by omega, rfl, congrArg (Value.int .i64) (by omega), h2, HB.out, g6⟩
        | false =>
          have hB := Hst.out ⟨y.b, y.a⟩ (.inr rfl)
          have HB := Lib.hid hB
          clear hB
          go_upto_region 11 with fail

          refine wp_region_rely_tail 13 [fx v, fx (.slice (some ⟨b, o, none⟩) l.length c), fx (.int .i64 k), fx (.pointer (some ⟨b, o + k * 8, none⟩)), fx (.pointer (some ⟨b, o + k * 8 + 4, none⟩)), fx (.agg #[.int .i64 y.b.k, .int .i64 y.b.n, .string y.b.s, .slice y.b.p y.b.l.length y.b.c]), fx (.slice (some ⟨b, o, none⟩) l.length c), fx (.int .i64 k), fx (.pointer (some ⟨b, o + k * 8, none⟩)), fx (.pointer (some ⟨b, o + k * 8, none⟩)), fx (.agg #[.int .i64 y.a.k, .int .i64 y.a.n, .string y.a.s, .slice y.a.p y.a.l.length y.a.c]), fx (.agg #[.int .i64 y.b.k, .int .i64 y.b.n, .string y.b.s, .slice y.b.p y.b.l.length y.b.c, .int .i64 y.a.k, .int .i64 y.a.n, .string y.a.s, .slice y.a.p y.a.l.length y.a.c]), prNew wr.heap.size ⟨y.b, y.a⟩]
            (by kernel_rfl) (by kernel_rfl) (by decide) (by repeat (first | exact Stable.nil | refine Stable.fix ?_ | refine Stable.cons prNew_stable ?_)) ?_ ?_
          · refine ⟨?_, ?_, ?_, ?_, ?_, ?_, ?_, ?_, ?_, ?_, ?_, ?_, ?a12, trivial⟩
            all_goals
              intro a wz hg hold
              have h0 : a.tmps[0]?.getD undef = .slice (some ⟨b, o, none⟩) l.length c := hold 0 rfl
              have h5 : a.tmps[5]?.getD undef = v := hold 5 rfl
              have h6 : a.tmps[6]?.getD undef = .int .i64 k := hold 6 rfl
              have zc0 := Gr.at hg c0
              have zc1 := Gr.at hg c1
              have zc2 := Gr.at hg c2
              have zc3 := Gr.at hg c3
              have zd0 := Gr.at hg d0
              have zd1 := Gr.at hg d1
              have zd2 := Gr.at hg d2
              have zd3 := Gr.at hg d3
              have Hg := Lib.hid hg
              clear hold c0 c1 c2 c3 d0 d1 d2 d3
              simp [predsImp, Region.binds, dstAt, fx]
              intros
              first
                | (rw [if_pos (by simp [*])]
                   intro K hK)
                | (rename_i K hK)
              go_simp
            case a12 =>
              exact hK _ _ ⟨_, rfl, Hg.out.size, BlkT.new _ _ _⟩ (by go_grown)
            all_goals exact hK _ _ rfl (Gr.rfl' _)
          · intro w9 hg
            rintro _ rfl _ rfl _ rfl _ rfl _ rfl _ rfl _ rfl _ rfl _ rfl _ rfl _ rfl _ rfl _ ⟨X0, rfl, hX0, hX⟩
            simp only [finAll, Act.put, List.setIfInBounds_toArray, List.set_cons_succ, List.set_cons_zero, List.drop_succ_cons, List.drop_zero, List.take_zero]
            have HX := Lib.hid hX
            have hs9 : wr.heap.size ≤ w9.heap.size := hg.size
            clear hX c0 c1 c2 c3 d0 d1 d2 d3
            refine wpList_append_pr rfl _ _ rfl rfl w2.heap.size _ lm ⟨y.b, y.a⟩ X0 1 (by rfl) (by rfl) (Hrow.out.gr hg) (by omega) hlen HX.out ?_
            intro v' w6 h2 h3 h4
            have g6 : Gr w2 w6 := Below.trans (gr.trans hg) (grownBy_below h3 (by omega) fun b hb => Hrow.out.ge hb)
            go_wp2_with fail
            go_roundg (l.length - (j + 1))
            case measure => omega
            case rel => exact ⟨j + 1, _, _, rfl, by omega, rfl, congrArg (Value.int .i64) (by omega), h2, HB.out, g6⟩
      · obtain rfl : j = l.length := by omega
        rw [show (l.length : Int) - 1 - l.length = -1 by omega] at hi
        subst hi
        have gw : Gr w wr := g2.trans gr
        obtain ⟨p2, c2, rfl, hprs⟩ := Hrow.out.prs (by rw [hback.out.len]; omega) fun y hy => by
          obtain ⟨x, hx, ht⟩ := hback.out.src y hy
          have hin := (HP.out.mono gw).2.2.2 x hx
          rcases ht with rfl | rfl
          · exact hin
          · exact ⟨hin.2, hin.1⟩
        have Hso2 := Lib.hid (fun w' (g : Gr wr w') => solve_calls p2 c2 lm w' (hprs.mono g))
        have hA := hback.out.allP
        clear Hrow hprs hlt hj
        go_wp2_with fail
        refine (Hsolve.out wr gw).mono ?_
        rintro e w5 ⟨g5, hs⟩
        have Hs2 := Lib.hid (Hso2.out w5 g5)
        have gw5 : Gr w w5 := gw.trans g5
        clear Hso2 Hsolve
        rcases hs with ⟨ha, rfl⟩ | ⟨ha, ⟨rfl, hun⟩ | ⟨ρ, p3, c3, s, rfl, ins, hl, hc, hh⟩⟩
        · go_wp2_with fail
          refine Hs2.out.mono ?_
          rintro e w6 ⟨g6, ⟨hb, rfl⟩ | ⟨hb, -⟩⟩
          · have Hsb := Lib.hid (sameBinds_calls none none 0 0 [] [] w6 ⟨Nat.le_refl _, ⟨by simp, by simp⟩, .inl rfl, (fun y hy => nomatch hy)⟩ ⟨Nat.le_refl _, ⟨by simp, by simp⟩, .inl rfl, (fun y hy => nomatch hy)⟩ rfl)
            clear hA ha hb
            go_wp2_with fail
            refine Hsb.out.mono ?_
            rintro e w7 ⟨rfl, g7⟩
            replace g7 : Gr w6 w7 := g7
            go_wp2_with fail
            exact HR.out _ _ rfl ((gw5.trans g6).trans g7)
          · rw [hA, ha] at hb; cases hb
        · have Hun := Lib.hid hun
          clear hun
          go_wp2_with fail
          refine Hs2.out.mono ?_
          rintro e w6 ⟨g6, ⟨hb, rfl⟩ | ⟨hb, ⟨rfl, -⟩ | ⟨ρ, p4, c4, s4, rfl, -, -, -, hh⟩⟩⟩
          · rw [hA, ha] at hb; cases hb
          · have Hsb := Lib.hid (sameBinds_calls none none 0 0 [] [] w6 ⟨Nat.le_refl _, ⟨by simp, by simp⟩, .inl rfl, (fun y hy => nomatch hy)⟩ ⟨Nat.le_refl _, ⟨by simp, by simp⟩, .inl rfl, (fun y hy => nomatch hy)⟩ rfl)
            clear hA ha hb
            go_wp2_with fail
            refine Hsb.out.mono ?_
            rintro e w7 ⟨rfl, g7⟩
            replace g7 : Gr w6 w7 := g7
            go_wp2_with fail
            exact HR.out _ _ rfl ((gw5.trans g6).trans g7)
          · exact absurd (hback.out.holds hh).1 (Hun.out ρ)
        · have Ins := Lib.hid ins
          have Hl := Lib.hid hl
          have Hc := Lib.hid hc
          have Hh := Lib.hid hh
          clear ins hl hc hh
          go_wp2_with fail
          refine Hs2.out.mono ?_
          rintro e w6 ⟨g6, ⟨hb, rfl⟩ | ⟨hb, ⟨rfl, hno⟩ | ⟨ρ2, p4, c4, s4, rfl, in4, hl4, hc4, hh4⟩⟩⟩
          · rw [hA, ha] at hb; cases hb
          · exact absurd ((hback.out.unif ρ).2 Hh.out.1) (hno ρ)
          · obtain rfl : ρ = ρ2 := Hh.out.uniq (hback.out.holds hh4) Hc.out hc4
            have Hsb := Lib.hid (sameBinds_calls p3 p4 c3 c4 s s4 w6 (Ins.out.mono g6) in4 (Hl.out.uniq hl4))
            clear hA ha hb in4 hl4 hc4 hh4
            go_wp2_with fail
            refine Hsb.out.mono ?_
            rintro e w7 ⟨rfl, g7⟩
            replace g7 : Gr w6 w7 := g7
            go_wp2_with fail
            exact HR.out _ _ rfl ((gw5.trans g6).trans g7)
end Go.Proofs.Ytmecghjnghhhkaa
