/-
  An argument of type api.Problem that can be read, with its sizes.
  Reduce and Solve say the same of two problems with the same domains and the same set of constraints.
-/
import Derived.Test.YtbapmokbkjmdcaaDR15
import Derived.Test.YtbapmokbkjmdcaaDK03
namespace Go.Proofs.Ytbapmokbkjmdcaa
open Go.ChangeShapes Go.WideShapes Go.ChangeAt Go.RowKit Go.Deep

/-- How large the rows are. -/
structure Pb.Sz (x : Pb) : Prop where
  dom : x.D.length * 24 ≤ 140737488351232
  row : ∀ d ∈ x.D, d.length * 8 ≤ 140737488351232
  con : x.C.length * 72 ≤ 140737488351232
  each : ∀ y ∈ x.C, y.vs.length * 8 ≤ 140737488351232 ∧ y.cs.length * 8 ≤ 140737488351232
section
variable {H : Type} {enc : TypeId × Value → H} {W : World}
theorem SlOf.imp {X : Type} {cellsX : X → List Value} {I J : X → Prop} {sz bytes : Nat} {w : World} {p : Option Addr} {c : Nat} {l : List X} (h : SlOf cellsX I sz bytes w p c l) (k : ∀ y, I y → J y) : SlOf cellsX J sz bytes w p c l := ⟨h.1, h.2.1, h.2.2.1, fun y hy => k y (h.2.2.2 y hy)⟩
theorem open_irowS (fuel : Nat) (cs : List Value) (x : DataW H × List MemPlace) (h : DataW.trod enc Try.prog W 0 (fun _ => true) true fuel 38 cs = some x)
    (hw : ∀ n ∈ x.1.weights Try.prog 38, n ≤ reachBytes) : ∃ y : IRow, cs = [.slice y.p y.l.length y.c] ∧ IntSl W y.p y.c y.l ∧ y.l.length * 8 ≤ 140737488351232 := by
  obtain ⟨p, c, l, h1, h2⟩ := open_sl (fun y : Int => [Value.int .i64 y]) In64 Try.underlying38 cellsI64 bytesI64 (by decide) open_i64 h hw
  exact ⟨⟨p, c, l⟩, h1, sl_ints h2, h2.2.1.1⟩
set_option maxRecDepth 100000 in
theorem open_conS (fuel : Nat) (cs : List Value) (x : DataW H × List MemPlace) (h : DataW.trod enc Try.prog W 0 (fun _ => true) true fuel 42 cs = some x)
    (hw : ∀ n ∈ x.1.weights Try.prog 42, n ≤ reachBytes) : ∃ y : Cn, cs = y.arr.toList ∧ y.In W ∧ y.vs.length * 8 ≤ 140737488351232 ∧ y.cs.length * 8 ≤ 140737488351232 := by
  obtain ⟨xs, m, rfl, rfl, hl, hlen, hf⟩ := DataW.trod_struct Try.underlying42 h
  rw [cellsCon] at hl
  obtain ⟨y0, y1, y2, y3, y4, rfl⟩ := list5 hlen
  obtain ⟨v0, v1, v2, v3, v4, rfl⟩ := list5 hl
  have g0 := hf 0 _ rfl
  have g1 := hf 1 _ rfl
  have g2 := hf 2 _ rfl
  have g3 := hf 3 _ rfl
  have g4 := hf 4 _ rfl
  simp [cellsI, cellsI64, cellsIS, cellsI64S] at g0 g1 g2 g3 g4
  obtain ⟨k, hk, rfl, wk⟩ := DataW.trod_int Try.underlying3 g0
  obtain ⟨o, ho, rfl, wo⟩ := DataW.trod_int Try.underlying3 g3
  obtain ⟨c, hc, rfl, wc⟩ := DataW.trod_int Try.underlying2 g4
  simp only [List.cons.injEq, and_true] at hk ho hc
  subst hk ho hc
  simp only [List.map_cons, List.map_nil, DataW.weights, Try.underlying42, DataW.weightsEach, List.append_nil, List.nil_append, List.mem_append] at hw
  obtain ⟨p1, c1, l1, e1, s1⟩ := open_sl (fun y : Int => [Value.int .i64 y]) In64 Try.underlying40 cellsI bytesI (by decide) open_i1 g1 fun n hn => hw n (.inl hn)
  obtain ⟨p2, c2, l2, e2, s2⟩ := open_sl (fun y : Int => [Value.int .i64 y]) In64 Try.underlying38 cellsI64 bytesI64 (by decide) open_i64 g2 fun n hn => hw n (.inr hn)
  simp only [List.cons.injEq, and_true] at e1 e2
  subst e1 e2
  exact ⟨⟨k, p1, c1, l1, p2, c2, l2, o, c⟩, rfl, ⟨sl_ints s1, sl_ints s2, bounds64 wk, bounds64 wo, bounds64 wc⟩, s1.2.1.1, s2.2.1.1⟩
set_option maxRecDepth 100000 in
/-- An argument of type api.Problem. -/
theorem open_problems_arg {r : Reach} {b0 : Nat} {v : Value} {d : DataW H} {p : List MemPlace} (hv : Value.okWide Try.prog W r b0 25 v)
    (h : DataW.Trod enc Try.prog W 0 (fun _ => true) true 25 v d p) (hw : ∀ n ∈ d.weights Try.prog 25, n ≤ reachBytes) : ∃ x : Pb, v = x.val ∧ x.In W ∧ x.Sz := by
  obtain ⟨cs, rfl, hsz⟩ := okWide_struct Try.underlying25 hv
  obtain ⟨fuel, hf0⟩ := h
  obtain ⟨xs, m, rfl, hds, hl, hlen, hf⟩ := DataW.trod_struct Try.underlying25 hf0
  rw [cellsProb] at hl
  obtain ⟨y0, y1, rfl⟩ := list2 hlen
  change cs.toList.length = 2 at hl
  obtain ⟨v0, v1, hcs⟩ := list2 hl
  have g0 := hf 0 _ rfl
  have g1 := hf 1 _ rfl
  change _ = some _ at g0 g1
  simp only [Value.cells, hcs] at g0 g1
  simp [cellsRowsS, cellsConS] at g0 g1
  simp only [Prod.mk.injEq] at hds
  obtain ⟨rfl, rfl⟩ := hds
  simp only [List.map_cons, List.map_nil, DataW.weights, Try.underlying25, DataW.weightsEach, List.append_nil, List.mem_append] at hw
  obtain ⟨p0, c0, l0, e0, s0⟩ := open_sl (fun y : IRow => [Value.slice y.p y.l.length y.c]) (fun y => IntSl W y.p y.c y.l ∧ y.l.length * 8 ≤ 140737488351232) Try.underlying22 cellsI64S bytesI64S (by decide) open_irowS g0 fun n hn => hw n (.inl hn)
  obtain ⟨p1, c1, l1, e1, s1⟩ := open_sl (fun y : Cn => y.arr.toList) (fun y => y.In W ∧ y.vs.length * 8 ≤ 140737488351232 ∧ y.cs.length * 8 ≤ 140737488351232) Try.underlying23 cellsCon bytesCon (by decide) open_conS g1 fun n hn => hw n (.inr hn)
  simp only [List.cons.injEq, and_true] at e0 e1
  subst e0 e1
  obtain ⟨r1, r2, r3⟩ := sl_rows (s0.imp fun _ h => h.1)
  obtain ⟨k1, k2, k3⟩ := sl_cons (s1.imp fun _ h => h.1)
  refine ⟨⟨p0, c0, l0.map IRow.l, p1, c1, l1⟩, ?_, ⟨r1, ⟨by rw [List.length_map]; exact r2, r3⟩, k1, k2, k3⟩, by rw [List.length_map]; exact s0.2.1.1, fun d hd => ?_, s1.2.1.1, fun y hy => (s1.2.2.2 y hy).2⟩
  case refine_2 =>
    obtain ⟨y, hy, rfl⟩ := List.mem_map.1 hd
    exact (s0.2.2.2 y hy).2
  unfold Pb.val
  rw [List.length_map]
  congr 1
  rw [← Array.toArray_toList (xs := cs), hcs]
end
end Go.Proofs.Ytbapmokbkjmdcaa

namespace Go.Proofs.Ytbapmokbkjmdcaa
open Go.RowKit Go.Maps Go.Lib

theorem satAll_perm {C C' : List Con} (h : ∀ c, c ∈ C ↔ c ∈ C') (s : List Int) : satAll C s = satAll C' s := by
  rw [Bool.eq_iff_iff, satAll, satAll, List.all_eq_true, List.all_eq_true]
  exact ⟨fun k c hc => k c ((h c).2 hc), fun k c hc => k c ((h c).1 hc)⟩
theorem sols_perm {C C' : List Con} (h : ∀ c, c ∈ C ↔ c ∈ C') (D : List (List Int)) : sols C D = sols C' D := List.filter_congr fun s _ => satAll_perm h s
/-- What comes back: rows, one behind the other. -/
structure RowsBack (w : World) (p : Option Addr) (c : Nat) (D : List (List Int)) : Prop where
  at_ : RowsAt w p D
  cap : D.length ≤ c ∧ c ≤ 9223372036854775807
theorem RowsBack.mono {w w' : World} {p : Option Addr} {c : Nat} {D : List (List Int)} (h : RowsBack w p c D) (hg : Gr w w') : RowsBack w' p c D := ⟨h.at_.mono hg, h.cap⟩
theorem RowsBack.nil (w : World) : RowsBack w none 0 [] := ⟨.inl rfl, Nat.le_refl _, by omega⟩
theorem reduce_det (D : List (List Int)) (C : List Con) : ∃ (E : List (List Int)) (ok : Bool) (ec : Int), ∀ (z : Pb) (W : World), z.In W → z.D = D → checkP D z.cons = checkP D C → (∀ c, c ∈ z.cons ↔ c ∈ C) →
    Calls Try.prog 10 #[z.val] W fun en w' => ∃ p c, en = .returned (.tuple #[.slice p E.length c, .bool ok, .int .i64 ec]) ∧ RowsBack w' p c E ∧ Gr W w' := by
  by_cases h0 : checkP D C = 0
  · by_cases hE : ∃ E, RedOk C D E
    · obtain ⟨E, hE⟩ := hE
      refine ⟨E, true, 0, fun z W hz hD hck hm => (reduceP_calls z W hz).mono ?_⟩
      subst hD
      have hE' : RedOk z.cons z.D E := hE.perm fun c => (hm c).symm
      have hck0 : checkP z.D z.cons = 0 := hck.trans h0
      have hND : ∀ d ∈ z.D, d.Nodup := fun d hd => ((okDom_rise ((check_zero hck0).1 d hd)).1).imp fun h e => by omega
      rintro en w' ⟨hg, h⟩
      rcases h with ⟨h, _⟩ | ⟨_, h, _⟩ | ⟨_, E', p, c, h1, h2, h3, h4, h5, h6, _⟩
      · exact absurd hck0 h
      · exact (RedOk.not hE' h).elim
      · obtain rfl := RedOk.uniq hND h1 hE'
        exact ⟨p, c, h2, ⟨h3.at h6, h4, h5⟩, hg⟩
    · refine ⟨[], false, 0, fun z W hz hD hck hm => (reduceP_calls z W hz).mono ?_⟩
      subst hD
      have hck0 : checkP z.D z.cons = 0 := hck.trans h0
      rintro en w' ⟨hg, h⟩
      rcases h with ⟨h, _⟩ | ⟨_, h, h2⟩ | ⟨_, E', p, c, h1, _⟩
      · exact absurd hck0 h
      · exact ⟨none, 0, h2, RowsBack.nil _, hg⟩
      · exact absurd ⟨E', h1.perm hm⟩ hE
  · refine ⟨[], false, checkP D C, fun z W hz hD hck hm => (reduceP_calls z W hz).mono ?_⟩
    subst hD
    rintro en w' ⟨hg, h⟩
    rw [hck] at h
    rcases h with ⟨_, h⟩ | ⟨h, _⟩ | ⟨h, _⟩
    · exact ⟨none, 0, h, RowsBack.nil _, hg⟩
    · exact absurd h h0
    · exact absurd h h0
theorem solve_det (D : List (List Int)) (C : List Con) (most : Int) (hm : most ≤ 20000) : ∃ (L : List (List Int)) (ec : Int), ∀ (z : Pb) (W : World), z.In W → z.D = D → checkP D z.cons = checkP D C → (∀ c, c ∈ z.cons ↔ c ∈ C) →
    Calls Try.prog 15 #[z.val, .int .i64 most] W fun en w' => ∃ p c, en = .returned (.tuple #[.slice p L.length c, .int .i64 ec]) ∧ RowsBack w' p c L ∧ Gr W w' := by
  by_cases h0 : checkP D C = 0
  · refine ⟨(sols C D).take most.toNat, 0, fun z W hz hD hck hmm => (solve_calls z most W hz hm).mono ?_⟩
    subst hD
    rintro en w' ⟨hg, h⟩
    rcases h with ⟨h, _⟩ | ⟨_, L, p, c, h1, h2, h3, h4, h5, h6⟩
    · exact absurd (hck.trans h0) h
    · rw [sols_perm hmm] at h1
      subst h1
      exact ⟨p, c, h2, ⟨h3.at fun s hs => (h6 s hs).2, h4, h5⟩, hg⟩
  · refine ⟨[], checkP D C, fun z W hz hD hck hmm => (solve_calls z most W hz hm).mono ?_⟩
    subst hD
    rintro en w' ⟨hg, h⟩
    rw [hck] at h
    rcases h with ⟨_, h⟩ | ⟨h, _⟩
    · exact ⟨none, 0, h, RowsBack.nil _, hg⟩
    · exact absurd h h0
theorem checkP_perm {D : List (List Int)} {C C' : List Con} (h : ∀ c, c ∈ C ↔ c ∈ C') (hl : 100 < C.length ↔ 100 < C'.length) : checkP D C = checkP D C' := by
  have h1 : (C.all fun c => c.ok D.length) = C'.all fun c => c.ok D.length := by
    rw [Bool.eq_iff_iff, List.all_eq_true, List.all_eq_true]
    exact ⟨fun k c hc => k c ((h c).2 hc), fun k c hc => k c ((h c).1 hc)⟩
  have h2 : largeP D C = largeP D C' := by
    unfold largeP
    rw [decide_eq_decide.2 hl]
  rw [checkP, checkP, h1, h2]

/-- A row of constraints of the call's own. -/
def CnOwn (w : World) (B : Nat) (v : Value) (L : List Cn) : Prop := w.ownsRow B 42 5 v L.length (L.flatMap fun y => y.arr.toList)
theorem infoCn : (Try.prog.info? 42).map (fun i => (i.zero, i.size, i.bytes)) = some (some (.agg #[.int .i64 0, .slice none 0 0, .slice none 0 0, .int .i64 0, .int .i64 0]), 5, 72) := by kernel_rfl
theorem flat5 : ∀ (L : List Cn) (i : Nat) (y : Cn), L[i]? = some y → ∀ (j : Nat) (v : Value), y.arr[j]? = some v → (L.flatMap fun y => y.arr.toList)[i * 5 + j]? = some v
  | [], i, y, h => by simp at h
  | z :: L, i, y, h => fun j v hj => by
    have h5 : (z.arr.toList).length = 5 := rfl
    have hj5 : j < 5 := (Array.getElem?_eq_some_iff.1 hj).1
    rw [List.flatMap_cons]
    cases i with
    | zero =>
      simp only [List.getElem?_cons_zero, Option.some.injEq] at h
      subst h
      rw [Nat.zero_mul, Nat.zero_add, List.getElem?_append_left (by omega), Array.getElem?_toList]; exact hj
    | succ i =>
      rw [List.getElem?_append_right (by omega), h5, show (i + 1) * 5 + j - 5 = i * 5 + j by omega]
      exact flat5 L i y (by simpa using h) j v hj
theorem ownsRow_typeN {w : World} {B : Nat} {e : TypeId} {size : Nat} {v : Value} {n : Nat} {xs : List Value} (h : w.ownsRow B e size v n xs) {g : Nat} (hg : v.ownBlock = some g) : OfT w g e ∧ B ≤ g := by
  rcases h.2 with ⟨rfl, _⟩ | ⟨g', cap, cur, rfl, h1, h2, _⟩
  · cases hg
  · cases hg; exact ⟨⟨cur, h2⟩, h1⟩
theorem ownsRow_kpN {w w' : World} {B : Nat} {e : TypeId} {size : Nat} {v : Value} {n : Nat} {xs : List Value} {C : Nat → Prop} (h : w.ownsRow B e size v n xs) (hk : Kp C w w') (hC : ∀ g, v.ownBlock = some g → ¬ C g) : w'.ownsRow B e size v n xs := by
  refine ⟨h.1, h.2.imp id ?_⟩
  rintro ⟨g, cap, cur, rfl, h2, h3, h4⟩
  exact ⟨g, cap, cur, rfl, h2, by rw [hk.block g (Array.getElem?_eq_some_iff.1 h3).1 (hC g rfl)]; exact h3, h4⟩
theorem CnOwn.form {w : World} {B : Nat} {v : Value} {L : List Cn} (h : CnOwn w B v L) : ∃ p c, v = .slice p L.length c ∧ CnsAt w p L ∧ L.length ≤ c ∧ c ≤ 9223372036854775807 := by
  have h0 := h
  rcases h.2 with ⟨rfl, h1⟩ | ⟨g, cap, cur, rfl, h1, h2, h3, h4, h5, h6⟩
  · have : L = [] := List.eq_nil_of_length_eq_zero h1
    subst this
    exact ⟨none, 0, rfl, .inl rfl, Nat.le_refl _, by omega⟩
  · simp only [maxLen] at h4
    refine ⟨_, cap, rfl, .inr ⟨g, 0, rfl, (Array.getElem?_eq_some_iff.1 h2).1, fun i y hy j v hj => ?_⟩, h3, by omega⟩
    have hi : i < L.length := (List.getElem?_eq_some_iff.1 hy).1
    have hj5 : j < 5 := (Array.getElem?_eq_some_iff.1 hj).1
    have hb := World.ownsRow.cellAt h0 (i * 5 + j) (by omega)
    rw [Nat.zero_add, hb]
    exact flat5 L i y hy j v hj
/-- One more constraint. -/
theorem CnOwn.push {w : World} {B : Nat} {v : Value} {L : List Cn} (h : CnOwn w B v L) (y : Cn) (hB : B ≤ w.heap.size) (hl : (L.length + 1) * 72 ≤ 140737488355328) (ty : TypeId) (b : Nat) (hb : BlkT w b 42 y.arr) :
    ∃ v' w', (Builtin.append_ #[23, 23] ty #[v, .slice (some ⟨b, 0, none⟩) 1 1]).run Try.prog w = .ok v' w' ∧ CnOwn w' B v' (L ++ [y]) ∧ Kp (fun x => v.ownBlock = some x) w w' ∧ (v'.ownBlock = v.ownBlock ∨ v'.ownBlock = some w.heap.size) := by
  obtain ⟨i0, hi, hz0, hz1, hz2⟩ := info_parts infoCn
  obtain ⟨v', w', hr, ho, hg, hob⟩ := run_append_own_fresh (P := Try.prog) w B 23 ty 42 i0 _ 5 72 Try.underlying23 hi hz0 hz1 hz2 rfl (by decide) v L.length (L.flatMap fun y : Cn => y.arr.toList) h ⟨b, 0, none⟩ 1 1 y.arr.toList rfl (by
    intro k u hk
    rw [Go.WideShapes.add_plain, Nat.zero_add]
    exact hb.cell k (by rw [← Array.getElem?_toList]; exact hk)) (by
    intro u hu
    have hu : u ∈ [Value.int .i64 y.k, .slice y.vp y.vs.length y.vc, .slice y.cp y.cs.length y.cc, .int .i64 y.op, .int .i64 y.c] := hu
    simp only [List.mem_cons, List.mem_nil_iff, or_false] at hu
    rcases hu with rfl | rfl | rfl | rfl | rfl
    · rfl
    · cases y.vp <;> rfl
    · cases y.cp <;> rfl
    · rfl
    · rfl) (by simp only [maxLen]; omega) hl hB (by decide)
  refine ⟨v', w', hr, ?_, Kp.of_grown hg fun r hr => hr, hob⟩
  unfold CnOwn
  rw [List.length_append, List.flatMap_append]
  have hf : ([y].flatMap fun y => y.arr.toList) = y.arr.toList := by simp
  rw [hf]; exact ho
end Go.Proofs.Ytbapmokbkjmdcaa
