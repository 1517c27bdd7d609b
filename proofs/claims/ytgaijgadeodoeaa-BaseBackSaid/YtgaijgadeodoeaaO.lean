/-
  An argument of type api.Term that can be read is a term that lies in the world.
-/
import Derived.Test.YtgaijgadeodoeaaT4
import Derived.ProofKit
import Derived.OpenShut
import Derived.ShutString
import Derived.ChangeOld
import Derived.Lib.SmallJoins
namespace Go.Proofs.Ytgaijgadeodoeaa
open Go.ChangeShapes Go.WideShapes Go.ChangeAt Go.RowKit Go.Deep

theorem own_ : ownKnob Try.prog.godebug = none := by kernel_rfl
theorem laidOut_ : laidOutB Try.prog = true := by kernel_rfl
theorem cellsTerm : Try.prog.cellsOf 28 = 4 := by kernel_rfl
theorem bytesTerm : Try.prog.bytesOf 28 = 56 := by kernel_rfl
theorem cellsI : Try.prog.cellsOf 3 = 1 := by kernel_rfl
theorem cellsI64 : Try.prog.cellsOf 2 = 1 := by kernel_rfl
theorem cellsS : Try.prog.cellsOf 9 = 1 := by kernel_rfl
theorem cellsTerms : Try.prog.cellsOf 26 = 1 := by kernel_rfl

theorem bounds64 {n : Int} (h : (Lit.int .i64 n).wf = true) : -9223372036854775808 ≤ n ∧ n ≤ 9223372036854775807 := by
  have := bounds_i64 h
  omega

theorem reach_eq : reachBytes = 140737488351232 := by decide

theorem list4 {α : Type} {l : List α} (h : l.length = 4) : ∃ a b c d, l = [a, b, c, d] := by
  match l, h with
  | [a, b, c, d], _ => exact ⟨a, b, c, d, rfl⟩

theorem weightsAll_mem {H : Type} {P : Program} {e : TypeId} {d : DataW H} : ∀ {ds : List (DataW H)}, d ∈ ds → ∀ {n : Nat}, n ∈ d.weights P e → n ∈ DataW.weightsAll P e ds
  | x :: xs, h, n, hn => by
    rw [DataW.weightsAll, List.mem_append]
    rcases List.mem_cons.1 h with rfl | h
    · exact .inl hn
    · exact .inr (weightsAll_mem h hn)

section
variable {H : Type} {enc : TypeId × Value → H} {W : World}

/-- A list of terms, each lying behind the other. -/
theorem list_of {n : Nat} {p : Nat → Tm → Prop} (h : ∀ i, i < n → ∃ x, p i x) : ∃ l : List Tm, l.length = n ∧ ∀ i x, l[i]? = some x → p i x := by
  induction n with
  | zero => exact ⟨[], rfl, fun i x hx => by simp at hx⟩
  | succ n ih =>
    obtain ⟨l, hl, hp⟩ := ih fun i hi => h i (by omega)
    obtain ⟨y, hy⟩ := h n (by omega)
    refine ⟨l ++ [y], by simp [hl], fun i x hx => ?_⟩
    by_cases hi : i < l.length
    · rw [List.getElem?_append_left hi] at hx
      exact hp i x hx
    · rw [List.getElem?_append_right (by omega)] at hx
      have : i = l.length := by
        by_cases h9 : i - l.length = 0
        · omega
        · rw [List.getElem?_cons] at hx
          simp [h9] at hx
      subst this
      simp at hx
      subst hx
      rw [hl]
      exact hy

/-- Four cells that read as a term. -/
theorem open_term (fuel : Nat) : ∀ (cs : List Value) (x : DataW H × List MemPlace), DataW.trod enc Try.prog W 0 (fun _ => true) true fuel 28 cs = some x →
    (∀ n ∈ x.1.weights Try.prog 28, n ≤ reachBytes) → ∃ t : Tm, cs = t.cells ∧ t.In W := by
  induction fuel using Nat.strongRecOn with
  | _ fuel ih =>
    intro cs x h hw
    obtain ⟨xs, m, rfl, rfl, hl, hlen, hf⟩ := DataW.trod_struct Try.underlying28 h
    rw [cellsTerm] at hl
    obtain ⟨y0, y1, y2, y3, rfl⟩ := list4 hlen
    obtain ⟨v0, v1, v2, v3, rfl⟩ := list4 hl
    have g0 := hf 0 _ rfl
    have g1 := hf 1 _ rfl
    have g2 := hf 2 _ rfl
    have g3 := hf 3 _ rfl
    simp [cellsI, cellsI64, cellsS, cellsTerms] at g0 g1 g2 g3
    obtain ⟨k, hk, rfl, wk⟩ := DataW.trod_int Try.underlying3 g0
    obtain ⟨n, hn, rfl, wn⟩ := DataW.trod_int Try.underlying2 g1
    obtain ⟨s, hs, rfl, ws⟩ := DataW.trod_string Try.underlying9 g2
    simp only [List.cons.injEq, and_true] at hk hn hs
    subst hk hn hs
    simp only [List.map_cons, List.map_nil, DataW.weights, Try.underlying28, DataW.weightsEach, List.append_nil, List.nil_append, List.mem_append, List.mem_cons, List.mem_nil_iff, or_false, List.map_cons] at hw
    have hs' : s.size ≤ 140737488351232 := by
      have h9 := hw s.data.toList.length (.inl rfl)
      rw [reach_eq] at h9
      exact h9
    rcases DataW.trod_slice Try.underlying26 g3 with ⟨hcs, hx⟩ | ⟨a, len, cap, elems, rest, n', hm, hcs, hx, _, hlc, hcm, hle, hel, hre, _⟩
    · simp only [List.cons.injEq, and_true] at hcs
      subst hcs
      refine ⟨.mk k n s none 0 [], rfl, ?_⟩
      rw [Tm.In]
      exact ⟨bounds64 wk, bounds64 wn, hs', Nat.le_refl _, ⟨by simp, by omega⟩, .inl rfl, by rw [Tm.InL]; trivial⟩
    · simp only [List.cons.injEq, and_true] at hcs
      subst hcs
      subst hx
      subst hm
      have hrl := (hre rfl).1
      simp only [DataW.weights, Try.underlying26, List.length_map, List.mem_cons, List.mem_append, bytesTerm] at hw
      have hcap : cap * 56 ≤ 140737488351232 := by
        have h9 := hw ((elems.length + rest.length) * 56) (.inr (.inl rfl))
        rw [reach_eq, hle, hrl] at h9
        have : len + (cap - len) = cap := by omega
        rwa [this] at h9
      have hall : ∀ i, i < len → ∃ x : Tm, (∃ cs', W.cells? 0 (a.add (i * 4)) 4 = some cs' ∧ cs' = x.cells) ∧ x.In W := by
        intro i hi
        have h9 := hel i hi
        have hi' : i < elems.length := by omega
        rw [cellsTerm, List.getElem?_eq_getElem hi', Option.bind_eq_some_iff] at h9
        obtain ⟨cs', h10, h11⟩ := h9
        obtain ⟨t, ht, hin⟩ := ih n' (by omega) cs' _ h11 fun q hq => hw q (.inr (.inr (.inl (weightsAll_mem (List.mem_map.2 ⟨_, List.getElem_mem hi', rfl⟩) hq))))
        exact ⟨t, ⟨cs', h10, ht⟩, hin⟩
      obtain ⟨l, hll, hlp⟩ := list_of hall
      refine ⟨.mk k n s (some a) cap l, by rw [← hll]; rfl, ?_⟩
      rw [Tm.In]
      refine ⟨bounds64 wk, bounds64 wn, hs', by omega, by omega, ?_, Tm.InL_of fun x hx => ?_⟩
      · by_cases hl0 : l = []
        · exact .inl hl0
        · refine .inr ?_
          have h0 : 0 < l.length := List.length_pos_iff.2 hl0
          obtain ⟨⟨cs', h10, h12⟩, _⟩ := hlp 0 l[0] (List.getElem?_eq_getElem h0)
          obtain ⟨_, _, hc⟩ := World.cells?_some h10
          have hc0 := hc 0 (by omega)
          obtain ⟨b, o, spot⟩ := a
          have hspot : spot = none := by
            have h13 : W.cell? ⟨b, o, spot⟩ = some (.int .i64 l[0].k) := by rw [h12] at hc0; simpa [Addr.add, Tm.cells] using hc0
            exact World.cell?_spot h13
          subst hspot
          refine ⟨b, o, rfl, fun i x hx => ?_⟩
          obtain ⟨⟨cs'', h10, h12⟩, _⟩ := hlp i x hx
          obtain ⟨_, _, hc⟩ := World.cells?_some h10
          rw [h12] at hc
          have e0 := hc 0 (by omega)
          have e1 := hc 1 (by omega)
          have e2 := hc 2 (by omega)
          have e3 := hc 3 (by omega)
          rw [add_plain, add_plain] at e0 e1 e2 e3
          exact ⟨e0, e1, e2, e3⟩
      · obtain ⟨i, hi, rfl⟩ := List.getElem_of_mem hx
        exact (hlp i l[i] (List.getElem?_eq_getElem hi)).2

set_option maxRecDepth 100000 in
/-- An argument of type api.Term. -/
theorem open_term_arg {r : Reach} {b0 : Nat} {v : Value} {d : DataW H} {p : List MemPlace} (hv : Value.okWide Try.prog W r b0 28 v)
    (h : DataW.Trod enc Try.prog W 0 (fun _ => true) true 28 v d p) (hw : ∀ n ∈ d.weights Try.prog 28, n ≤ reachBytes) : ∃ t : Tm, v = t.val ∧ t.In W := by
  obtain ⟨cs, rfl, hsz⟩ := okWide_struct Try.underlying28 hv
  obtain ⟨fuel, hf⟩ := h
  obtain ⟨t, ht, hin⟩ := open_term fuel _ _ hf hw
  refine ⟨t, ?_, hin⟩
  have : cs.toList = t.cells := ht
  unfold Tm.val
  congr 1
  rw [← Array.toArray_toList (xs := cs), this]
  rfl
end
end Go.Proofs.Ytgaijgadeodoeaa
