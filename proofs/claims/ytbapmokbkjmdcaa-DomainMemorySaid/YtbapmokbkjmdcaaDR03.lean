/-
  Maps that a program keeps: what they hold; delete.
  A function of one number that says yes or no; slices.IndexFunc, ContainsFunc, Index, Contains at numbers.
-/
import Derived.Test.YtbapmokbkjmdcaaDR02
import Derived.Maps.OwnOps
import Derived.Maps.Views
import Derived.WideKeyEntry
import Derived.DeepKeys4
import Derived.Maps.RangeRun
namespace Go.Proofs.Ytbapmokbkjmdcaa
open Go.RowKit Go.Maps Go.Lib

/-- Block b is a map: it holds just what f says. -/
def GMap {K : Type} (k : TypeId) (κ : K → Value) (w : World) (b : Nat) (f : K → Option Value) : Prop :=
  ∃ (E : Array MapEntry) (c : Nat), w.heap[b]? = some (.map E c) ∧ (∀ e ∈ E.toList, ∃ l, keyOf Try.prog k e.key = some l) ∧ (E.toList.map (·.key)).Nodup ∧
    ∀ x v, f x = some v ↔ ∃ e ∈ E.toList, e.key = κ x ∧ e.val = v
section
variable {K : Type} {k : TypeId} {κ : K → Value} {w w' : World} {b : Nat} {f : K → Option Value}
theorem GMap.lt (h : GMap k κ w b f) : b < w.heap.size := by
  obtain ⟨E, c, h1, _⟩ := h
  exact (Array.getElem?_eq_some_iff.1 h1).1
theorem GMap.same (h : GMap k κ w b f) (hb : w'.heap[b]? = w.heap[b]?) : GMap k κ w' b f := by
  obtain ⟨E, c, h1, h2⟩ := h
  exact ⟨E, c, hb.trans h1, h2⟩
theorem GMap.gr (h : GMap k κ w b f) (hg : Gr w w') : GMap k κ w' b f := h.same (hg.block b h.lt)
theorem GMap.kp {C : Nat → Prop} (h : GMap k κ w b f) (hg : Kp C w w') (hb : ¬ C b) : GMap k κ w' b f := h.same (hg.block b h.lt hb)
theorem GMap.made (k : TypeId) (κ : K → Value) (w : World) : GMap k κ (w.alloc (.map #[] 0)) w.heap.size fun _ => none :=
  ⟨#[], 0, heap_alloc_new _ _, (fun _ h => by cases h), List.nodup_nil, fun x v => ⟨(fun h => by cases h), fun ⟨e, he, _⟩ => by cases he⟩⟩
theorem GMap.ext {g : K → Option Value} (h : GMap k κ w b f) (hfg : ∀ x, f x = g x) : GMap k κ w b g := (funext hfg : f = g) ▸ h
set_option maxRecDepth 100000 in
theorem GMap.run (h : GMap k κ w b f) (KK : Keyed Try.prog k) {t e : TypeId} (ht : Try.prog.underlying t = some (.map k e)) {z : Value} (hz : (zeroValue e).run Try.prog w = .ok z w) {x : K} {l : Lit} (hx : keyOf Try.prog k (κ x) = some l) :
    (Instr.lookup t (.map (some b)) (κ x) false).run Try.prog w = .ok ((f x).getD z) w ∧ (Instr.lookup t (.map (some b)) (κ x) true).run Try.prog w = .ok (.tuple #[(f x).getD z, .bool (f x).isSome]) w := by
  obtain ⟨E, c, hb, hk, hn, hf⟩ := h
  rcases KK.find w hx E.toList hk with ⟨h1, h2⟩ | ⟨j, e0, h1, h2, h3⟩
  · have hfx : f x = none := by
      cases hv : f x with
      | none => rfl
      | some v =>
        obtain ⟨e, he, hek, _⟩ := (hf x v).1 hv
        exact absurd hek (h2 e he)
    rw [hfx]
    constructor
    · simp [Instr.lookup, run_underlying ht, MapKept.run_getObj_map hb, KK.check w _ hx, h1, hz, Result.andThen]
    · simp [Instr.lookup, run_underlying ht, MapKept.run_getObj_map hb, KK.check w _ hx, h1, hz, Result.andThen]
  · have hfx : f x = some e0.val := (hf x e0.val).2 ⟨e0, List.mem_of_getElem? h2, h3, rfl⟩
    rw [hfx]
    constructor
    · simp [Instr.lookup, run_underlying ht, MapKept.run_getObj_map hb, KK.check w _ hx, h1, Result.andThen]
    · simp [Instr.lookup, run_underlying ht, MapKept.run_getObj_map hb, KK.check w _ hx, h1, Result.andThen]
theorem setBlock_grown {E : Array MapEntry} {c : Nat} (hb : w.heap[b]? = some (.map E c)) (o : Obj) : w.grownBy (ChangeMaps.setBlock w b o) (some b) :=
  ⟨rfl, rfl, rfl, by simp [ChangeMaps.setBlock], fun i _ hi => ChangeMaps.heap_setBlock_other hb _ (fun e => hi (by rw [e]))⟩
set_option maxRecDepth 100000 in
theorem GMap.update (h : GMap k κ w b f) (KK : Keyed Try.prog k) {t e : TypeId} (ht : Try.prog.underlying t = some (.map k e)) {x : K} {l : Lit} (hx : keyOf Try.prog k (κ x) = some l) (hinj : ∀ y, κ y = κ x → y = x) (v : Value)
    {g : K → Option Value} (hg1 : g x = some v) (hg2 : ∀ y, y ≠ x → g y = f y) :
    ∃ w', (Instr.mapUpdate t (.map (some b)) (κ x) v).run Try.prog w = .ok () w' ∧ GMap k κ w' b g ∧ w.grownBy w' (some b) := by
  obtain ⟨E, c, hb, hk, hn, hf⟩ := h
  rcases KK.find w hx E.toList hk with ⟨h1, h2⟩ | ⟨j, e0, h1, h2, h3⟩
  · refine ⟨ChangeMaps.setBlock w b (.map (E.push ⟨κ x, v, c⟩) (c + 1)), ?_, ⟨E.push ⟨κ x, v, c⟩, c + 1, ChangeMaps.heap_setBlock_same hb _, ?_, ?_, ?_⟩, setBlock_grown hb _⟩
    · simp [Instr.mapUpdate, run_underlying ht, MapKept.run_getObj_map hb, KK.check w false hx, h1, MapKept.run_setObj_map _ hb, Result.andThen, ChangeMaps.setBlock]
    · intro e he
      rw [Array.toList_push, List.mem_append, List.mem_singleton] at he
      rcases he with he | rfl
      · exact hk e he
      · exact ⟨l, hx⟩
    · rw [Array.toList_push, List.map_append, List.nodup_append]
      refine ⟨hn, by simp, ?_⟩
      intro a ha d hd
      obtain ⟨e, he, rfl⟩ := List.mem_map.1 ha
      simp only [List.map_cons, List.map_nil, List.mem_singleton] at hd
      subst hd
      exact h2 e he
    · intro y v'
      rw [Array.toList_push]
      by_cases hy : y = x
      · subst hy
        rw [hg1]
        constructor
        · intro h; cases h; exact ⟨⟨κ y, v, c⟩, by simp, rfl, rfl⟩
        · rintro ⟨e, he, he2, rfl⟩
          rcases List.mem_append.1 he with he | he
          · exact absurd he2 (h2 e he)
          · rw [List.mem_singleton.1 he]
      · rw [hg2 y hy, hf y v']
        constructor
        · rintro ⟨e, he, h3⟩; exact ⟨e, List.mem_append_left _ he, h3⟩
        · rintro ⟨e, he, he2, he3⟩
          rcases List.mem_append.1 he with he | he
          · exact ⟨e, he, he2, he3⟩
          · rw [List.mem_singleton.1 he] at he2
            exact absurd (hinj y he2.symm) hy
  · have hj : E[j]? = some e0 := by simpa using h2
    obtain ⟨hjl, hj0⟩ := List.getElem?_eq_some_iff.1 h2
    obtain ⟨A, a, B, hE, hA, hM⟩ := List.exists_of_modify (fun e : MapEntry => { e with key := κ x, val := v }) hjl
    have ha : a = e0 := by
      rw [hE, List.getElem?_append_right (by omega), hA, Nat.sub_self] at h2
      exact Option.some.inj h2
    subst ha
    have hM' : (E.modify j fun e => { e with key := κ x, val := v }).toList = A ++ { a with key := κ x, val := v } :: B := by rw [Array.toList_modify]; exact hM
    have hn2 := hn
    rw [hE, List.map_append, List.map_cons, h3, List.nodup_append, List.nodup_cons] at hn2
    obtain ⟨n1, ⟨n2, n3⟩, n4⟩ := hn2
    refine ⟨ChangeMaps.setBlock w b (.map (E.modify j fun e => { e with key := κ x, val := v }) c), ?_, ⟨E.modify j fun e => { e with key := κ x, val := v }, c, ChangeMaps.heap_setBlock_same hb _, ?_, ?_, ?_⟩, setBlock_grown hb _⟩
    · simp [Instr.mapUpdate, run_underlying ht, MapKept.run_getObj_map hb, KK.check w false hx, h1, hj, h3, KK.stays w hx, MapKept.run_setObj_map _ hb, Result.andThen, ChangeMaps.setBlock]
    · rw [hM']
      intro e he
      rcases List.mem_append.1 he with he | he
      · exact hk e (by rw [hE]; exact List.mem_append_left _ he)
      · rcases List.mem_cons.1 he with rfl | he
        · exact ⟨l, hx⟩
        · exact hk e (by rw [hE]; exact List.mem_append_right _ (List.mem_cons_of_mem _ he))
    · rw [hM', List.map_append, List.map_cons, List.nodup_append, List.nodup_cons]
      exact ⟨n1, ⟨n2, n3⟩, n4⟩
    · intro y v'
      rw [hM']
      by_cases hy : y = x
      · subst hy
        rw [hg1]
        constructor
        · intro h; cases h; exact ⟨{ a with key := κ y, val := v }, by simp, rfl, rfl⟩
        · rintro ⟨e, he, he2, rfl⟩
          rcases List.mem_append.1 he with he | he
          · exact absurd he2 (n4 e.key (List.mem_map_of_mem he) (κ y) (by simp))
          · rcases List.mem_cons.1 he with rfl | he
            · rfl
            · exact absurd (List.mem_map_of_mem (f := (·.key)) he) (by simp only [he2]; exact n2)
      · rw [hg2 y hy, hf y v', hE]
        have hne : κ x ≠ κ y := fun e => hy (hinj y e.symm)
        constructor
        · rintro ⟨e, he, he2, he3⟩
          rcases List.mem_append.1 he with he | he
          · exact ⟨e, List.mem_append_left _ he, he2, he3⟩
          · rcases List.mem_cons.1 he with rfl | he
            · exact absurd (h3.symm.trans he2) hne
            · exact ⟨e, List.mem_append_right _ (List.mem_cons_of_mem _ he), he2, he3⟩
        · rintro ⟨e, he, he2, he3⟩
          rcases List.mem_append.1 he with he | he
          · exact ⟨e, List.mem_append_left _ he, he2, he3⟩
          · rcases List.mem_cons.1 he with rfl | he
            · exact absurd he2 hne
            · exact ⟨e, List.mem_append_right _ (List.mem_cons_of_mem _ he), he2, he3⟩
end
/-- Block b is a map all of whose keys are such; when each entry was laid. -/
def Stm {K : Type} (κ : K → Value) (w : World) (b : Nat) : Prop :=
  ∃ (E : Array MapEntry) (c : Nat), w.heap[b]? = some (.map E c) ∧ (∀ e ∈ E.toList, (∃ x, e.key = κ x) ∧ e.born < c) ∧ (E.toList.map (·.born)).Nodup
section
variable {K : Type} {k : TypeId} {κ : K → Value} {w w' : World} {b : Nat} {f : K → Option Value}
theorem Stm.kp {C : Nat → Prop} (h : Stm κ w b) (hg : Kp C w w') (hb : ¬ C b) : Stm κ w' b := by
  obtain ⟨E, c, h1, h2⟩ := h
  exact ⟨E, c, (hg.block b (Array.getElem?_eq_some_iff.1 h1).1 hb).trans h1, h2⟩
theorem Stm.gr (h : Stm κ w b) (hg : Gr w w') : Stm κ w' b := h.kp (C := fun _ => False) (Kp.of_gr hg) id
theorem Stm.made (κ : K → Value) (w : World) : Stm κ (w.alloc (.map #[] 0)) w.heap.size := ⟨#[], 0, heap_alloc_new _ _, (fun _ h => by cases h), List.nodup_nil⟩
set_option maxRecDepth 100000 in
/-- A store keeps both. -/
theorem GMap.updateS (h : GMap k κ w b f) (hs : Stm κ w b) (KK : Keyed Try.prog k) {t e : TypeId} (ht : Try.prog.underlying t = some (.map k e)) {x : K} {l : Lit} (hx : keyOf Try.prog k (κ x) = some l) (hinj : ∀ y, κ y = κ x → y = x) (v : Value)
    {g : K → Option Value} (hg1 : g x = some v) (hg2 : ∀ y, y ≠ x → g y = f y) :
    ∃ w', (Instr.mapUpdate t (.map (some b)) (κ x) v).run Try.prog w = .ok () w' ∧ GMap k κ w' b g ∧ w.grownBy w' (some b) ∧ Stm κ w' b := by
  obtain ⟨w1, hr1, hg, hgb⟩ := h.update KK ht hx hinj v hg1 hg2
  refine ⟨w1, hr1, hg, hgb, ?_⟩
  obtain ⟨E, c, hb, hk, hn, hf⟩ := h
  obtain ⟨E', c', hb', hst, hbn⟩ := hs
  rw [hb] at hb'
  cases hb'
  rcases KK.find w hx E.toList hk with ⟨h1, h2⟩ | ⟨j, e0, h1, h2, h3⟩
  · have hrun : (Instr.mapUpdate t (.map (some b)) (κ x) v).run Try.prog w = .ok () (ChangeMaps.setBlock w b (.map (E.push ⟨κ x, v, c⟩) (c + 1))) := by
      simp [Instr.mapUpdate, run_underlying ht, MapKept.run_getObj_map hb, KK.check w false hx, h1, MapKept.run_setObj_map _ hb, Result.andThen, ChangeMaps.setBlock]
    rw [hr1] at hrun
    have hw := (Result.ok.inj hrun).2
    rw [hw]
    refine ⟨_, _, ChangeMaps.heap_setBlock_same hb _, fun e he => ?_, ?_⟩
    · rw [Array.toList_push, List.mem_append, List.mem_singleton] at he
      rcases he with he | rfl
      · exact ⟨(hst e he).1, by have := (hst e he).2; omega⟩
      · exact ⟨⟨x, rfl⟩, Nat.lt_succ_self _⟩
    · rw [Array.toList_push, List.map_append, List.nodup_append]
      refine ⟨hbn, by simp, ?_⟩
      intro a ha d hd
      obtain ⟨e, he, rfl⟩ := List.mem_map.1 ha
      simp only [List.map_cons, List.map_nil, List.mem_singleton] at hd
      subst hd
      exact Nat.ne_of_lt (hst e he).2
  · have hj : E[j]? = some e0 := by simpa using h2
    have hrun : (Instr.mapUpdate t (.map (some b)) (κ x) v).run Try.prog w = .ok () (ChangeMaps.setBlock w b (.map (E.modify j fun e => { e with key := κ x, val := v }) c)) := by
      simp [Instr.mapUpdate, run_underlying ht, MapKept.run_getObj_map hb, KK.check w false hx, h1, hj, h3, KK.stays w hx, MapKept.run_setObj_map _ hb, Result.andThen, ChangeMaps.setBlock]
    rw [hr1] at hrun
    have hw := (Result.ok.inj hrun).2
    rw [hw]
    have hM : (E.modify j fun e => { e with key := κ x, val := v }).toList = E.toList.modify j fun e => { e with key := κ x, val := v } := Array.toList_modify ..
    refine ⟨_, _, ChangeMaps.heap_setBlock_same hb _, fun e he => ?_, ?_⟩
    · rw [hM] at he
      obtain ⟨i, hi, hie⟩ := List.getElem_of_mem he
      rw [List.getElem_modify] at hie
      have hil : i < E.toList.length := by simpa using hi
      by_cases hji : j = i
      · rw [if_pos hji] at hie
        rw [← hie]
        exact ⟨⟨x, rfl⟩, (hst _ (List.getElem_mem hil)).2⟩
      · rw [if_neg hji] at hie
        rw [← hie]
        exact hst _ (List.getElem_mem hil)
    · rw [hM]
      have : (E.toList.modify j fun e => { e with key := κ x, val := v }).map (·.born) = E.toList.map (·.born) := by
        apply List.ext_getElem (by simp)
        intro i h1 h2
        simp only [List.getElem_map, List.getElem_modify]
        split <;> rfl
      rw [this]
      exact hbn
end
set_option maxRecDepth 100000 in
theorem GMap.delete {K : Type} {k : TypeId} {κ : K → Value} {w : World} {b : Nat} {f : K → Option Value} (h : GMap k κ w b f) (KK : Keyed Try.prog k) {t e : TypeId} (ty : TypeId) (ht : Try.prog.underlying t = some (.map k e)) {x : K} {l : Lit} (hx : keyOf Try.prog k (κ x) = some l) (hinj : ∀ y, κ y = κ x → y = x)
    {g : K → Option Value} (hg1 : g x = none) (hg2 : ∀ y, y ≠ x → g y = f y) :
    ∃ w', (Builtin.delete_ #[t, k] ty #[.map (some b), κ x]).run Try.prog w = .ok (.tuple #[]) w' ∧ GMap k κ w' b g ∧ w.grownBy w' (some b) := by
  obtain ⟨E, c, hb, hk, hn, hf⟩ := h
  rcases KK.find w hx E.toList hk with ⟨h1, h2⟩ | ⟨j, e0, h1, h2, h3⟩
  · refine ⟨ChangeMaps.setBlock w b (.map E c), ?_, ⟨E, c, ChangeMaps.heap_setBlock_same hb _, hk, hn, fun y v => ?_⟩, setBlock_grown hb _⟩
    · simp [Builtin.delete_, run_underlying ht, MapKept.run_getObj_map hb, KK.check w _ hx, h1, MapKept.run_setObj_map _ hb, Result.andThen, ChangeMaps.setBlock]
    · by_cases hy : y = x
      · subst hy
        rw [hg1]
        exact ⟨fun h => (by cases h), fun ⟨e, he, hek, _⟩ => absurd hek (h2 e he)⟩
      · rw [hg2 y hy]; exact hf y v
  · refine ⟨ChangeMaps.setBlock w b (.map (E.eraseIdxIfInBounds j) c), ?_, ⟨E.eraseIdxIfInBounds j, c, ChangeMaps.heap_setBlock_same hb _, ?_, ?_, fun y v => ?_⟩, setBlock_grown hb _⟩
    · simp [Builtin.delete_, run_underlying ht, MapKept.run_getObj_map hb, KK.check w _ hx, h1, MapKept.run_setObj_map _ hb, Result.andThen, ChangeMaps.setBlock]
    all_goals
      have hj : j < E.toList.length := (List.getElem?_eq_some_iff.1 h2).1
      have hE : (E.eraseIdxIfInBounds j).toList = E.toList.eraseIdx j := by
        rw [Array.eraseIdxIfInBounds, dif_pos (by simpa using hj), Array.toList_eraseIdx]
    · intro e he
      rw [hE] at he
      exact hk e (List.mem_of_mem_eraseIdx he)
    · rw [hE]
      exact List.Nodup.sublist (List.Sublist.map _ (List.eraseIdx_sublist _ _)) hn
    · rw [hE]
      have hkey : ∀ e ∈ E.toList.eraseIdx j, e.key ≠ κ x := by
        intro e he hek
        rw [List.mem_eraseIdx_iff_getElem?] at he
        obtain ⟨i, hi, hie⟩ := he
        have h5 : (E.toList.map (·.key))[i]? = some (κ x) := by rw [List.getElem?_map, hie]; simp [hek]
        have h6 : (E.toList.map (·.key))[j]? = some (κ x) := by rw [List.getElem?_map, h2]; simp [h3]
        obtain ⟨hil, h7⟩ := List.getElem?_eq_some_iff.1 h5
        obtain ⟨hjl, h8⟩ := List.getElem?_eq_some_iff.1 h6
        have hp := List.pairwise_iff_getElem.1 hn
        rcases Nat.lt_trichotomy i j with h | h | h
        · exact hp i j hil hjl h (h7.trans h8.symm)
        · exact hi h
        · exact hp j i hjl hil h (h8.trans h7.symm)
      by_cases hy : y = x
      · subst hy
        rw [hg1]
        exact ⟨fun h => (by cases h), fun ⟨e, he, hek, _⟩ => absurd hek (hkey e he)⟩
      · rw [hg2 y hy, hf y v]
        constructor
        · rintro ⟨e, he, hek, hev⟩
          refine ⟨e, ?_, hek, hev⟩
          rw [List.mem_eraseIdx_iff_getElem?]
          obtain ⟨i, hi, hie⟩ := List.getElem_of_mem he
          refine ⟨i, fun hij => ?_, by rw [List.getElem?_eq_getElem hi, hie]⟩
          subst hij
          rw [List.getElem?_eq_getElem hi, hie] at h2
          cases h2
          exact hy (hinj y (hek ▸ h3))
        · rintro ⟨e, he, hr⟩
          exact ⟨e, List.mem_of_mem_eraseIdx he, hr⟩
set_option maxRecDepth 100000 in
/-- A delete keeps when each entry was laid. -/
theorem GMap.deleteS {K : Type} {k : TypeId} {κ : K → Value} {w : World} {b : Nat} {f : K → Option Value} (h : GMap k κ w b f) (hs : Stm κ w b) (KK : Keyed Try.prog k) {t e : TypeId} (ty : TypeId) (ht : Try.prog.underlying t = some (.map k e)) {x : K} {l : Lit} (hx : keyOf Try.prog k (κ x) = some l) (hinj : ∀ y, κ y = κ x → y = x)
    {g : K → Option Value} (hg1 : g x = none) (hg2 : ∀ y, y ≠ x → g y = f y) :
    ∃ w', (Builtin.delete_ #[t, k] ty #[.map (some b), κ x]).run Try.prog w = .ok (.tuple #[]) w' ∧ GMap k κ w' b g ∧ w.grownBy w' (some b) ∧ Stm κ w' b := by
  obtain ⟨w1, hr1, hg, hgb⟩ := h.delete KK ty ht hx hinj hg1 hg2
  refine ⟨w1, hr1, hg, hgb, ?_⟩
  obtain ⟨E, c, hb, hk, hn, hf⟩ := h
  obtain ⟨E', c', hb', hst, hbn⟩ := hs
  rw [hb] at hb'
  cases hb'
  rcases KK.find w hx E.toList hk with ⟨h1, h2⟩ | ⟨j, e0, h1, h2, h3⟩
  · have hrun : (Builtin.delete_ #[t, k] ty #[.map (some b), κ x]).run Try.prog w = .ok (.tuple #[]) (ChangeMaps.setBlock w b (.map E c)) := by
      simp [Builtin.delete_, run_underlying ht, MapKept.run_getObj_map hb, KK.check w _ hx, h1, MapKept.run_setObj_map _ hb, Result.andThen, ChangeMaps.setBlock]
    rw [hr1] at hrun
    rw [(Result.ok.inj hrun).2]
    exact ⟨E, c, ChangeMaps.heap_setBlock_same hb _, hst, hbn⟩
  · have hrun : (Builtin.delete_ #[t, k] ty #[.map (some b), κ x]).run Try.prog w = .ok (.tuple #[]) (ChangeMaps.setBlock w b (.map (E.eraseIdxIfInBounds j) c)) := by
      simp [Builtin.delete_, run_underlying ht, MapKept.run_getObj_map hb, KK.check w _ hx, h1, MapKept.run_setObj_map _ hb, Result.andThen, ChangeMaps.setBlock]
    rw [hr1] at hrun
    rw [(Result.ok.inj hrun).2]
    have hj : j < E.toList.length := (List.getElem?_eq_some_iff.1 h2).1
    have hE : (E.eraseIdxIfInBounds j).toList = E.toList.eraseIdx j := by
      rw [Array.eraseIdxIfInBounds, dif_pos (by simpa using hj), Array.toList_eraseIdx]
    refine ⟨_, c, ChangeMaps.heap_setBlock_same hb _, fun e he => ?_, ?_⟩
    · rw [hE] at he
      exact hst e (List.mem_of_mem_eraseIdx he)
    · rw [hE]
      exact List.Nodup.sublist (List.Sublist.map _ (List.eraseIdx_sublist _ _)) hbn
end Go.Proofs.Ytbapmokbkjmdcaa

namespace Go.Proofs.Ytbapmokbkjmdcaa
open Go.RowKit Go.Maps Go.Lib

/-- A function of one number that says yes or no, and turns nothing that was there in w0. -/
def IntPred (g : FuncId) (cap : Array Value) (p : Int → Bool) (S : Int → Prop) (w0 : World) : Prop :=
  (∀ (x : Int) (w : World), (callFunc g (#[.int .i64 x] ++ cap)).run Try.prog w = .ok (.enter g (#[.int .i64 x] ++ cap)) w) ∧ ∀ (x : Int) (W : World), S x → Gr w0 W → Calls Try.prog g (#[.int .i64 x] ++ cap) W (Ret (.bool (p x)) W)
theorem IntPred.gr {g : FuncId} {cap : Array Value} {p : Int → Bool} {S : Int → Prop} {w0 w1 : World} (h : IntPred g cap p S w0) (hg : Gr w0 w1) : IntPred g cap p S w1 := ⟨h.1, fun x W hx hW => h.2 x W hx (hg.trans hW)⟩

/-- Where the first one is, or -1. -/
def firstOf (p : Int → Bool) (L : List Int) : Int := if L.any p then (L.findIdx p : Int) else -1
theorem firstOf_hit {p : Int → Bool} {L : List Int} {k : Nat} (hk : ∃ y, L[k]? = some y ∧ p y = true) (hno : ∀ i y, i < k → L[i]? = some y → p y = false) : firstOf p L = k := by
  obtain ⟨y, hy, hp⟩ := hk
  have hm : L.any p = true := List.any_eq_true.2 ⟨y, List.mem_of_getElem? hy, hp⟩
  rw [firstOf, if_pos hm]
  congr 1
  obtain ⟨hlt, he⟩ := List.getElem?_eq_some_iff.1 hy
  rw [List.findIdx_eq hlt]
  exact ⟨by rw [he]; exact hp, fun j hj => by rw [hno j L[j] hj (List.getElem?_eq_getElem (by omega))]⟩
theorem firstOf_miss {p : Int → Bool} {L : List Int} (hno : ∀ i y, i < L.length → L[i]? = some y → p y = false) : firstOf p L = -1 := by
  rw [firstOf, if_neg]
  rw [List.any_eq_true]
  rintro ⟨y, hy, hp⟩
  obtain ⟨i, hi, he⟩ := List.getElem_of_mem hy
  rw [hno i y hi (by rw [List.getElem?_eq_getElem hi, he])] at hp; cases hp
theorem firstOf_ge (p : Int → Bool) (L : List Int) : decide (firstOf p L ≥ 0) = L.any p := by
  rw [firstOf]
  cases h : L.any p with
  | true => rw [if_pos rfl, decide_eq_true (by omega)]
  | false => rw [if_neg (by decide), decide_eq_false (by omega)]
theorem firstOf_none {p : Int → Bool} {L : List Int} (h : firstOf p L = -1) : ∀ x ∈ L, p x = false := by
  intro x hx
  cases hp : p x with
  | false => rfl
  | true =>
    rw [firstOf, if_pos (List.any_eq_true.2 ⟨x, hx, hp⟩)] at h
    omega
theorem firstOf_some {p : Int → Bool} {L : List Int} (h : firstOf p L ≠ -1) : ∃ k : Nat, firstOf p L = k ∧ k < L.length ∧ (∃ y, L[k]? = some y ∧ p y = true) ∧ ∀ i y, i < k → L[i]? = some y → p y = false := by
  have ha : L.any p = true := by
    cases ha : L.any p with
    | true => rfl
    | false => rw [firstOf, if_neg (by rw [ha]; decide)] at h; exact absurd rfl h
  have hlt : L.findIdx p < L.length := List.findIdx_lt_length.2 (List.any_eq_true.1 ha)
  refine ⟨L.findIdx p, by rw [firstOf, if_pos ha], hlt, ⟨L[L.findIdx p], List.getElem?_eq_getElem hlt, List.findIdx_getElem⟩, fun i y hi hy => ?_⟩
  obtain ⟨hl, he⟩ := List.getElem?_eq_some_iff.1 hy
  have := List.not_of_lt_findIdx hi
  rw [← he]; simpa using this

set_option maxHeartbeats 1000000 in
set_option maxRecDepth 100000 in
theorem indexFunc_i64 (g : FuncId) (cap : Array Value) (pr : Int → Bool) (S : Int → Prop) (w0 : World) (hf : IntPred g cap pr S w0) (p : Option Addr) (c : Nat) (L : List Int) (w : World) (h : IntSl w p c L) (hw : Gr w0 w) (hS : ∀ n ∈ L, S n) :
    Calls Try.prog 56 #[.slice p L.length c, .func (.func g) #[] cap] w (Ret (.int .i64 (firstOf pr L)) w) := by
  have hR : Hid (∀ m, firstOf pr L = m → ∀ w', Gr w w' → Ret (.int .i64 (firstOf pr L)) w (.returned (.int .i64 m)) w') := fun b hb w' hg => ⟨by rw [hb], hg⟩
  have HH := Lib.hid (And.intro (fun k : Nat => firstOf_hit (p := pr) (L := L) (k := k)) (firstOf_miss (p := pr) (L := L)))
  generalize hQ : Ret (.int .i64 (firstOf pr L)) w = Q at hR ⊢
  clear hQ
  generalize firstOf pr L = r at *
  have hlc : L.length ≤ c := h.1
  have hc : c ≤ 9223372036854775807 := h.2.1
  have H := Lib.hid h
  have Hcall := Lib.hid hf.2
  have hq := hf.1
  have Hw := Lib.hid hw
  have HSS := Lib.hid hS
  clear h hf hw hS
  go_enter Try.func56, Try.ntmps56
  try simp only [List.append_eq, List.cons_append, List.nil_append]
  go_wp2_with fail
  go_loopg [8] L.length (fun m i wr => ∃ k : Nat, k ≤ L.length ∧ m = L.length - k ∧ i = .int .i64 k ∧ Gr w wr ∧ Hid (∀ i y, i < k → L[i]? = some y → pr y = false))
  case atStart => exact ⟨0, Nat.zero_le _, rfl, rfl, Gr.rfl' _, fun i _ hi => by omega⟩
  case round =>
    obtain ⟨k, hk, rfl, rfl, gr, hno⟩ := hrel
    by_cases hlt : k < L.length
    · obtain ⟨b, o, rfl, _, hr⟩ := (H.out.mono gr).ptr (by omega)
      have hy : L[k]? = some L[k] := List.getElem?_eq_getElem hlt
      have c0 := hr k _ hy
      clear hr
      have hin : Hid (S L[k]) := HSS.out _ (List.getElem_mem hlt)
      generalize L[k] = y at *
      have HY := Lib.hid hy
      have hqy := hq y
      clear hy
      obtain ⟨bb, hbb⟩ : ∃ bb, pr y = bb := ⟨_, rfl⟩
      have HB := Lib.hid hbb
      clear hbb
      have HG := Lib.hid gr
      have HK := Lib.hid hk
      cases bb with
      | true =>
        have hv : Hid (r = (k : Int)) := HH.out.1 k ⟨y, HY.out, HB.out⟩ hno.out
        go_wp2_with (first
          | (refine (Hcall.out y _ hin.out (Hw.out.trans HG.out)).mono ?_; rewrite [HB.out]; rintro e w1 ⟨rfl, hb⟩; have hb : Gr wr w1 := hb; replace HG := Lib.hid (HG.out.trans hb); clear hb gr c0)
          | fail)
        exact hR.out _ hv.out _ HG.out
      | false =>
        have hno2 : Hid (∀ i z, i < k + 1 → L[i]? = some z → pr z = false) := fun i z hi hz => by
          by_cases hik : i = k
          · subst hik
            rw [HY.out] at hz
            cases hz
            exact HB.out
          · exact hno.out i z (by omega) hz
        go_wp2_with (first
          | (refine (Hcall.out y _ hin.out (Hw.out.trans HG.out)).mono ?_; rewrite [HB.out]; rintro e w1 ⟨rfl, hb⟩; have hb : Gr wr w1 := hb; replace HG := Lib.hid (HG.out.trans hb); clear hb gr c0)
          | fail)
        go_roundg (L.length - (k + 1))
        case measure => omega
        case rel => exact ⟨k + 1, by omega, rfl, by go_num, HG.out, hno2⟩
    · obtain rfl : k = L.length := by omega
      have hv : Hid (r = -1) := HH.out.2 hno.out
      go_wp2_with fail
      exact hR.out _ hv.out _ gr

set_option maxHeartbeats 1000000 in
set_option maxRecDepth 100000 in
theorem indexFunc_int (g : FuncId) (cap : Array Value) (pr : Int → Bool) (S : Int → Prop) (w0 : World) (hf : IntPred g cap pr S w0) (p : Option Addr) (c : Nat) (L : List Int) (w : World) (h : IntSl w p c L) (hw : Gr w0 w) (hS : ∀ n ∈ L, S n) :
    Calls Try.prog 55 #[.slice p L.length c, .func (.func g) #[] cap] w (Ret (.int .i64 (firstOf pr L)) w) := by
  have hR : Hid (∀ m, firstOf pr L = m → ∀ w', Gr w w' → Ret (.int .i64 (firstOf pr L)) w (.returned (.int .i64 m)) w') := fun b hb w' hg => ⟨by rw [hb], hg⟩
  have HH := Lib.hid (And.intro (fun k : Nat => firstOf_hit (p := pr) (L := L) (k := k)) (firstOf_miss (p := pr) (L := L)))
  generalize hQ : Ret (.int .i64 (firstOf pr L)) w = Q at hR ⊢
  clear hQ
  generalize firstOf pr L = r at *
  have hlc : L.length ≤ c := h.1
  have hc : c ≤ 9223372036854775807 := h.2.1
  have H := Lib.hid h
  have Hcall := Lib.hid hf.2
  have hq := hf.1
  have Hw := Lib.hid hw
  have HSS := Lib.hid hS
  clear h hf hw hS
  go_enter Try.func55, Try.ntmps55
  try simp only [List.append_eq, List.cons_append, List.nil_append]
  go_wp2_with fail
  go_loopg [8] L.length (fun m i wr => ∃ k : Nat, k ≤ L.length ∧ m = L.length - k ∧ i = .int .i64 k ∧ Gr w wr ∧ Hid (∀ i y, i < k → L[i]? = some y → pr y = false))
  case atStart => exact ⟨0, Nat.zero_le _, rfl, rfl, Gr.rfl' _, fun i _ hi => by omega⟩
  case round =>
    obtain ⟨k, hk, rfl, rfl, gr, hno⟩ := hrel
    by_cases hlt : k < L.length
    · obtain ⟨b, o, rfl, _, hr⟩ := (H.out.mono gr).ptr (by omega)
      have hy : L[k]? = some L[k] := List.getElem?_eq_getElem hlt
      have c0 := hr k _ hy
      clear hr
      have hin : Hid (S L[k]) := HSS.out _ (List.getElem_mem hlt)
      generalize L[k] = y at *
      have HY := Lib.hid hy
      have hqy := hq y
      clear hy
      obtain ⟨bb, hbb⟩ : ∃ bb, pr y = bb := ⟨_, rfl⟩
      have HB := Lib.hid hbb
      clear hbb
      have HG := Lib.hid gr
      have HK := Lib.hid hk
      cases bb with
      | true =>
        have hv : Hid (r = (k : Int)) := HH.out.1 k ⟨y, HY.out, HB.out⟩ hno.out
        go_wp2_with (first
          | (refine (Hcall.out y _ hin.out (Hw.out.trans HG.out)).mono ?_; rewrite [HB.out]; rintro e w1 ⟨rfl, hb⟩; have hb : Gr wr w1 := hb; replace HG := Lib.hid (HG.out.trans hb); clear hb gr c0)
          | fail)
        exact hR.out _ hv.out _ HG.out
      | false =>
        have hno2 : Hid (∀ i z, i < k + 1 → L[i]? = some z → pr z = false) := fun i z hi hz => by
          by_cases hik : i = k
          · subst hik
            rw [HY.out] at hz
            cases hz
            exact HB.out
          · exact hno.out i z (by omega) hz
        go_wp2_with (first
          | (refine (Hcall.out y _ hin.out (Hw.out.trans HG.out)).mono ?_; rewrite [HB.out]; rintro e w1 ⟨rfl, hb⟩; have hb : Gr wr w1 := hb; replace HG := Lib.hid (HG.out.trans hb); clear hb gr c0)
          | fail)
        go_roundg (L.length - (k + 1))
        case measure => omega
        case rel => exact ⟨k + 1, by omega, rfl, by go_num, HG.out, hno2⟩
    · obtain rfl : k = L.length := by omega
      have hv : Hid (r = -1) := HH.out.2 hno.out
      go_wp2_with fail
      exact hR.out _ hv.out _ gr

set_option maxHeartbeats 1000000 in
set_option maxRecDepth 100000 in
theorem containsFunc_i64 (g : FuncId) (cap : Array Value) (pr : Int → Bool) (S : Int → Prop) (w0 : World) (hf : IntPred g cap pr S w0) (p : Option Addr) (c : Nat) (L : List Int) (w : World) (h : IntSl w p c L) (hw : Gr w0 w) (hS : ∀ n ∈ L, S n) :
    Calls Try.prog 45 #[.slice p L.length c, .func (.func g) #[] cap] w (Ret (.bool (L.any pr)) w) := by
  have hR : Hid (∀ m, decide (firstOf pr L ≥ 0) = m → ∀ w', Gr w w' → Ret (.bool (L.any pr)) w (.returned (.bool m)) w') := fun b hb w' hg => ⟨by rw [← hb, firstOf_ge], hg⟩
  have Hcall := Lib.hid (indexFunc_i64 g cap pr S w0 hf p c L w h hw hS)
  generalize Ret (.bool (L.any pr)) w = Q at hR ⊢
  generalize firstOf pr L = r at *
  clear h hf hw hS
  generalize L.length = n at *
  go_enter Try.func45, Try.ntmps45
  try simp only [List.append_eq, List.cons_append, List.nil_append]
  go_wp2_with (first
    | (go_at_call 56; refine Hcall.out.mono ?_; rintro e w1 ⟨rfl, hb⟩; have HG := Lib.hid hb; clear hb)
    | fail)
  exact hR.out _ rfl _ HG.out

set_option maxHeartbeats 1000000 in
set_option maxRecDepth 100000 in
theorem containsFunc_int (g : FuncId) (cap : Array Value) (pr : Int → Bool) (S : Int → Prop) (w0 : World) (hf : IntPred g cap pr S w0) (p : Option Addr) (c : Nat) (L : List Int) (w : World) (h : IntSl w p c L) (hw : Gr w0 w) (hS : ∀ n ∈ L, S n) :
    Calls Try.prog 42 #[.slice p L.length c, .func (.func g) #[] cap] w (Ret (.bool (L.any pr)) w) := by
  have hR : Hid (∀ m, decide (firstOf pr L ≥ 0) = m → ∀ w', Gr w w' → Ret (.bool (L.any pr)) w (.returned (.bool m)) w') := fun b hb w' hg => ⟨by rw [← hb, firstOf_ge], hg⟩
  have Hcall := Lib.hid (indexFunc_int g cap pr S w0 hf p c L w h hw hS)
  generalize Ret (.bool (L.any pr)) w = Q at hR ⊢
  generalize firstOf pr L = r at *
  clear h hf hw hS
  generalize L.length = n at *
  go_enter Try.func42, Try.ntmps42
  try simp only [List.append_eq, List.cons_append, List.nil_append]
  go_wp2_with (first
    | (go_at_call 55; refine Hcall.out.mono ?_; rintro e w1 ⟨rfl, hb⟩; have HG := Lib.hid hb; clear hb)
    | fail)
  exact hR.out _ rfl _ HG.out

set_option maxHeartbeats 1000000 in
set_option maxRecDepth 100000 in
theorem index_int (p : Option Addr) (c : Nat) (L : List Int) (n : Int) (w : World) (h : IntSl w p c L) :
    Calls Try.prog 57 #[.slice p L.length c, .int .i64 n] w (Ret (.int .i64 (firstOf (fun x => n == x) L)) w) := by
  have hR : Hid (∀ m, firstOf (fun x => n == x) L = m → ∀ w', Gr w w' → Ret (.int .i64 (firstOf (fun x => n == x) L)) w (.returned (.int .i64 m)) w') := fun b hb w' hg => ⟨by rw [hb], hg⟩
  have HH := Lib.hid (And.intro (fun k : Nat => firstOf_hit (p := fun x => n == x) (L := L) (k := k)) (firstOf_miss (p := fun x => n == x) (L := L)))
  generalize hQ : Ret (.int .i64 (firstOf (fun x => n == x) L)) w = Q at hR ⊢
  clear hQ
  generalize firstOf (fun x => n == x) L = r at *
  have hlc : L.length ≤ c := h.1
  have hc : c ≤ 9223372036854775807 := h.2.1
  have H := Lib.hid h
  clear h
  go_enter Try.func57, Try.ntmps57
  try simp only [List.append_eq, List.cons_append, List.nil_append]
  go_wp2_with fail
  go_loopg [8] L.length (fun m i wr => ∃ k : Nat, k ≤ L.length ∧ m = L.length - k ∧ i = .int .i64 k ∧ w = wr ∧ Hid (∀ i y, i < k → L[i]? = some y → (n == y) = false))
  case atStart => exact ⟨0, Nat.zero_le _, rfl, rfl, rfl, fun i _ hi => by omega⟩
  case round =>
    obtain ⟨k, hk, rfl, rfl, rfl, hno⟩ := hrel
    by_cases hlt : k < L.length
    · obtain ⟨b, o, rfl, _, hr⟩ := H.out.ptr (by omega)
      have hy : L[k]? = some L[k] := List.getElem?_eq_getElem hlt
      have c0 := hr k _ hy
      clear hr
      generalize L[k] = y at *
      have HY := Lib.hid hy
      clear hy
      cases he : (n == y) with
      | true =>
        have hv : Hid (r = (k : Int)) := HH.out.1 k ⟨y, HY.out, he⟩ hno.out
        go_wp2_with fail
        exact hR.out _ hv.out _ (Gr.rfl' _)
      | false =>
        have hno2 : Hid (∀ i z, i < k + 1 → L[i]? = some z → (n == z) = false) := fun i z hi hz => by
          by_cases hik : i = k
          · subst hik
            rw [HY.out] at hz
            cases hz
            exact he
          · exact hno.out i z (by omega) hz
        go_wp2_with fail
        go_roundg (L.length - (k + 1))
        case measure => omega
        case rel => exact ⟨k + 1, by omega, rfl, by go_num, rfl, hno2⟩
    · obtain rfl : k = L.length := by omega
      have hv : Hid (r = -1) := HH.out.2 hno.out
      go_wp2_with fail
      exact hR.out _ hv.out _ (Gr.rfl' _)

set_option maxHeartbeats 1000000 in
set_option maxRecDepth 100000 in
theorem contains_int (p : Option Addr) (c : Nat) (L : List Int) (n : Int) (w : World) (h : IntSl w p c L) :
    Calls Try.prog 49 #[.slice p L.length c, .int .i64 n] w (Ret (.bool (L.any fun x => n == x)) w) := by
  have hR : Hid (∀ m, decide (firstOf (fun x => n == x) L ≥ 0) = m → ∀ w', Gr w w' → Ret (.bool (L.any fun x => n == x)) w (.returned (.bool m)) w') := fun b hb w' hg => ⟨by rw [← hb, firstOf_ge], hg⟩
  have Hcall := Lib.hid (index_int p c L n w h)
  generalize Ret (.bool (L.any fun x => n == x)) w = Q at hR ⊢
  generalize firstOf (fun x => n == x) L = r at *
  clear h
  generalize L.length = m at *
  go_enter Try.func49, Try.ntmps49
  try simp only [List.append_eq, List.cons_append, List.nil_append]
  go_wp2_with (first
    | (go_at_call 57; refine Hcall.out.mono ?_; rintro e w1 ⟨rfl, hb⟩; have HG := Lib.hid hb; clear hb)
    | fail)
  exact hR.out _ rfl _ HG.out
end Go.Proofs.Ytbapmokbkjmdcaa
