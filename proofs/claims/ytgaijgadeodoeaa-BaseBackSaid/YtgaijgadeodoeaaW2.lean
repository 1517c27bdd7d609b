/-
  Maps that a program keeps: what they hold.
-/
import Derived.Test.YtgaijgadeodoeaaV3
import Derived.Test.YtgaijgadeodoeaaO
import Derived.Maps.OwnOps
import Derived.Maps.Views
import Derived.WideKeyEntry
import Derived.DeepKeys4
namespace Go.Proofs.Ytgaijgadeodoeaa
open Go.RowKit Go.Maps

/-- Block b is a map: it holds just what f says. -/
def GMap {K : Type} (k : TypeId) (κ : K → Value) (w : World) (b : Nat) (f : K → Option Value) : Prop :=
  ∃ (E : Array MapEntry) (c : Nat), w.heap[b]? = some (.map E c) ∧ (∀ e ∈ E.toList, ∃ l, keyOf Try.prog k e.key = some l) ∧ (E.toList.map (·.key)).Nodup ∧
    ∀ x v, f x = some v ↔ ∃ e ∈ E.toList, e.key = κ x ∧ e.val = v

section
variable {K : Type} {k : TypeId} {κ : K → Value} {w w' : World} {b : Nat} {f : K → Option Value}
theorem GMap.lt (h : GMap k κ w b f) : b < w.heap.size := by
  obtain ⟨E, c, h1, _⟩ := h
  exact (Array.getElem?_eq_some_iff.1 h1).1
theorem GMap.same (h : GMap k κ w b f) (hb : w'.heap[b]? = w.heap[b]?) : GMap k κ w' b f := by
  obtain ⟨E, c, h1, h2⟩ := h
  exact ⟨E, c, hb.trans h1, h2⟩
theorem GMap.gr (h : GMap k κ w b f) (hg : Gr w w') : GMap k κ w' b f := h.same (hg.block b h.lt)
theorem GMap.kp {C : Nat → Prop} (h : GMap k κ w b f) (hg : Kp C w w') (hb : ¬ C b) : GMap k κ w' b f := h.same (hg.block b h.lt hb)
theorem GMap.made (k : TypeId) (κ : K → Value) (w : World) : GMap k κ (w.alloc (.map #[] 0)) w.heap.size fun _ => none :=
  ⟨#[], 0, heap_alloc_new _ _, (fun _ h => by cases h), List.nodup_nil, fun x v => ⟨(fun h => by cases h), fun ⟨e, he, _⟩ => by cases he⟩⟩
theorem GMap.ext {g : K → Option Value} (h : GMap k κ w b f) (hfg : ∀ x, f x = g x) : GMap k κ w b g := (funext hfg : f = g) ▸ h

set_option maxRecDepth 100000 in
theorem GMap.run (h : GMap k κ w b f) (KK : Keyed Try.prog k) {t e : TypeId} (ht : Try.prog.underlying t = some (.map k e)) {z : Value} (hz : (zeroValue e).run Try.prog w = .ok z w) {x : K} {l : Lit} (hx : keyOf Try.prog k (κ x) = some l) :
    (Instr.lookup t (.map (some b)) (κ x) false).run Try.prog w = .ok ((f x).getD z) w ∧ (Instr.lookup t (.map (some b)) (κ x) true).run Try.prog w = .ok (.tuple #[(f x).getD z, .bool (f x).isSome]) w := by
  obtain ⟨E, c, hb, hk, hn, hf⟩ := h
  rcases KK.find w hx E.toList hk with ⟨h1, h2⟩ | ⟨j, e0, h1, h2, h3⟩
  · have hfx : f x = none := by
      cases hv : f x with
      | none => rfl
      | some v =>
        obtain ⟨e, he, hek, _⟩ := (hf x v).1 hv
        exact absurd hek (h2 e he)
    rw [hfx]
    constructor
    · simp [Instr.lookup, run_underlying ht, MapKept.run_getObj_map hb, KK.check w _ hx, h1, hz, Result.andThen]
    · simp [Instr.lookup, run_underlying ht, MapKept.run_getObj_map hb, KK.check w _ hx, h1, hz, Result.andThen]
  · have hfx : f x = some e0.val := (hf x e0.val).2 ⟨e0, List.mem_of_getElem? h2, h3, rfl⟩
    rw [hfx]
    constructor
    · simp [Instr.lookup, run_underlying ht, MapKept.run_getObj_map hb, KK.check w _ hx, h1, hz, Result.andThen]
    · simp [Instr.lookup, run_underlying ht, MapKept.run_getObj_map hb, KK.check w _ hx, h1, hz, Result.andThen]

theorem setBlock_grown {E : Array MapEntry} {c : Nat} (hb : w.heap[b]? = some (.map E c)) (o : Obj) : w.grownBy (ChangeMaps.setBlock w b o) (some b) :=
  ⟨rfl, rfl, rfl, by simp [ChangeMaps.setBlock], fun i _ hi => ChangeMaps.heap_setBlock_other hb _ (fun e => hi (by rw [e]))⟩

set_option maxRecDepth 100000 in
theorem GMap.update (h : GMap k κ w b f) (KK : Keyed Try.prog k) {t e : TypeId} (ht : Try.prog.underlying t = some (.map k e)) {x : K} {l : Lit} (hx : keyOf Try.prog k (κ x) = some l) (hinj : ∀ y, κ y = κ x → y = x) (v : Value)
    {g : K → Option Value} (hg1 : g x = some v) (hg2 : ∀ y, y ≠ x → g y = f y) :
    ∃ w', (Instr.mapUpdate t (.map (some b)) (κ x) v).run Try.prog w = .ok () w' ∧ GMap k κ w' b g ∧ w.grownBy w' (some b) := by
  obtain ⟨E, c, hb, hk, hn, hf⟩ := h
  rcases KK.find w hx E.toList hk with ⟨h1, h2⟩ | ⟨j, e0, h1, h2, h3⟩
  · refine ⟨ChangeMaps.setBlock w b (.map (E.push ⟨κ x, v, c⟩) (c + 1)), ?_, ⟨E.push ⟨κ x, v, c⟩, c + 1, ChangeMaps.heap_setBlock_same hb _, ?_, ?_, ?_⟩, setBlock_grown hb _⟩
    · simp [Instr.mapUpdate, run_underlying ht, MapKept.run_getObj_map hb, KK.check w false hx, h1, MapKept.run_setObj_map _ hb, Result.andThen, ChangeMaps.setBlock]
    · intro e he
      rw [Array.toList_push, List.mem_append, List.mem_singleton] at he
      rcases he with he | rfl
      · exact hk e he
      · exact ⟨l, hx⟩
    · rw [Array.toList_push, List.map_append, List.nodup_append]
      refine ⟨hn, by simp, ?_⟩
      intro a ha d hd
      obtain ⟨e, he, rfl⟩ := List.mem_map.1 ha
      simp only [List.map_cons, List.map_nil, List.mem_singleton] at hd
      subst hd
      exact h2 e he
    · intro y v'
      rw [Array.toList_push]
      by_cases hy : y = x
      · subst hy
        rw [hg1]
        constructor
        · intro h; cases h; exact ⟨⟨κ y, v, c⟩, by simp, rfl, rfl⟩
        · rintro ⟨e, he, he2, rfl⟩
          rcases List.mem_append.1 he with he | he
          · exact absurd he2 (h2 e he)
          · rw [List.mem_singleton.1 he]
      · rw [hg2 y hy, hf y v']
        constructor
        · rintro ⟨e, he, h3⟩; exact ⟨e, List.mem_append_left _ he, h3⟩
        · rintro ⟨e, he, he2, he3⟩
          rcases List.mem_append.1 he with he | he
          · exact ⟨e, he, he2, he3⟩
          · rw [List.mem_singleton.1 he] at he2
            exact absurd (hinj y he2.symm) hy
  · have hj : E[j]? = some e0 := by simpa using h2
    obtain ⟨hjl, hj0⟩ := List.getElem?_eq_some_iff.1 h2
    obtain ⟨A, a, B, hE, hA, hM⟩ := List.exists_of_modify (fun e : MapEntry => { e with key := κ x, val := v }) hjl
    have ha : a = e0 := by
      rw [hE, List.getElem?_append_right (by omega), hA, Nat.sub_self] at h2
      exact Option.some.inj h2
    subst ha
    have hM' : (E.modify j fun e => { e with key := κ x, val := v }).toList = A ++ { a with key := κ x, val := v } :: B := by rw [Array.toList_modify]; exact hM
    have hn2 := hn
    rw [hE, List.map_append, List.map_cons, h3, List.nodup_append, List.nodup_cons] at hn2
    obtain ⟨n1, ⟨n2, n3⟩, n4⟩ := hn2
    refine ⟨ChangeMaps.setBlock w b (.map (E.modify j fun e => { e with key := κ x, val := v }) c), ?_, ⟨E.modify j fun e => { e with key := κ x, val := v }, c, ChangeMaps.heap_setBlock_same hb _, ?_, ?_, ?_⟩, setBlock_grown hb _⟩
    · simp [Instr.mapUpdate, run_underlying ht, MapKept.run_getObj_map hb, KK.check w false hx, h1, hj, h3, KK.stays w hx, MapKept.run_setObj_map _ hb, Result.andThen, ChangeMaps.setBlock]
    · rw [hM']
      intro e he
      rcases List.mem_append.1 he with he | he
      · exact hk e (by rw [hE]; exact List.mem_append_left _ he)
      · rcases List.mem_cons.1 he with rfl | he
        · exact ⟨l, hx⟩
        · exact hk e (by rw [hE]; exact List.mem_append_right _ (List.mem_cons_of_mem _ he))
    · rw [hM', List.map_append, List.map_cons, List.nodup_append, List.nodup_cons]
      exact ⟨n1, ⟨n2, n3⟩, n4⟩
    · intro y v'
      rw [hM']
      by_cases hy : y = x
      · subst hy
        rw [hg1]
        constructor
        · intro h; cases h; exact ⟨{ a with key := κ y, val := v }, by simp, rfl, rfl⟩
        · rintro ⟨e, he, he2, rfl⟩
          rcases List.mem_append.1 he with he | he
          · exact absurd he2 (n4 e.key (List.mem_map_of_mem he) (κ y) (by simp))
          · rcases List.mem_cons.1 he with rfl | he
            · rfl
            · exact absurd (List.mem_map_of_mem (f := (·.key)) he) (by simp only [he2]; exact n2)
      · rw [hg2 y hy, hf y v', hE]
        have hne : κ x ≠ κ y := fun e => hy (hinj y e.symm)
        constructor
        · rintro ⟨e, he, he2, he3⟩
          rcases List.mem_append.1 he with he | he
          · exact ⟨e, List.mem_append_left _ he, he2, he3⟩
          · rcases List.mem_cons.1 he with rfl | he
            · exact absurd (h3.symm.trans he2) hne
            · exact ⟨e, List.mem_append_right _ (List.mem_cons_of_mem _ he), he2, he3⟩
        · rintro ⟨e, he, he2, he3⟩
          rcases List.mem_append.1 he with he | he
          · exact ⟨e, List.mem_append_left _ he, he2, he3⟩
          · rcases List.mem_cons.1 he with rfl | he
            · exact absurd he2 hne
            · exact ⟨e, List.mem_append_right _ (List.mem_cons_of_mem _ he), he2, he3⟩
end
end Go.Proofs.Ytgaijgadeodoeaa
