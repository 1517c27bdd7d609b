/-
  Maps from predicates to numbers that a call makes for itself.
-/
import Derived.Test.YtgaijgadeodoeaaDoorM
import Derived.Test.YtgaijgadeodoeaaDoorO
import Derived.Maps.OwnOps
import Derived.Maps.Views
import Derived.WideKeyEntry
import Derived.DeepKeys4
namespace Go.Proofs.YtgaijgadeodoeaaDoor
open Go.RowKit Go.Maps

theorem pred_row : 70 < Tryd.prog.types.size := of_decide_eq_true (by kernel_rfl)
theorem pred_wide : (match Tryd.prog.underlying 70 with | some (.array _ _) | some (.struct _) => true | _ => false) = true := by rw [Tryd.underlying70]
set_option maxRecDepth 100000 in
theorem pred_law : WideMaps.KeyLaw Tryd.prog 70 := deep_law_laid laidOut_ (m := 2) (by omega) pred_row (by kernel_rfl) pred_wide
theorem pred_keyed : Keyed Tryd.prog 70 := Keyed.of_law pred_law

def predLit (s : List UInt8) (n : Int) : Lit := .string (keyBytes [.string s, .int .i64 n])

theorem keyOf_pred {s : ByteArray} {n : Int} (hs : s.size ≤ maxLen) (hn : (Lit.int .i64 n).wf = true) : keyOf Tryd.prog 70 (.agg #[.string s, .int .i64 n]) = some (predLit s.data.toList n) := by
  have hk : Tryd.prog.keyType 70 = true := by kernel_rfl
  have hc : Tryd.prog.cellsOf 70 = 2 := by kernel_rfl
  have hcs : Tryd.prog.cellsOf 9 = 1 := by kernel_rfl
  have hci : Tryd.prog.cellsOf 3 = 1 := by kernel_rfl
  have hf : (Value.agg #[.string s, .int .i64 n]).formed Tryd.prog 70 = true := by simp [Value.formed, Tryd.underlying70, hc]
  obtain ⟨m, hm⟩ : ∃ m, Tryd.prog.types.size = m + 1 := ⟨Tryd.prog.types.size - 1, by have := pred_row; omega⟩
  unfold keyOf
  rw [Tryd.underlying70]
  simp only [hk, hf, Bool.and_self, if_true]
  rw [show Tryd.prog.types.size + 1 = (m + 1) + 1 by omega]
  unfold Program.keyLits
  simp only [Tryd.underlying70]
  unfold Program.keyLits
  simp [Value.cells, hc, hcs, hci, Tryd.underlying9, Tryd.underlying3, hs, hn, predLit]

theorem predLit_inj {s s' : ByteArray} {n n' : Int} (hs : s.size ≤ maxLen) (hs' : s'.size ≤ maxLen) (hn : (Lit.int .i64 n).wf = true) (hn' : (Lit.int .i64 n').wf = true) (h : predLit s.data.toList n = predLit s'.data.toList n') : s = s' ∧ n = n' := by
  have h1 := keyOf_pred hs hn
  rw [h] at h1
  have h2 := pred_keyed.inj h1 (keyOf_pred hs' hn')
  simpa using h2

/-- Block b is a map of at most n predicates: to each the number f gives (0 where there is none). -/
def PredMap (w : World) (b n : Nat) (f : List UInt8 → Int → Int) : Prop :=
  ∃ D : DataW Unit, w.ownsMap Tryd.prog 70 (plainElem Tryd.prog 3) b n D ∧ IsMap D ∧
    ∀ (s : ByteArray) (m : Int), s.size ≤ maxLen → (Lit.int .i64 m).wf = true → D.atKey (predLit s.data.toList m) (.lit (.int .i64 0)) = .lit (.int .i64 (f s.toList m))

section
variable {w w' : World} {b n : Nat} {f : List UInt8 → Int → Int}
theorem PredMap.lt (h : PredMap w b n f) : b < w.heap.size := by
  obtain ⟨D, h1, _⟩ := h
  exact h1.lt
theorem PredMap.gr (h : PredMap w b n f) (hg : Gr w w') : PredMap w' b n f := by
  have hlt := h.lt
  obtain ⟨D, ⟨es, clock, hb, h2⟩, h3⟩ := h
  exact ⟨D, ⟨es, clock, (hg.block b hlt).trans hb, h2⟩, h3⟩
theorem PredMap.kept {r : Nat} (h : PredMap w b n f) (hg : w.grownBy w' (some r)) (hne : b ≠ r) : PredMap w' b n f := by
  obtain ⟨D, h1, h2⟩ := h
  exact ⟨D, h1.kept hg (by simpa using hne), h2⟩
theorem PredMap.mono {n' : Nat} (h : PredMap w b n f) (hn : n ≤ n') : PredMap w b n' f := by
  obtain ⟨D, h1, h2⟩ := h
  exact ⟨D, h1.mono hn, h2⟩
theorem PredMap.made (w : World) : PredMap (w.alloc (.map #[] 0)) w.heap.size 0 fun _ _ => 0 := ⟨.map [], World.ownsMap_made w _ _ _, isMap_empty, fun _ _ _ _ => rfl⟩
theorem PredMap.ext {g : List UInt8 → Int → Int} (h : PredMap w b n f) (hfg : f = g) : PredMap w b n g := hfg ▸ h

theorem zero_int' (w : World) : (zeroValue 3).run Tryd.prog w = .ok (.int .i64 0) w := by kernel_rfl

set_option maxRecDepth 100000 in
theorem PredMap.run (h : PredMap w b n f) (s : ByteArray) (m : Int) (hs : s.size ≤ maxLen) (hm : (Lit.int .i64 m).wf = true) :
    (Instr.lookup 66 (.map (some b)) (.agg #[.string s, .int .i64 m]) false).run Tryd.prog w = .ok (.int .i64 (f s.toList m)) w := by
  obtain ⟨D, h1, h2, h3⟩ := h
  obtain ⟨c, hr, hc, _⟩ := h1.lookup_int (t := 66) pred_keyed Tryd.underlying66 Tryd.underlying3 (zero_int' w) (keyOf_pred hs hm)
  rw [h3 s m hs hm] at hc
  injection hc with hc
  injection hc with _ hc
  subst hc
  exact hr

set_option maxRecDepth 100000 in
theorem entry_look {P : Program} {w w2 : World} {t k e : TypeId} {R : Value → Option (DataW Unit × List MemPlace)} {b : Nat} {es : Array MapEntry} {clock : Nat} (K : WideMaps.KeyLaw P k) (ht : P.underlying t = some (.map k e)) {z : Value}
    (hz : ∀ u : World, (zeroValue e).run P u = .ok z u) (hb : w.heap[b]? = some (.map es clock)) (F : Go.WideElems.Fit P k R es clock) {key v x : Value} {kl : Lit} (hkey : keyOf P k key = some kl)
    (hl : (Instr.lookup t (.map (some b)) key false).run P w = .ok v w) (hrun : (Instr.mapEntry t (.map (some b)) key).run P w = .ok x w2) : (Instr.lookup t (.map (some b)) key false).run P w2 = .ok v w2 := by
  rcases K.find w hkey es.toList F.keys with ⟨h1, h2⟩ | ⟨j, e0, h1, h2, h3⟩
  · have hv : (Instr.lookup t (.map (some b)) key false).run P w = .ok z w := by simp [Instr.lookup, run_underlying ht, MapKept.run_getObj_map hb, K.check w _ hkey, h1, hz, Result.andThen]
    rw [hv] at hl
    obtain rfl := (Result.ok.inj hl).1
    have he : (Instr.mapEntry t (.map (some b)) key).run P w = .ok (.tuple #[z, goInt clock]) (ChangeMaps.setBlock w b (.map (es.push ⟨key, z, clock⟩) (clock + 1))) := by
      simp [Instr.mapEntry, run_underlying ht, MapKept.run_getObj_map hb, K.check w false hkey, h1, hz, MapKept.run_setObj_map _ hb, Result.andThen, ChangeMaps.setBlock]
    rw [he] at hrun
    obtain rfl := (Result.ok.inj hrun).2
    have hb2 := ChangeMaps.heap_setBlock_same hb (.map (es.push ⟨key, z, clock⟩) (clock + 1))
    have hkeys : ∀ e ∈ (es.push ⟨key, z, clock⟩).toList, ∃ l, keyOf P k e.key = some l := by
      intro e he
      rw [Array.toList_push, List.mem_append, List.mem_singleton] at he
      rcases he with he | rfl
      · exact F.keys e he
      · exact ⟨kl, hkey⟩
    rcases K.find (ChangeMaps.setBlock w b (.map (es.push ⟨key, z, clock⟩) (clock + 1))) hkey (es.push ⟨key, z, clock⟩).toList hkeys with ⟨_, h5⟩ | ⟨j, e0, h4, h5, h6⟩
    · exact absurd rfl (h5 ⟨key, z, clock⟩ (by simp))
    · have hz0 : e0.val = z := by
        have h7 := List.mem_of_getElem? h5
        rw [Array.toList_push, List.mem_append, List.mem_singleton] at h7
        rcases h7 with h7 | rfl
        · exact absurd h6 (h2 e0 h7)
        · rfl
      simp only [Array.toList_push] at h4
      simp [Instr.lookup, run_underlying ht, MapKept.run_getObj_map hb2, K.check _ _ hkey, h4, Result.andThen, hz0]
  · have hj : es[j]? = some e0 := by simpa using h2
    have hsame : es.modify j (fun e => { e with key := key }) = es := by
      apply Array.ext_getElem?
      intro i
      rw [Array.getElem?_modify]
      split
      · rename_i hi
        subst hi
        rw [hj]
        simp [← h3]
      · rfl
    have he : (Instr.mapEntry t (.map (some b)) key).run P w = .ok (.tuple #[e0.val, goInt e0.born]) (ChangeMaps.setBlock w b (.map es clock)) := by
      simp [Instr.mapEntry, run_underlying ht, MapKept.run_getObj_map hb, K.check w false hkey, h1, hj, h3, K.stays w hkey, hsame, MapKept.run_setObj_map _ hb, Result.andThen, ChangeMaps.setBlock]
    rw [he] at hrun
    have hw := (Result.ok.inj hrun).2
    have : ChangeMaps.setBlock w b (.map es clock) = w := by
      obtain ⟨heap, tape, drawn, os, output⟩ := w
      simp only [ChangeMaps.setBlock, World.mk.injEq, and_true]
      apply Array.ext_getElem?
      intro i
      rw [Array.getElem?_setIfInBounds]
      split
      · rename_i hi
        subst hi
        simp only at hb
        rw [hb]
        split
        · rfl
        · rename_i h8
          exact absurd (Array.getElem?_eq_some_iff.1 hb).1 h8
      · rfl
    rw [this] at hw
    subst hw
    exact hl

/-- One more at a place. -/
def bump (f : List UInt8 → Int → Int) (s : List UInt8) (m : Int) (c : Int) : List UInt8 → Int → Int := fun t k => if t = s ∧ k = m then c else f t k

set_option maxRecDepth 100000 in
theorem PredMap.bumped (h : PredMap w b n f) (s : ByteArray) (m c : Int) (hs : s.size ≤ maxLen) (hm : (Lit.int .i64 m).wf = true) (hn : n < maxLen) (hc : (Lit.int .i64 c).wf = true) :
    ∃ (v0 : Value) (st : Nat) (w2 w4 : World), (Instr.mapEntry 66 (.map (some b)) (.agg #[.string s, .int .i64 m])).run Tryd.prog w = .ok (.tuple #[v0, goInt st]) w2 ∧
      (Instr.entryStore 66 (.map (some b)) (goInt st) (.int .i64 c)).run Tryd.prog w2 = .ok () w4 ∧
      PredMap w4 b (n + 1) (bump f s.toList m c) ∧ w.grownBy w4 (some b) ∧ w.grownBy w2 (some b) ∧
      (Instr.lookup 66 (.map (some b)) (.agg #[.string s, .int .i64 m]) false).run Tryd.prog w2 = .ok (.int .i64 (f s.toList m)) w2 := by
  have hl := h.run s m hs hm
  obtain ⟨D, h1, h2, h3⟩ := h
  obtain ⟨w4', hrun, hown, hgr⟩ := h1.update pred_keyed Tryd.underlying66 hn (keyOf_pred hs hm) (plainElem_int Tryd.underlying3 hc)
  obtain ⟨es, clock, hb, F, hsz, hD⟩ := h1
  obtain ⟨v0, st, es1, clock1, he, _, hst⟩ := Go.WideElems.entry_then_store pred_law Tryd.underlying66 (fun u => zero_int' u) hb F (keyOf_pred hs hm)
  have hb1 : (ChangeMaps.setBlock w b (.map es1 clock1)).heap[b]? = some (.map es1 clock1) := ChangeMaps.heap_setBlock_same hb _
  obtain ⟨es', clock', hs1, hs2⟩ := hst _ (.int .i64 c) hb1
  have e2 : ∀ x y, ChangeMaps.setBlock (ChangeMaps.setBlock w b x) b y = ChangeMaps.setBlock w b y := fun x y => by simp [ChangeMaps.setBlock]
  rw [e2] at hs1
  have e4 : w4' = ChangeMaps.setBlock w b (.map es' clock') := by
    rw [hrun] at hs2
    injection hs2
  subst e4
  refine ⟨v0, st, _, _, he, hs1, ⟨_, hown, h2.put _ _, fun t k ht hk => ?_⟩, hgr, ⟨rfl, rfl, rfl, by simp [ChangeMaps.setBlock], fun i _ hi => ChangeMaps.heap_setBlock_other hb _ (fun e => hi (by rw [e]))⟩, entry_look pred_law Tryd.underlying66 (fun u => zero_int' u) hb F (keyOf_pred hs hm) hl he⟩
  by_cases hx : predLit t.data.toList k = predLit s.data.toList m
  · obtain ⟨rfl, rfl⟩ := predLit_inj ht hs hk hm hx
    rw [atKey_put_same h2 (pred_keyed.key (keyOf_pred hs hm)), bump, if_pos ⟨rfl, rfl⟩]
  · rw [atKey_put_other hx, h3 t k ht hk, bump, if_neg]
    rintro ⟨h8, rfl⟩
    apply hx
    rw [ByteArray.toList_eq, ByteArray.toList_eq] at h8
    rw [h8]
end
end Go.Proofs.YtgaijgadeodoeaaDoor
