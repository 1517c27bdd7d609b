/-
  An argument of type api.Term that can be read is a term that lies in the world.
  Arguments that are slices of structs: opened to lists.
  Numbers: what the document says of each operation (plain).
  A region that draws its order, whose last operations wait for all that stand before them.
  On which blocks a term lies.
-/
import Derived.Test.YtjdoflfdlhpbmaaGreatBF01
import Derived.ProofKit
import Derived.OpenShut
import Derived.ShutString
import Derived.ChangeOld
import Derived.Lib.SmallJoins
import Derived.Deep.Slices
namespace Go.Proofs.YtjdoflfdlhpbmaaGreat
open Go.ChangeShapes Go.WideShapes Go.ChangeAt Go.RowKit Go.Deep

theorem own_ : ownKnob Tryz.prog.godebug = none := by kernel_rfl
theorem laidOut_ : laidOutB Tryz.prog = true := by kernel_rfl
theorem cellsTerm : Tryz.prog.cellsOf 24 = 4 := by kernel_rfl
theorem bytesTerm : Tryz.prog.bytesOf 24 = 56 := by kernel_rfl
theorem cellsI : Tryz.prog.cellsOf 3 = 1 := by kernel_rfl
theorem cellsI64 : Tryz.prog.cellsOf 2 = 1 := by kernel_rfl
theorem cellsS : Tryz.prog.cellsOf 9 = 1 := by kernel_rfl
theorem cellsTerms : Tryz.prog.cellsOf 22 = 1 := by kernel_rfl

theorem bounds64 {n : Int} (h : (Lit.int .i64 n).wf = true) : -9223372036854775808 ≤ n ∧ n ≤ 9223372036854775807 := by
  have := bounds_i64 h
  omega

theorem reach_eq : reachBytes = 140737488351232 := by decide

theorem list4 {α : Type} {l : List α} (h : l.length = 4) : ∃ a b c d, l = [a, b, c, d] := by
  match l, h with
  | [a, b, c, d], _ => exact ⟨a, b, c, d, rfl⟩

theorem weightsAll_mem {H : Type} {P : Program} {e : TypeId} {d : DataW H} : ∀ {ds : List (DataW H)}, d ∈ ds → ∀ {n : Nat}, n ∈ d.weights P e → n ∈ DataW.weightsAll P e ds
  | x :: xs, h, n, hn => by
    rw [DataW.weightsAll, List.mem_append]
    rcases List.mem_cons.1 h with rfl | h
    · exact .inl hn
    · exact .inr (weightsAll_mem h hn)

section
variable {H : Type} {enc : TypeId × Value → H} {W : World}

/-- A list of terms, each lying behind the other. -/
theorem list_of {n : Nat} {p : Nat → Tm → Prop} (h : ∀ i, i < n → ∃ x, p i x) : ∃ l : List Tm, l.length = n ∧ ∀ i x, l[i]? = some x → p i x := by
  induction n with
  | zero => exact ⟨[], rfl, fun i x hx => by simp at hx⟩
  | succ n ih =>
    obtain ⟨l, hl, hp⟩ := ih fun i hi => h i (by omega)
    obtain ⟨y, hy⟩ := h n (by omega)
    refine ⟨l ++ [y], by simp [hl], fun i x hx => ?_⟩
    by_cases hi : i < l.length
    · rw [List.getElem?_append_left hi] at hx
      exact hp i x hx
    · rw [List.getElem?_append_right (by omega)] at hx
      have : i = l.length := by
        by_cases h9 : i - l.length = 0
        · omega
        · rw [List.getElem?_cons] at hx
          simp [h9] at hx
      subst this
      simp at hx
      subst hx
      rw [hl]
      exact hy

/-- Four cells that read as a term. -/
theorem open_term (fuel : Nat) : ∀ (cs : List Value) (x : DataW H × List MemPlace), DataW.trod enc Tryz.prog W 0 (fun _ => true) true fuel 24 cs = some x →
    (∀ n ∈ x.1.weights Tryz.prog 24, n ≤ reachBytes) → ∃ t : Tm, cs = t.cells ∧ t.In W := by
  induction fuel using Nat.strongRecOn with
  | _ fuel ih =>
    intro cs x h hw
    obtain ⟨xs, m, rfl, rfl, hl, hlen, hf⟩ := DataW.trod_struct Tryz.underlying24 h
    rw [cellsTerm] at hl
    obtain ⟨y0, y1, y2, y3, rfl⟩ := list4 hlen
    obtain ⟨v0, v1, v2, v3, rfl⟩ := list4 hl
    have g0 := hf 0 _ rfl
    have g1 := hf 1 _ rfl
    have g2 := hf 2 _ rfl
    have g3 := hf 3 _ rfl
    simp [cellsI, cellsI64, cellsS, cellsTerms] at g0 g1 g2 g3
    obtain ⟨k, hk, rfl, wk⟩ := DataW.trod_int Tryz.underlying3 g0
    obtain ⟨n, hn, rfl, wn⟩ := DataW.trod_int Tryz.underlying2 g1
    obtain ⟨s, hs, rfl, ws⟩ := DataW.trod_string Tryz.underlying9 g2
    simp only [List.cons.injEq, and_true] at hk hn hs
    subst hk hn hs
    simp only [List.map_cons, List.map_nil, DataW.weights, Tryz.underlying24, DataW.weightsEach, List.append_nil, List.nil_append, List.mem_append, List.mem_cons, List.mem_nil_iff, or_false, List.map_cons] at hw
    have hs' : s.size ≤ 140737488351232 := by
      have h9 := hw s.data.toList.length (.inl rfl)
      rw [reach_eq] at h9
      exact h9
    rcases DataW.trod_slice Tryz.underlying22 g3 with ⟨hcs, hx⟩ | ⟨a, len, cap, elems, rest, n', hm, hcs, hx, _, hlc, hcm, hle, hel, hre, _⟩
    · simp only [List.cons.injEq, and_true] at hcs
      subst hcs
      refine ⟨.mk k n s none 0 [], rfl, ?_⟩
      rw [Tm.In]
      exact ⟨bounds64 wk, bounds64 wn, hs', Nat.le_refl _, ⟨by simp, by omega⟩, .inl rfl, by rw [Tm.InL]; trivial⟩
    · simp only [List.cons.injEq, and_true] at hcs
      subst hcs
      subst hx
      subst hm
      have hrl := (hre rfl).1
      simp only [DataW.weights, Tryz.underlying22, List.length_map, List.mem_cons, List.mem_append, bytesTerm] at hw
      have hcap : cap * 56 ≤ 140737488351232 := by
        have h9 := hw ((elems.length + rest.length) * 56) (.inr (.inl rfl))
        rw [reach_eq, hle, hrl] at h9
        have : len + (cap - len) = cap := by omega
        rwa [this] at h9
      have hall : ∀ i, i < len → ∃ x : Tm, (∃ cs', W.cells? 0 (a.add (i * 4)) 4 = some cs' ∧ cs' = x.cells) ∧ x.In W := by
        intro i hi
        have h9 := hel i hi
        have hi' : i < elems.length := by omega
        rw [cellsTerm, List.getElem?_eq_getElem hi', Option.bind_eq_some_iff] at h9
        obtain ⟨cs', h10, h11⟩ := h9
        obtain ⟨t, ht, hin⟩ := ih n' (by omega) cs' _ h11 fun q hq => hw q (.inr (.inr (.inl (weightsAll_mem (List.mem_map.2 ⟨_, List.getElem_mem hi', rfl⟩) hq))))
        exact ⟨t, ⟨cs', h10, ht⟩, hin⟩
      obtain ⟨l, hll, hlp⟩ := list_of hall
      refine ⟨.mk k n s (some a) cap l, by rw [← hll]; rfl, ?_⟩
      rw [Tm.In]
      refine ⟨bounds64 wk, bounds64 wn, hs', by omega, by omega, ?_, Tm.InL_of fun x hx => ?_⟩
      · by_cases hl0 : l = []
        · exact .inl hl0
        · refine .inr ?_
          have h0 : 0 < l.length := List.length_pos_iff.2 hl0
          obtain ⟨⟨cs', h10, h12⟩, _⟩ := hlp 0 l[0] (List.getElem?_eq_getElem h0)
          obtain ⟨_, _, hc⟩ := World.cells?_some h10
          have hc0 := hc 0 (by omega)
          obtain ⟨b, o, spot⟩ := a
          have hspot : spot = none := by
            have h13 : W.cell? ⟨b, o, spot⟩ = some (.int .i64 l[0].k) := by rw [h12] at hc0; simpa [Addr.add, Tm.cells] using hc0
            exact World.cell?_spot h13
          subst hspot
          refine ⟨b, o, rfl, fun i x hx => ?_⟩
          obtain ⟨⟨cs'', h10, h12⟩, _⟩ := hlp i x hx
          obtain ⟨_, _, hc⟩ := World.cells?_some h10
          rw [h12] at hc
          have e0 := hc 0 (by omega)
          have e1 := hc 1 (by omega)
          have e2 := hc 2 (by omega)
          have e3 := hc 3 (by omega)
          rw [add_plain, add_plain] at e0 e1 e2 e3
          exact ⟨e0, e1, e2, e3⟩
      · obtain ⟨i, hi, rfl⟩ := List.getElem_of_mem hx
        exact (hlp i l[i] (List.getElem?_eq_getElem hi)).2

set_option maxRecDepth 100000 in
/-- An argument of type api.Term. -/
theorem open_term_arg {r : Reach} {b0 : Nat} {v : Value} {d : DataW H} {p : List MemPlace} (hv : Value.okWide Tryz.prog W r b0 24 v)
    (h : DataW.Trod enc Tryz.prog W 0 (fun _ => true) true 24 v d p) (hw : ∀ n ∈ d.weights Tryz.prog 24, n ≤ reachBytes) : ∃ t : Tm, v = t.val ∧ t.In W := by
  obtain ⟨cs, rfl, hsz⟩ := okWide_struct Tryz.underlying24 hv
  obtain ⟨fuel, hf⟩ := h
  obtain ⟨t, ht, hin⟩ := open_term fuel _ _ hf hw
  refine ⟨t, ?_, hin⟩
  have : cs.toList = t.cells := ht
  unfold Tm.val
  congr 1
  rw [← Array.toArray_toList (xs := cs), this]
  rfl
end
end Go.Proofs.YtjdoflfdlhpbmaaGreat

namespace Go.Proofs.YtjdoflfdlhpbmaaGreat
open Go.ChangeShapes Go.WideShapes Go.ChangeAt Go.RowKit Go.Deep

theorem list_of_any {X : Type} {n : Nat} {p : Nat → X → Prop} (h : ∀ i, i < n → ∃ x, p i x) : ∃ l : List X, l.length = n ∧ ∀ i x, l[i]? = some x → p i x := by
  induction n with
  | zero => exact ⟨[], rfl, fun i x hx => by simp at hx⟩
  | succ n ih =>
    obtain ⟨l, hl, hp⟩ := ih fun i hi => h i (by omega)
    obtain ⟨y, hy⟩ := h n (by omega)
    refine ⟨l ++ [y], by simp [hl], fun i x hx => ?_⟩
    by_cases hi : i < l.length
    · rw [List.getElem?_append_left hi] at hx
      exact hp i x hx
    · rw [List.getElem?_append_right (by omega)] at hx
      have h0 : i = l.length := by
        have := (List.getElem?_eq_some_iff.1 hx).1
        simp at this
        omega
      subst h0
      simp only [Nat.sub_self, List.getElem?_cons_zero, Option.some.injEq] at hx
      subst hx
      rw [hl]
      exact hy

section
variable {H : Type} {enc : TypeId × Value → H} {W : World}

/-- A slice whose elements can be opened. -/
theorem open_slice_el {X : Type} {E T : TypeId} {sz bytes : Nat} (cellsX : X → List Value) (InX : X → Prop) (ht : Tryz.prog.underlying T = some (.slice E)) (hc : Tryz.prog.cellsOf E = sz) (hb : Tryz.prog.bytesOf E = bytes)
    (hel : ∀ (fuel : Nat) (cs : List Value) (x : DataW H × List MemPlace), DataW.trod enc Tryz.prog W 0 (fun _ => true) true fuel E cs = some x → (∀ n ∈ x.1.weights Tryz.prog E, n ≤ reachBytes) → ∃ y : X, cs = cellsX y ∧ InX y)
    {fuel : Nat} {cs : List Value} {x : DataW H × List MemPlace} (h : DataW.trod enc Tryz.prog W 0 (fun _ => true) true fuel T cs = some x) (hw : ∀ n ∈ x.1.weights Tryz.prog T, n ≤ reachBytes) :
    cs = [.slice none 0 0] ∨ ∃ (a : Addr) (cap : Nat) (l : List X), cs = [.slice (some a) l.length cap] ∧ l.length ≤ cap ∧ cap ≤ 9223372036854775807 ∧ cap * bytes ≤ 140737488351232 ∧
      ∀ i y, l[i]? = some y → W.cells? 0 (a.add (i * sz)) sz = some (cellsX y) ∧ InX y := by
  rcases DataW.trod_slice ht h with ⟨hcs, _⟩ | ⟨a, len, cap, elems, rest, n', hm, hcs, hx, _, hlc, hcm, hle, hel', hre, _⟩
  · exact .inl hcs
  · right
    subst hx
    subst hm
    have hrl := (hre rfl).1
    simp only [DataW.weights, ht, List.length_map, List.mem_cons, List.mem_append, hb] at hw
    have hcap : cap * bytes ≤ 140737488351232 := by
      have h9 := hw ((elems.length + rest.length) * bytes) (.inl rfl)
      rw [reach_eq, hle, hrl] at h9
      have : len + (cap - len) = cap := by omega
      rwa [this] at h9
    have hall : ∀ i, i < len → ∃ y : X, W.cells? 0 (a.add (i * sz)) sz = some (cellsX y) ∧ InX y := by
      intro i hi
      have h9 := hel' i hi
      have hi' : i < elems.length := by omega
      rw [hc, List.getElem?_eq_getElem hi', Option.bind_eq_some_iff] at h9
      obtain ⟨cs', h10, h11⟩ := h9
      obtain ⟨y, hy, hin⟩ := hel n' cs' _ h11 fun q hq => hw q (.inr (.inl (weightsAll_mem (List.mem_map.2 ⟨_, List.getElem_mem hi', rfl⟩) hq)))
      exact ⟨y, by rw [h10, hy], hin⟩
    obtain ⟨l, hll, hlp⟩ := list_of_any hall
    simp only [maxLen] at hcm
    exact ⟨a, cap, l, by rw [hcs, hll], by omega, by omega, hcap, hlp⟩

end
end Go.Proofs.YtjdoflfdlhpbmaaGreat

namespace Go.Proofs.YtjdoflfdlhpbmaaGreat
open Go.RowKit

abbrev Str := List UInt8
def sOverflow : Str := [111, 118, 101, 114, 102, 108, 111, 119]
/-- A number that fits, or a name of what went wrong. -/
inductive Num where
  | ok (n : Int)
  | bad (s : Str)

def In64 (n : Int) : Prop := -9223372036854775808 ≤ n ∧ n ≤ 9223372036854775807
instance (n : Int) : Decidable (In64 n) := inferInstanceAs (Decidable (_ ∧ _))

def ov (n : Int) : Num := if In64 n then .ok n else .bad sOverflow

/-- An atom's value. -/
def atomTm (s : ByteArray) : Tm := .mk 3 0 s none 0 []
def atomT (s : Str) : T := .mk 3 0 s []
theorem atomTm_erase (s : ByteArray) : (atomTm s).erase = atomT s.toList := by simp [atomTm, atomT, Tm.erase, Tm.eraseL]
theorem atomTm_in {s : ByteArray} (h : s.size ≤ 140737488351232) (w : World) : (atomTm s).In w := by
  rw [atomTm, Tm.In, Tm.InL]
  exact ⟨⟨by omega, by omega⟩, ⟨by omega, by omega⟩, h, Nat.le_refl _, ⟨by simp, by omega⟩, .inl rfl, trivial⟩

end Go.Proofs.YtjdoflfdlhpbmaaGreat

namespace Go.Proofs.YtjdoflfdlhpbmaaGreat
open Go.RowKit

theorem Gr.fz {w w' : World} (h : Gr w w') {p : Addr} {v : Value} (hc : w.cell? p = some v) (hf : w.frozen? p = false) : w'.frozen? p = false := by
  rw [Below.frozen h (World.block_lt_of_cell? _ _ hc)]; exact hf

section
variable {P : Program} {ops : List Oper} {Vs : List VP} {a₀ : Act} {w₀ : World} {Q : Exit → Act → World → Prop}
theorem mid_fin (hB : relyB ops a₀.tmps.size = true) {K : Act → World → Prop} {listed : Array Bool} {a : Act} {w : World} (hmid : Mid ops Vs a₀ w₀ listed a w) (hall : ∀ i, i < ops.length → listed.getD i false = true)
    (hfin : finAll K w ops Vs a₀) : K a w := by
  obtain ⟨hn, hlt, _, _⟩ := relyB_spec hB
  have hf := finAll_elim (os := ops) (Vs' := Vs) (b := a₀) (f := fun i => match dstAt ops i with | some d => a.tmps.getD d undef | none => Classical.epsilon fun v => (Vs.getD i (fun _ _ => True)) v w) (k := 0) (K := K) (w := w) ?_ hfin
  · have e : (ops.zipIdx 0 |>.foldl (fun a' x => a'.put x.1.dst (match dstAt ops x.2 with | some d => a.tmps.getD d undef | none => Classical.epsilon fun v => (Vs.getD x.2 (fun _ _ => True)) v w)) a₀) = a := by
      have hT : (ops.zipIdx 0 |>.foldl (fun a' x => a'.put x.1.dst (match dstAt ops x.2 with | some d => a.tmps.getD d undef | none => Classical.epsilon fun v => (Vs.getD x.2 (fun _ _ => True)) v w)) a₀).tmps = a.tmps := by
        apply Array.ext_getElem?
        intro t
        obtain ⟨h1, h2⟩ := fold_tmps (f := fun i => match dstAt ops i with | some d => a.tmps.getD d undef | none => Classical.epsilon fun v => (Vs.getD i (fun _ _ => True)) v w) (os := ops) (b := a₀) (k := 0) t hn hlt
        by_cases hex : ∃ (i : Nat) (o : Oper), ops[i]? = some o ∧ o.dst = some t
        · obtain ⟨i, o, hi, hd⟩ := hex
          rw [h1 i o hi hd]
          have hts : t < a.tmps.size := by rw [hmid.size]; exact hlt t (mem_dsts hi hd)
          simp [dstAt, hi, hd, hts]
        · rw [h2 (fun i o hi hd => hex ⟨i, o, hi, hd⟩)]
          exact (hmid.old t (fun i o hi hd => (hex ⟨i, o, hi, hd⟩).elim)).symm
      have hD := fold_defers (f := fun i => match dstAt ops i with | some d => a.tmps.getD d undef | none => Classical.epsilon fun v => (Vs.getD i (fun _ _ => True)) v w) (os := ops) (b := a₀) (k := 0)
      generalize (ops.zipIdx 0 |>.foldl (fun a' x => a'.put x.1.dst (match dstAt ops x.2 with | some d => a.tmps.getD d undef | none => Classical.epsilon fun v => (Vs.getD x.2 (fun _ _ => True)) v w)) a₀) = c at hT hD
      obtain ⟨ct, cd⟩ := c
      obtain ⟨at', ad⟩ := a
      have hd := hmid.defers
      simp only at hT hD hd
      rw [hT, hD, hd]
    rw [e] at hf
    exact hf
  · intro i o hi V hV
    have hlen : i < ops.length := (List.getElem?_eq_some_iff.1 hi).1
    have eV : Vs.getD i (fun _ _ => True) = V := by simp [List.getD, hV]
    simp only [Nat.zero_add, dstAt, hi, Option.bind_some]
    cases hd : o.dst with
    | some d =>
      have := hmid.val i o d hi hd (hall i hlen)
      rwa [eV] at this
    | none =>
      have := hmid.bare i o hi hd (hall i hlen)
      rw [eV] at this ⊢
      exact Classical.epsilon_spec this

theorem mid_start (ops : List Oper) (Vs : List VP) (a₀ : Act) (w₀ : World) : Mid ops Vs a₀ w₀ (Array.replicate ops.length false) a₀ { w₀ with drawn := w₀.drawn + 1 } := by
  refine ⟨by simp, ⟨rfl, rfl, rfl, Nat.le_refl _, fun _ _ => rfl⟩, rfl, rfl, fun _ _ => rfl, fun i o d hi hd hl => ?_, fun i o hi hd hl => ?_⟩
  all_goals
    have : i < ops.length := (List.getElem?_eq_some_iff.1 hi).1
    simp [this] at hl

end

/-! ### A region whose last operations wait for all that stand before them -/

/-- What an operation waits for, near and far. -/
def anc (ops : List Oper) : Nat → Nat → List Nat
  | 0, _ => []
  | n + 1, j => match ops[j]? with
    | none => []
    | some o => o.after.toList.flatMap fun e => if Region.binds .any e then e.on :: anc ops n e.on else []

/-- What is asked of the text: 'm' operations first, then those that wait for all before them. -/
def tailB (ops : List Oper) (m n : Nat) : Bool :=
  relyB (ops.take m) n &&
  (ops.zipIdx.all fun (o, i) => o.after.all fun e => !Region.binds .any e || decide (e.on < i)) &&
  (ops.zipIdx.all fun (o, i) => match o.guard with | none => true | some (j, _) => decide (j < i)) &&
  (List.range ops.length).all fun j => decide (j < m) || (List.range j).all fun i => (anc ops (j + 1) j).contains i

section
variable {P : Program} {ops : List Oper} {Vs : List VP} {a₀ : Act} {w₀ : World} {Q : Exit → Act → World → Prop} {m : Nat}

/-- Whatever is listed, what it waits for is listed. -/
def Shut (ops : List Oper) (listed : Array Bool) : Prop := ∀ i o, ops[i]? = some o → listed.getD i false = true → ∀ e ∈ o.after, Region.binds .any e = true → listed.getD e.on false = true

theorem shut_set {listed : Array Bool} {i : Nat} {o : Oper} (h : Shut ops listed) (hi : ops[i]? = some o) (hall : ∀ e ∈ o.after, Region.binds .any e = true → listed.getD e.on false = true) : Shut ops (listed.setIfInBounds i true) := by
  intro j oj hj hl e he hb
  by_cases hji : i = j
  · subst hji
    rw [hi] at hj
    cases hj
    exact getD_set_true (hall e he hb)
  · rw [getD_set_ne false hji] at hl
    exact getD_set_true (h j oj hj hl e he hb)

theorem anc_listed {listed : Array Bool} (hs : Shut ops listed) : ∀ (n j : Nat) (o : Oper), ops[j]? = some o → (∀ e ∈ o.after, Region.binds .any e = true → listed.getD e.on false = true) → ∀ i ∈ anc ops n j, listed.getD i false = true
  | 0, _, _, _, _, i, hi => by simp [anc] at hi
  | n + 1, j, o, hj, hall, i, hi => by
    rw [anc] at hi
    simp only [hj, List.mem_flatMap] at hi
    obtain ⟨e, he, hie⟩ := hi
    have he' : e ∈ o.after := by simpa using he
    split at hie
    · rename_i hb
      have hl := hall e he' hb
      rcases List.mem_cons.1 hie with rfl | hie
      · exact hl
      · cases hoe : ops[e.on]? with
        | none =>
          cases n with
          | zero => simp [anc] at hie
          | succ n => rw [anc] at hie; simp [hoe] at hie
        | some oe => exact anc_listed hs n e.on oe hoe (fun e' he'' hb' => hs e.on oe hoe hl e' he'' hb') i hie
    · simp at hie

theorem tailB_spec {n : Nat} (h : tailB ops m n = true) : relyB (ops.take m) n = true ∧ (∀ i o, ops[i]? = some o → ∀ e ∈ o.after, Region.binds .any e = true → e.on < i) ∧
    (∀ j, j < ops.length → m ≤ j → ∀ i, i < j → i ∈ anc ops (j + 1) j) ∧ (∀ (i : Nat) (o : Oper) (j : Nat) (want : Bool), ops[i]? = some o → o.guard = some (j, want) → j < i) := by
  simp only [tailB, Bool.and_eq_true, List.all_eq_true, List.mem_range, Bool.or_eq_true, decide_eq_true_eq] at h
  obtain ⟨⟨⟨h1, h2⟩, h4⟩, h3⟩ := h
  refine ⟨h1, fun i o hi e he hb => ?_, fun j hj hm i hi => ?_, fun i o j want hi hg => ?_⟩
  · have h5 := h2 (o, i) (by rw [List.mem_zipIdx_iff_getElem?]; exact hi)
    have h6 := Array.all_eq_true_iff_forall_mem.1 h5 e he
    simpa [hb] using h6
  · rcases h3 j hj with h5 | h5
    · omega
    · simpa using h5 i hi
  · have h5 := h4 (o, i) (by rw [List.mem_zipIdx_iff_getElem?]; exact hi)
    simpa [hg] using h5

theorem wpAny_tail (hB : tailB ops m a₀.tmps.size = true) : ∀ (l : List Oper) (k fuel : Nat) (listed : Array Bool) (a : Act) (w : World), m ≤ k → (∀ j, l[j]? = ops[k + j]?) → l.length ≤ fuel → listed.size = ops.length → Shut ops listed →
    (∀ i, i < k → i < ops.length → listed.getD i false = true) → (∀ i, k ≤ i → i < ops.length → listed.getD i true = false) → wpList P ops.toArray Q l a w → wpAny P .any ops.toArray Q fuel listed a w := by
  obtain ⟨_, hlt, hanc, _⟩ := tailB_spec hB
  intro l
  induction l with
  | nil =>
    intro k fuel listed a w hk hl _ hs hshut h1 h2 h
    have hlen : ops.length ≤ k := by
      have := (hl 0).symm
      simp only [List.getElem?_nil, Nat.add_zero] at this
      exact List.getElem?_eq_none_iff.1 this
    have hr : Region.ready .any ops.toArray listed = [] := by
      rw [List.eq_nil_iff_forall_not_mem]
      intro i hi
      obtain ⟨h0, o, ho, _⟩ := mem_ready.1 hi
      have hi' : i < ops.length := by
        have : ops[i]? = some o := by simpa using ho
        exact (List.getElem?_eq_some_iff.1 this).1
      have h5 := h1 i (by omega) hi'
      have : i < listed.size := by omega
      simp [this] at h0 h5
      rw [h0] at h5
      cases h5
    cases fuel with
    | zero => exact ⟨hr, h⟩
    | succ fuel => exact ⟨fun _ => h, fun i hi => by rw [hr] at hi; cases hi⟩
  | cons o l ih =>
    intro k fuel listed a w hk hl hf hs hshut h1 h2 h
    have hok : ops[k]? = some o := by simpa using (hl 0).symm
    have hklt : k < ops.length := (List.getElem?_eq_some_iff.1 hok).1
    obtain ⟨fuel, rfl⟩ : ∃ f, fuel = f + 1 := ⟨fuel - 1, by simp only [List.length_cons] at hf; omega⟩
    have hready : k ∈ Region.ready .any ops.toArray listed := by
      rw [mem_ready]
      exact ⟨h2 k (Nat.le_refl _) hklt, o, by simpa using hok, fun e he hb => h1 e.on (hlt k o hok e he hb) (Nat.lt_trans (hlt k o hok e he hb) hklt)⟩
    refine ⟨fun hr => (by rw [hr] at hready; cases hready), fun i hi => ?_⟩
    obtain ⟨h0, oi, hoi, hall⟩ := mem_ready.1 hi
    have hoi' : ops[i]? = some oi := by simpa using hoi
    have hilt : i < ops.length := (List.getElem?_eq_some_iff.1 hoi').1
    have hik : i = k := by
      rcases Nat.lt_trichotomy i k with h5 | h5 | h5
      · have h6 := h1 i h5 hilt
        have : i < listed.size := by omega
        simp [this] at h0 h6
        rw [h0] at h6
        cases h6
      · exact h5
      · have h6 := anc_listed hshut (i + 1) i oi hoi' hall k (hanc i hilt (by omega) k h5)
        have h7 := h2 k (Nat.le_refl _) hklt
        have : k < listed.size := by omega
        simp [this] at h6 h7
        rw [h6] at h7
        cases h7
    subst hik
    have hstep : ∀ a' w', wpList P ops.toArray Q l a' w' → wpAny P .any ops.toArray Q fuel (listed.setIfInBounds i true) a' w' := fun a' w' h' =>
      ih (i + 1) fuel _ a' w' (by omega) (fun j => by have := hl (j + 1); simpa [Nat.add_assoc, Nat.add_comm 1 j] using this) (by simp only [List.length_cons] at hf; omega) (by simpa using hs) (shut_set hshut hoi' hall)
        (fun j hj hj' => by
          by_cases e : i = j
          · subst e
            have : i < listed.size := by omega
            simp [this]
          · rw [getD_set_ne false e]; exact h1 j (by omega) hj')
        (fun j hj hj' => by rw [getD_set_ne true (by omega)]; exact h2 j (by omega) hj') h'
    unfold wpOp
    simp only [hoi]
    have he : oi = o := by rw [hok] at hoi'; exact (Option.some.inj hoi').symm
    subst he
    unfold wpList at h
    split
    · rename_i hw
      rw [if_pos hw] at h
      exact h.imp (Oper.wp_mono hstep) id
    · rename_i hw
      rw [if_neg hw] at h
      exact hstep _ _ h

theorem wpAny_mid_tail (hB : tailB ops m a₀.tmps.size = true) (hm : m ≤ ops.length) (hst : Stable Vs) (hsteps : stepsFrom P (ops.take m) Vs a₀ w₀ Q (ops.take m) Vs)
    (hfin : ∀ listed a w, Mid (ops.take m) Vs a₀ w₀ listed a w → (∀ i, i < (ops.take m).length → listed.getD i false = true) → wpList P ops.toArray Q (ops.drop m) a w) :
    ∀ (fuel : Nat) (listed : Array Bool) (a : Act) (w : World), listed.size = ops.length → listed.count false ≤ fuel → Shut ops listed → (∀ i, m ≤ i → i < ops.length → listed.getD i true = false) →
      Mid (ops.take m) Vs a₀ w₀ (listed.extract 0 m) a w → wpAny P .any ops.toArray Q fuel listed a w := by
  obtain ⟨hR, hlt, hanc, hgrd⟩ := tailB_spec hB
  have hlen : (ops.take m).length = m := by rw [List.length_take]; omega
  have hext : ∀ (listed : Array Bool) (i : Nat), i < m → ∀ d, (listed.extract 0 m).getD i d = listed.getD i d := by
    intro listed i hi d
    simp only [Array.getD_eq_getD_getElem?, Array.getElem?_extract]
    by_cases h : i < listed.size
    · rw [if_pos (by omega)]; simp
    · rw [if_neg (by omega)]; simp [Array.getElem?_eq_none (Nat.le_of_not_lt h)]
  have hexts : ∀ (listed : Array Bool) (i : Nat), i < m → (listed.setIfInBounds i true).extract 0 m = (listed.extract 0 m).setIfInBounds i true := by
    intro listed i hi
    apply Array.ext_getElem?
    intro j
    simp only [Array.getElem?_extract, Array.getElem?_setIfInBounds, Array.size_setIfInBounds, Array.size_extract, Nat.sub_zero, Nat.zero_add]
    by_cases hj : j < m ∧ j < listed.size
    · by_cases e : i = j
      · subst e
        simp [hj]
      · have : j < min m listed.size := by omega
        simp [this, e]
    · have : ¬ j < min m listed.size := by omega
      by_cases e : i = j
      · subst e
        simp [this]
      · simp [this, e]
  intro fuel
  induction fuel with
  | zero =>
    intro listed a w hs hc hshut hno hmid
    by_cases hall : ∀ i, i < m → listed.getD i false = true
    · exact wpAny_tail hB (ops.drop m) m 0 listed a w (Nat.le_refl _) (fun j => by rw [List.getElem?_drop]) (by
        have hz : (ops.drop m).length = 0 := by
          rw [List.length_drop]
          rcases Nat.lt_or_ge m ops.length with h | h
          · have h5 := hno m (Nat.le_refl _) h
            have := count_set h5
            omega
          · omega
        omega) hs hshut (fun i hi _ => hall i hi) hno (hfin _ a w hmid (fun i hi => by rw [hext listed i (by omega)]; exact hall i (by omega)))
    · exfalso
      apply hall
      intro i hi
      have hi' : i < listed.size := by omega
      by_cases h : listed.getD i false = true
      · exact h
      · have h5 : listed.getD i true = false := by simpa [hi'] using h
        have := count_set h5
        omega
  | succ fuel ih =>
    intro listed a w hs hc hshut hno hmid
    by_cases hall : ∀ i, i < m → listed.getD i false = true
    · have hcount : (ops.drop m).length ≤ fuel + 1 := by
        have h5 : ops.length - m ≤ listed.count false := by
          have h6 : (listed.extract m listed.size).count false ≤ listed.count false := by
            rw [← Array.count_toList, ← Array.count_toList, Array.toList_extract]
            exact List.Sublist.count_le _ (List.Sublist.trans (List.take_sublist _ _) (List.drop_sublist _ _))
          have h7 : (listed.extract m listed.size).count false = (listed.extract m listed.size).size := by
            rw [Array.count_eq_size]
            intro b hb
            obtain ⟨j, hj, rfl⟩ := Array.getElem_of_mem hb
            simp only [Array.size_extract] at hj
            have h8 := hno (m + j) (by omega) (by omega)
            have h9 : m + j < listed.size := by omega
            simp only [Array.getElem_extract]
            simpa [h9] using h8.symm
          rw [h7, Array.size_extract] at h6
          omega
        rw [List.length_drop]
        omega
      exact wpAny_tail hB (ops.drop m) m (fuel + 1) listed a w (Nat.le_refl _) (fun j => by rw [List.getElem?_drop]) hcount hs hshut (fun i hi _ => hall i hi) hno
        (hfin _ a w hmid (fun i hi => by rw [hext listed i (by omega)]; exact hall i (by omega)))
    · have hpre : ∀ i ∈ Region.ready .any ops.toArray listed, i < m := by
        intro i hi
        rcases Nat.lt_or_ge i m with h | h
        · exact h
        · exfalso
          obtain ⟨h0, o, ho, hal⟩ := mem_ready.1 hi
          have ho' : ops[i]? = some o := by simpa using ho
          have hil := (List.getElem?_eq_some_iff.1 ho').1
          exact hall fun j hj => anc_listed hshut (i + 1) i o ho' hal j (hanc i hil h j (by omega))
      refine ⟨fun hr => ?_, fun i hi => ?_⟩
      · exfalso
        apply hall
        intro i
        induction i using Nat.strongRecOn with
        | _ i ihi =>
          intro hi
          by_cases h : listed.getD i false = true
          · exact h
          · have hi' : i < listed.size := by omega
            have hmem : i ∈ Region.ready .any ops.toArray listed := by
              rw [mem_ready]
              refine ⟨by simpa [hi'] using h, ops[i], by simp [show i < ops.length by omega], fun e he hb => ?_⟩
              have := hlt i ops[i] (by simp) e he hb
              exact ihi e.on this (by omega)
            rw [hr] at hmem
            cases hmem
      · have him := hpre i hi
        obtain ⟨h0, o, ho, hal⟩ := mem_ready.1 hi
        have ho' : ops[i]? = some o := by simpa using ho
        have hot : (ops.take m)[i]? = some o := by rw [List.getElem?_take, if_pos him]; exact ho'
        have hstep := stepsFrom_at hsteps hot a w hmid.grown (fun t ht => by
          have h1 := hmid.old t (fun j oj hj hd => by
            have := mem_dsts hj hd
            rw [List.contains_eq_mem, decide_eq_false_iff_not] at ht
            exact absurd this ht)
          simp only [h1])
        have hres := predsImp_elim (fun e he hb d hd => by
          unfold dstAt at hd
          cases hoe : (ops.take m)[e.on]? with
          | none => simp [hoe] at hd
          | some oe =>
            simp only [hoe, Option.bind_some] at hd
            have hem : e.on < m := by
              have := (List.getElem?_eq_some_iff.1 hoe).1
              omega
            have := hmid.val e.on oe d hoe hd (by rw [hext listed e.on hem]; exact hal e (by simpa using he) hb)
            rwa [Array.getD_eq_getD_getElem?] at this) hstep
        have hc' := count_set h0
        have hwant : wantedE (ops.take m) o a = wantedE ops o a := by
          unfold wantedE
          cases hg : o.guard with
          | none => rfl
          | some gw =>
            obtain ⟨j, want⟩ := gw
            have hj := hgrd i o j want ho' hg
            have : dstAt (ops.take m) j = dstAt ops j := by unfold dstAt; rw [List.getElem?_take, if_pos (by omega)]
            simp only [this]
        have hres : if wantedE ops o a then (∀ K : Act → World → Prop, (∀ v w', (Vs.getD i (fun _ _ => True)) v w' → Gr w w' → K (a.put o.dst v) w') → o.wp P a w K Q) else (Vs.getD i (fun _ _ => True)) undef w := by
          rw [← hwant]
          cases hgd : o.guard with
          | none =>
            have : wantedE (ops.take m) o a = true := by simp [wantedE, hgd]
            rw [if_pos this]
            simpa only [hgd] using hres
          | some gw => simpa only [hgd] using hres
        have hnext : ∀ v w', (Vs.getD i (fun _ _ => True)) v w' → Gr w w' → wpAny P .any ops.toArray Q fuel (listed.setIfInBounds i true) (a.put o.dst v) w' := fun v w' hv hg =>
          ih _ _ _ (by simpa using hs) (by omega) (shut_set hshut ho' hal) (fun j hj hj' => by rw [getD_set_ne true (by omega : i ≠ j)]; exact hno j hj hj')
            (by rw [hexts listed i him]; exact mid_step hR hst hmid hot rfl hv hg)
        unfold wpOp
        simp only [ho]
        rw [wantedE_eq]
        by_cases hw : wantedE ops o a = true
        · rw [if_pos hw]
          rw [if_pos hw] at hres
          exact .inl (hres _ fun v w' hv hg => hnext v w' hv hg)
        · rw [if_neg hw]
          rw [if_neg hw] at hres
          exact hnext _ _ hres (Gr.rfl' _)

/-- THE RULE, WITH A TAIL: the first m operations in whatever order; those behind them, each of which waits for all before it, one after the other. -/
theorem wp_region_rely_tail {id : Nat} (m : Nat) (Vs : List VP) (hm : P.follows .mixedOrders = true) (hB : tailB ops m a₀.tmps.size = true) (hml : m ≤ ops.length) (hst : Stable Vs)
    (hsteps : stepsFrom P (ops.take m) Vs a₀ w₀ Q (ops.take m) Vs) (hfin : ∀ w, Gr w₀ w → finAll (fun a w => wpList P ops.toArray Q (ops.drop m) a w) w (ops.take m) Vs a₀) : (Code.region id ops.toArray true).wp P Q a₀ w₀ := by
  refine wp_region_any hm ?_
  have hlen : (ops.take m).length = m := by rw [List.length_take]; omega
  have he : (Array.replicate ops.length false).extract 0 m = Array.replicate (ops.take m).length false := by
    apply Array.ext_getElem?
    intro i
    simp only [Array.getElem?_extract, Array.size_replicate, Array.getElem?_replicate, Nat.zero_add, Nat.sub_zero, hlen]
    by_cases h : i < m
    · simp [h, show i < min m ops.length by omega, show i < ops.length by omega]
    · simp [h, show ¬ i < min m ops.length by omega]
  have := wpAny_mid_tail (Q := Q) hB hml hst hsteps (fun listed a w hmid hall => mid_fin (tailB_spec hB).1 hmid hall (hfin w hmid.grown)) ops.length (Array.replicate ops.length false) a₀ { w₀ with drawn := w₀.drawn + 1 } (by simp) (by simp)
    (fun i o hi hl => by
      have : i < ops.length := (List.getElem?_eq_some_iff.1 hi).1
      simp [this] at hl)
    (fun i _ hi => by simp [hi]) (by rw [he]; exact mid_start _ _ _ _)
  simpa using this
end
end Go.Proofs.YtjdoflfdlhpbmaaGreat

namespace Go.Proofs.YtjdoflfdlhpbmaaGreat
open Go.RowKit

namespace Tm
mutual
/-- The blocks that the term's arguments lie on are all such. -/
def On (S : Nat → Prop) : Tm → Prop
  | .mk _ _ _ p _ l => (l = [] ∨ ∃ b o, p = some ⟨b, o, none⟩ ∧ S b) ∧ OnL S l
def OnL (S : Nat → Prop) : List Tm → Prop
  | [] => True
  | x :: xs => On S x ∧ OnL S xs
end

theorem OnL_mem {S : Nat → Prop} : ∀ {l : List Tm}, OnL S l → ∀ x ∈ l, On S x
  | _ :: _, h, x, hx => by
    rw [OnL] at h
    rcases List.mem_cons.1 hx with rfl | hx
    · exact h.1
    · exact OnL_mem h.2 x hx

theorem OnL_of {S : Nat → Prop} : ∀ {l : List Tm}, (∀ x ∈ l, On S x) → OnL S l
  | [], _ => by rw [OnL]; trivial
  | x :: xs, h => by
    rw [OnL]
    exact ⟨h x (List.mem_cons_self ..), OnL_of fun y hy => h y (List.mem_cons_of_mem _ hy)⟩

mutual
theorem On.mono {S S' : Nat → Prop} (hS : ∀ b, S b → S' b) : ∀ {t : Tm}, On S t → On S' t
  | .mk _ _ _ _ _ l, h => by
    rw [On] at h ⊢
    exact ⟨h.1.imp id fun ⟨b, o, h1, h2⟩ => ⟨b, o, h1, hS b h2⟩, OnL.mono hS h.2⟩
theorem OnL.mono {S S' : Nat → Prop} (hS : ∀ b, S b → S' b) : ∀ {l : List Tm}, OnL S l → OnL S' l
  | [], _ => by rw [OnL]; trivial
  | _ :: _, h => by
    rw [OnL] at h ⊢
    exact ⟨On.mono hS h.1, OnL.mono hS h.2⟩
end

mutual
theorem In.on {w : World} : ∀ {t : Tm}, In w t → On (· < w.heap.size) t
  | .mk _ _ _ _ _ l, h => by
    rw [In] at h
    rw [On]
    refine ⟨?_, InL.on h.2.2.2.2.2.2⟩
    rcases h.2.2.2.2.2.1 with h1 | ⟨b, o, h1, h2⟩
    · exact .inl h1
    · by_cases hl : l = []
      · exact .inl hl
      · exact .inr ⟨b, o, h1, row_lt h2 hl⟩
theorem InL.on {w : World} : ∀ {l : List Tm}, InL w l → OnL (· < w.heap.size) l
  | [], _ => by rw [OnL]; trivial
  | _ :: _, h => by
    rw [InL] at h
    rw [OnL]
    exact ⟨In.on h.1, InL.on h.2⟩
end

mutual
/-- A term lies in every world that is the same on its blocks. -/
theorem In.same {S : Nat → Prop} {w w' : World} (hs : ∀ b, S b → ∀ o, w'.cell? ⟨b, o, none⟩ = w.cell? ⟨b, o, none⟩) : ∀ {t : Tm}, In w t → On S t → In w' t
  | .mk k n s p c l, h, hO => by
    rw [In] at h ⊢
    rw [On] at hO
    obtain ⟨h1, h2, h3, h4, h5, h6, h7⟩ := h
    refine ⟨h1, h2, h3, h4, h5, ?_, InL.same hs h7 hO.2⟩
    rcases h6 with h6 | ⟨b, o, hp, hr⟩
    · exact .inl h6
    · rcases hO.1 with h8 | ⟨b', o', hp', hS⟩
      · exact .inl h8
      · rw [hp] at hp'
        cases hp'
        exact .inr ⟨b, o, hp, row_mono hr (hs b hS)⟩
theorem InL.same {S : Nat → Prop} {w w' : World} (hs : ∀ b, S b → ∀ o, w'.cell? ⟨b, o, none⟩ = w.cell? ⟨b, o, none⟩) : ∀ {l : List Tm}, InL w l → OnL S l → InL w' l
  | [], _, _ => by rw [InL]; trivial
  | _ :: _, h, hO => by
    rw [InL] at h ⊢
    rw [OnL] at hO
    exact ⟨In.same hs h.1 hO.1, InL.same hs h.2 hO.2⟩
end

/-- A slice of terms on such blocks. -/
def SlOn (S : Nat → Prop) (p : Option Addr) (l : List Tm) : Prop := (l = [] ∨ ∃ b o, p = some ⟨b, o, none⟩ ∧ S b) ∧ OnL S l

theorem SlOn.mono {S S' : Nat → Prop} {p : Option Addr} {l : List Tm} (hS : ∀ b, S b → S' b) (h : SlOn S p l) : SlOn S' p l :=
  ⟨h.1.imp id fun ⟨b, o, h1, h2⟩ => ⟨b, o, h1, hS b h2⟩, OnL.mono hS h.2⟩

theorem Sl.on {w : World} {p : Option Addr} {c : Nat} {l : List Tm} (h : Sl w p c l) : SlOn (· < w.heap.size) p l := by
  refine ⟨?_, InL.on h.2.2.2⟩
  rcases h.2.2.1 with h1 | ⟨b, o, h1, h2⟩
  · exact .inl h1
  · by_cases hl : l = []
    · exact .inl hl
    · exact .inr ⟨b, o, h1, row_lt h2 hl⟩

theorem Sl.same {S : Nat → Prop} {w w' : World} {p : Option Addr} {c : Nat} {l : List Tm} (hs : ∀ b, S b → ∀ o, w'.cell? ⟨b, o, none⟩ = w.cell? ⟨b, o, none⟩) (h : Sl w p c l) (hO : SlOn S p l) : Sl w' p c l := by
  refine ⟨h.1, h.2.1, ?_, InL.same hs h.2.2.2 hO.2⟩
  rcases h.2.2.1 with h6 | ⟨b, o, hp, hr⟩
  · exact .inl h6
  · rcases hO.1 with h8 | ⟨b', o', hp', hS⟩
    · exact .inl h8
    · rw [hp] at hp'
      cases hp'
      exact .inr ⟨b, o, hp, row_mono hr (hs b hS)⟩
end Tm

theorem cell_set_ne {w : World} {b B o o' : Nat} {v : Value} (h : b ≠ B) : (w.setCell ⟨B, o', none⟩ v).cell? ⟨b, o, none⟩ = w.cell? ⟨b, o, none⟩ :=
  World.cell?_of_block (w := w) (Below.heap_setCell w ⟨B, o', none⟩ v b h)

/-- A term in memory is handed back: it lies on blocks that the call has made, or on such as what came in. -/
def RetTm (S : Nat → Prop) (t : T) (w : World) (e : Ending) (w' : World) : Prop := ∃ b : Tm, b.In w' ∧ b.erase = t ∧ e = .returned b.val ∧ Gr w w' ∧ b.On S

def tmIs (S : Nat → Prop) (t : T) : VP := fun v w => ∃ b : Tm, v = b.val ∧ b.In w ∧ b.erase = t ∧ b.On S
theorem tmIs_stable {S : Nat → Prop} {t : T} : ∀ v w w', tmIs S t v w → Gr w w' → tmIs S t v w' := fun _ _ _ ⟨b, h1, h2, h3, h4⟩ hg => ⟨b, h1, Tm.In_below hg h2, h3, h4⟩
end Go.Proofs.YtjdoflfdlhpbmaaGreat
