/-
  Steps of a store (hornlaw.Step) in memory.
  A store and the document's store side by side (plain).
  The store's Undo: the plain part.
  The store's Resolve.
  The store's Undo: where nothing is undone.
  hornlaw.none
-/
import Derived.Test.YtmecghjnghhhkaaUP01
import Derived.Test.YtmecghjnghhhkaaUO02
import Derived.Test.YtmecghjnghhhkaaUO28
import Derived.Test.YtmecghjnghhhkaaUO04
namespace Go.Proofs.Ytmecghjnghhhkaa
open Go.ChangeShapes Go.WideShapes Go.ChangeAt Go.RowKit Go.Deep

/-- A step with its addresses. -/
structure Stp where
  k : Int
  a : Tm
  b : Tm
  n : Int
def Stp.cells (x : Stp) : List Value := .int .i64 x.k :: (x.a.cells ++ x.b.cells ++ [.int .i64 x.n])
/-- The cells of a step as it is loaded. -/
def Stp.arr (x : Stp) : Array Value := #[.int .i64 x.k, .int .i64 x.a.k, .int .i64 x.a.n, .string x.a.s, .slice x.a.p x.a.l.length x.a.c, .int .i64 x.b.k, .int .i64 x.b.n, .string x.b.s, .slice x.b.p x.b.l.length x.b.c, .int .i64 x.n]
def Stp.In (w : World) (x : Stp) : Prop := x.a.In w ∧ x.b.In w ∧ In64 x.k ∧ In64 x.n

theorem cellsStep : Try.prog.cellsOf 45 = 10 := by kernel_rfl
theorem bytesStep : Try.prog.bytesOf 45 = 128 := by kernel_rfl
theorem cellsIntT : Try.prog.cellsOf 3 = 1 := by kernel_rfl
theorem listP4 {α : Type} {l : List α} (h : l.length = 4) : ∃ a b c d, l = [a, b, c, d] := by
  match l, h with
  | [a, b, c, d], _ => exact ⟨a, b, c, d, rfl⟩
theorem listP10 {α : Type} {l : List α} (h : l.length = 10) : ∃ a b c d e f g i j k, l = [a, b, c, d, e, f, g, i, j, k] := by
  match l, h with
  | [a, b, c, d, e, f, g, i, j, k], _ => exact ⟨a, b, c, d, e, f, g, i, j, k, rfl⟩

section
variable {H : Type} {enc : TypeId × Value → H} {W : World}

set_option maxRecDepth 100000 in
theorem open_step (fuel : Nat) (cs : List Value) (x : DataW H × List MemPlace) (h : DataW.trod enc Try.prog W 0 (fun _ => true) true fuel 45 cs = some x)
    (hw : ∀ n ∈ x.1.weights Try.prog 45, n ≤ reachBytes) : ∃ y : Stp, cs = y.cells ∧ y.In W := by
  obtain ⟨xs, m, rfl, rfl, hl, hlen, hf⟩ := DataW.trod_struct Try.underlying45 h
  rw [cellsStep] at hl
  obtain ⟨y0, y1, y2, y3, rfl⟩ := listP4 hlen
  obtain ⟨v0, v1, v2, v3, v4, v5, v6, v7, v8, v9, rfl⟩ := listP10 hl
  have g0 := hf 0 _ rfl
  have g1 := hf 1 _ rfl
  have g2 := hf 2 _ rfl
  have g3 := hf 3 _ rfl
  simp [cellsTerm, cellsIntT] at g0 g1 g2 g3
  obtain ⟨k, hk, rfl, wk⟩ := DataW.trod_int Try.underlying3 g0
  simp only [List.cons.injEq, and_true] at hk
  subst hk
  obtain ⟨n, hn, rfl, wn⟩ := DataW.trod_int Try.underlying3 g3
  simp only [List.cons.injEq, and_true] at hn
  subst hn
  simp only [List.map_cons, List.map_nil, DataW.weights, Try.underlying45, DataW.weightsEach, List.append_nil, List.nil_append, List.mem_append] at hw
  obtain ⟨t0, e0, i0⟩ := open_term m _ _ g1 fun n hn => hw n (.inl hn)
  obtain ⟨t1, e1, i1⟩ := open_term m _ _ g2 fun n hn => hw n (.inr hn)
  refine ⟨⟨k, t0, t1, n⟩, ?_, i0, i1, bounds64 wk, bounds64 wn⟩
  rw [Stp.cells, ← e0, ← e1]
  rfl

set_option maxRecDepth 100000 in
/-- An argument of type []hornlaw.Step. -/
theorem open_steps_arg {r : Reach} {b0 : Nat} {v : Value} {d : DataW H} {p : List MemPlace} (hv : Value.okWide Try.prog W r b0 36 v)
    (h : DataW.Trod enc Try.prog W 0 (fun _ => true) true 36 v d p) (hw : ∀ n ∈ d.weights Try.prog 36, n ≤ reachBytes) :
    ∃ (p : Option Addr) (c : Nat) (l : List Stp), v = .slice p l.length c ∧ SlOf Stp.cells (Stp.In W) 10 128 W p c l := by
  obtain ⟨a0, len0, cap0, rfl⟩ := okWide_slice Try.underlying36 hv
  obtain ⟨fuel, hf⟩ := h
  obtain ⟨p, c, l, h1, h2⟩ := open_sl Stp.cells (Stp.In W) Try.underlying36 cellsStep bytesStep (by decide) open_step hf hw
  simp [Value.cells] at h1
  obtain ⟨rfl, rfl, rfl⟩ := h1
  exact ⟨_, _, l, rfl, h2⟩
end

/-- A step of the slice, as it lies. -/
theorem stp_elem {W w : World} {p : Option Addr} {c : Nat} {l : List Stp} (h : SlOf Stp.cells (Stp.In W) 10 128 w p c l) (i : Nat) (hi : i < l.length) :
    ∃ b o, p = some ⟨b, o, none⟩ ∧ l[i].In W ∧ (w.cell? ⟨b, o + i * 10, none⟩ = some (.int .i64 l[i].k) ∧
      (w.cell? ⟨b, o + i * 10 + 1, none⟩ = some (.int .i64 l[i].a.k) ∧ w.cell? ⟨b, o + i * 10 + 2, none⟩ = some (.int .i64 l[i].a.n) ∧ w.cell? ⟨b, o + i * 10 + 3, none⟩ = some (.string l[i].a.s) ∧ w.cell? ⟨b, o + i * 10 + 4, none⟩ = some (.slice l[i].a.p l[i].a.l.length l[i].a.c)) ∧
      (w.cell? ⟨b, o + i * 10 + 5, none⟩ = some (.int .i64 l[i].b.k) ∧ w.cell? ⟨b, o + i * 10 + 6, none⟩ = some (.int .i64 l[i].b.n) ∧ w.cell? ⟨b, o + i * 10 + 7, none⟩ = some (.string l[i].b.s) ∧ w.cell? ⟨b, o + i * 10 + 8, none⟩ = some (.slice l[i].b.p l[i].b.l.length l[i].b.c)) ∧
      w.cell? ⟨b, o + i * 10 + 9, none⟩ = some (.int .i64 l[i].n)) := by
  obtain ⟨b, o, hp, _, hr⟩ := h.ptr (by omega)
  have h1 := hr i l[i] (List.getElem?_eq_getElem hi)
  exact ⟨b, o, hp, h.2.2.2 _ (List.getElem_mem hi), h1 0 _ rfl, ⟨h1 1 _ rfl, h1 2 _ rfl, h1 3 _ rfl, h1 4 _ rfl⟩, ⟨h1 5 _ rfl, h1 6 _ rfl, h1 7 _ rfl, h1 8 _ rfl⟩, h1 9 _ rfl⟩
end Go.Proofs.Ytmecghjnghhhkaa

namespace Go.Proofs.Ytmecghjnghhhkaa
open Go.RowKit Go.Maps Go.Lib

theorem SM.kp {S : Nat → Prop} {B : Nat} {w w' : World} {P M : Nat} {vt vm : Value} {σ : Int → Option T} {tr mk : List Int} (h : SM S B w P M vt vm σ tr mk) {C : Nat → Prop} (k : Kp C w w') (hP : ¬ C P) (hM : ¬ C M) (ht : ∀ b, vt.ownBlock = some b → ¬ C b) (hm : ∀ b, vm.ownBlock = some b → ¬ C b) (hS : ∀ b, S b → ¬ C b) : SM S B w' P M vt vm σ tr mk where
  blk := h.blk.kp k hP
  map := h.map.kp k hM hS
  tro := own_kp h.tro k ht
  mko := own_kp h.mko k hm
  trn := h.trn
  tri := h.tri
  sepS b hb := ⟨Nat.lt_of_lt_of_le (h.sepS b hb).1 k.size, (h.sepS b hb).2⟩
  nPM := h.nPM
  nt := h.nt
  nm := h.nm
  ntm := h.ntm
  bnd := Nat.le_trans h.bnd k.size

/-- All beginnings of the pairs unify, and none is too great. -/
def AllRob (E : List (T × T)) : Prop := ∀ k, k ≤ E.length → ∃ ρ, Rob varT (E.take k) (.done ρ)
theorem AllRob.nil : AllRob [] := fun k _ => ⟨varT, by rw [List.take_nil]; exact Rob.nil _⟩
theorem AllRob.all {E : List (T × T)} (h : AllRob E) : ∃ ρ, Rob varT E (.done ρ) := by
  have := h E.length (Nat.le_refl _)
  rwa [List.take_length] at this
theorem AllRob.snoc {E : List (T × T)} (h : AllRob E) {p : T × T} {ρ : Int → T} (hr : Rob varT (E ++ [p]) (.done ρ)) : AllRob (E ++ [p]) := fun k hk => by
  rw [List.length_append, List.length_singleton] at hk
  by_cases hk2 : k ≤ E.length
  · rw [List.take_append_of_le_length hk2]
    exact h k hk2
  · obtain rfl : k = E.length + 1 := by omega
    refine ⟨ρ, ?_⟩
    rw [List.take_of_length_le (by simp)]
    exact hr
theorem AllRob.take {E : List (T × T)} (h : AllRob E) (n : Nat) : AllRob (E.take n) := fun k hk => by
  rw [List.length_take] at hk
  rw [List.take_take, Nat.min_eq_left (by omega)]
  exact h k (by omega)

/-- What the document makes of a step while there is no more of it than is looked at. -/
def Took (E : List (T × T)) (x : Stp) (E' : List (T × T)) : Prop :=
  if x.k = 0 ∧ x.a.erase.formed = true ∧ x.b.erase.formed = true then (∃ ρ, Rob varT (E ++ [(x.a.erase, x.b.erase)]) (.done ρ) ∧ E' = E ++ [(x.a.erase, x.b.erase)]) ∨ (Rob varT (E ++ [(x.a.erase, x.b.erase)]) .clash ∧ E' = E)
  else if x.k = 1 ∧ 0 ≤ x.n ∧ x.n ≤ E.length then E' = E.take x.n.toNat
  else if x.k = 2 ∧ x.a.erase.formed = true then (∀ ρ, Rob varT E (.done ρ) → ¬ Fat (T.map ρ x.a.erase)) ∧ E' = E
  else E' = E
def Runs : List Stp → List (T × T) → Prop
  | [], _ => True
  | x :: xs, E => ∃ E', Took E x E' ∧ Runs xs E'

theorem seePrs_take_all (l : List Pr) (n : Nat) : seePrs (l.take n) = (seePrs l).take n := by simp [seePrs, List.map_take]
theorem seePrs_length (l : List Pr) : (seePrs l).length = l.length := by simp [seePrs]

/-- The variables that are bound: the trail, sorted, and the list of the solved form. -/
theorem bound_eq {σ : Int → Option T} {ρ : Int → T} (ho : StoreOk σ ρ) {tr : List Int} (hn : tr.Nodup) (ht : ∀ n, n ∈ tr ↔ σ n ≠ none) {s : List Bd} (hs : ListOf ρ s) : s.map Bd.v = tr.mergeSort leI := by
  have h1 := asc_pairwise hs.1
  have hp : (s.map Bd.v).Perm tr := (List.perm_ext_iff_of_nodup (List.pairwise_map.2 (h1.imp fun {a b} h => by omega)) hn).2 fun n => by
    rw [List.mem_map, ht]
    constructor
    · rintro ⟨y, hy, rfl⟩ h2
      have := hs.mem hy
      exact this.2 (this.1.symm.trans (ho.free _ h2))
    · intro h2
      have h3 : ρ n ≠ varT n := fun h => h2 (ho.open_ h)
      obtain ⟨y, hy, h4, _⟩ := (hs.2.1 n (ρ n)).2 ⟨rfl, h3⟩
      exact ⟨y, hy, h4⟩
  have h2 : (s.map Bd.v).mergeSort leI = s.map Bd.v := List.mergeSort_of_pairwise (List.pairwise_map.2 (h1.imp fun {a b} h => by simp only [leI, decide_eq_true_eq]; omega))
  rw [← h2]
  exact mergeSort_of_perm_i hp

/-- Both stores in one world; what comes in lies below B. -/
structure Play (B : Nat) (w : World) (P M Q : Nat) (S : Nat → Prop) (vt vm vq : Value) (σ : Int → Option T) (ρ : Int → T) (tr mk : List Int) (lp : List Pr) : Prop where
  sm : SM S B w P M vt vm σ tr mk
  rs : RS (· < B) w Q vq lp
  hist : Hist (seePrs lp) σ ρ tr mk
  rob : AllRob (seePrs lp)
  low : ∀ b, b < B → S b
  qS : ¬ S Q
  qPM : Q ≠ P ∧ Q ≠ M ∧ vt.ownBlock ≠ some Q ∧ vm.ownBlock ≠ some Q
  vq : ∀ b, vq.ownBlock = some b → b ≠ P ∧ b ≠ M ∧ vt.ownBlock ≠ some b ∧ vm.ownBlock ≠ some b
/-- The blocks that a step may write to. -/
def MutQ (P M Q : Nat) (vt vm : Value) (b : Nat) : Prop := MutA P M vt vm b ∨ b = Q

section
variable {B : Nat} {w w' : World} {P M Q : Nat} {S : Nat → Prop} {vt vm vq : Value} {σ : Int → Option T} {ρ : Int → T} {tr mk : List Int} {lp : List Pr}
theorem Play.ok (h : Play B w P M Q S vt vm vq σ ρ tr mk lp) : StoreOk σ ρ := h.hist.ok
theorem Play.lens (h : Play B w P M Q S vt vm vq σ ρ tr mk lp) : mk.length = lp.length := by
  rw [← seePrs_length lp, h.hist.len]
theorem Play.done (h : Play B w P M Q S vt vm vq σ ρ tr mk lp) : Rob varT (seePrs lp) (.done ρ) := by
  obtain ⟨r, hr⟩ := h.rob.all
  obtain rfl := h.hist.holds.rob (formedP_see h.rs.form) h.ok.canon hr
  exact hr
theorem Play.gr (h : Play B w P M Q S vt vm vq σ ρ tr mk lp) (hg : Gr w w') : Play B w' P M Q S vt vm vq σ ρ tr mk lp :=
  { h with sm := h.sm.gr hg, rs := h.rs.gr hg }
theorem Play.nqA (h : Play B w P M Q S vt vm vq σ ρ tr mk lp) : ¬ MutA P M vt vm Q := fun hm => by
  obtain ⟨h1, h2, h3, h4⟩ := h.qPM
  rcases hm with (hm | hm | hm) | hm
  · exact h1 hm
  · exact h2 hm
  · exact h3 hm
  · exact h4 hm
theorem Play.low_nA (h : Play B w P M Q S vt vm vq σ ρ tr mk lp) : ∀ b, b < B → ¬ MutA P M vt vm b := fun b hb hm => by
  obtain ⟨_, h1, h2, h3, h4⟩ := h.sm.sepS b (h.low b hb)
  rcases hm with (hm | hm | hm) | hm
  · exact h1 hm
  · exact h2 hm
  · exact h3 hm
  · exact h4 hm
/-- The document's store, while the other one goes on. -/
theorem Play.rs_kp (h : Play B w P M Q S vt vm vq σ ρ tr mk lp) (k : Kp (MutA P M vt vm) w w') : RS (· < B) w' Q vq lp :=
  h.rs.kp k h.nqA (fun b hb hm => by
    obtain ⟨h1, h2, h3, h4⟩ := h.vq b hb
    rcases hm with (hm | hm | hm) | hm
    · exact h1 hm
    · exact h2 hm
    · exact h3 hm
    · exact h4 hm) h.low_nA
/-- Everything that a step may write to was there, and is not below B. -/
theorem Play.mut (h : Play B w P M Q S vt vm vq σ ρ tr mk lp) : ∀ b, MutQ P M Q vt vm b → B ≤ b ∧ b < w.heap.size := fun b hb => by
  refine ⟨Nat.le_of_not_lt fun hlt => ?_, ?_⟩
  · rcases hb with hb | hb
    · exact h.low_nA b hlt hb
    · exact h.qS (by rw [← hb]; exact h.low b hlt)
  · rcases hb with ((hb | hb | hb) | hb) | hb
    · rw [hb]; exact h.sm.blk.lt
    · rw [hb]; exact h.sm.map.lt
    · exact own_lt h.sm.tro hb
    · exact own_lt h.sm.mko hb
    · rw [hb]; exact h.rs.blk.lt
/-- Neither has taken the pair. -/
theorem Play.refused (h : Play B w P M Q S vt vm vq σ ρ tr mk lp) {S' : Nat → Prop} {vt' vm' : Value} {σ' : Int → Option T} {ρ' : Int → T} {tr' mk' : List Int} {a b : T} {w1 w2 : World} (hS : ∀ x, S x → S' x) (hS' : ∀ x, S' x → S x ∨ w.heap.size ≤ x)
    (hj : JN S' B P M vt vm σ tr mk ρ a b w false vt' vm' σ' ρ' tr' mk' w1) (hg : Gr w1 w2) : Play B w2 P M Q S' vt' vm' vq σ ρ tr mk lp := by
  obtain ⟨rfl, rfl, rfl, rfl, -⟩ := hj.no rfl
  have hQl := h.rs.blk.lt
  refine ⟨hj.sm.gr hg, (h.rs_kp hj.kp).gr hg, h.hist, h.rob, fun b hb => hS b (h.low b hb), fun hq => (hS' Q hq).elim h.qS fun hq => by omega, ⟨h.qPM.1, h.qPM.2.1, fun e => h.qPM.2.2.1 (hj.lt Q e hQl), fun e => h.qPM.2.2.2 (hj.lm Q e hQl)⟩, fun b hb => ?_⟩
  obtain ⟨h1, h2, h3, h4⟩ := h.vq b hb
  have hbl := h.rs.vlt b hb
  exact ⟨h1, h2, fun e => h3 (hj.lt b e hbl), fun e => h4 (hj.lm b e hbl)⟩
/-- Both have taken the pair. -/
theorem Play.taken (h : Play B w P M Q S vt vm vq σ ρ tr mk lp) {S' : Nat → Prop} {vt' vm' vq' : Value} {σ' : Int → Option T} {ρ' r : Int → T} {tr' mk' : List Int} {x : Pr} {w1 w2 w3 : World} (hS : ∀ x, S x → S' x) (hS' : ∀ x, S' x → S x ∨ w.heap.size ≤ x)
    (hj : JN S' B P M vt vm σ tr mk ρ x.a.erase x.b.erase w true vt' vm' σ' ρ' tr' mk' w1) (hg : Gr w1 w2) (hr : RS (· < B) w3 Q vq' (lp ++ [x])) (k : Kp (· = Q) w2 w3) (hv : ∀ b, vq'.ownBlock = some b → w2.heap.size ≤ b) (hrob : Rob varT (seePrs (lp ++ [x])) (.done r)) :
    Play B w3 P M Q S' vt' vm' vq' σ' ρ' tr' mk' (lp ++ [x]) := by
  obtain ⟨j1, j2, j3, rfl, new, rfl, j6, j7⟩ := hj.yes rfl
  have hQl := h.rs.blk.lt
  have hQ' : ¬ S' Q := fun hq => (hS' Q hq).elim h.qS fun hq => by omega
  have qt : vt'.ownBlock ≠ some Q := fun e => h.qPM.2.2.1 (hj.lt Q e hQl)
  have qm : vm'.ownBlock ≠ some Q := fun e => h.qPM.2.2.2 (hj.lm Q e hQl)
  have hsm := hj.sm.gr hg
  refine ⟨hsm.kp k (fun e => h.qPM.1 e.symm) (fun e => h.qPM.2.1 e.symm) (fun b hb e => qt (by rw [← e]; exact hb)) (fun b hb e => qm (by rw [← e]; exact hb)) (fun b hb e => hQ' (by rw [← e]; exact hb)), hr, ?_, ?_, fun b hb => hS b (h.low b hb), hQ', ⟨h.qPM.1, h.qPM.2.1, qt, qm⟩, fun b hb => ?_⟩
  · rw [seePrs_append]
    exact h.hist.step hj.ok (h.hist.holds.snoc j1 j2 j3) j6 j7
  · rw [seePrs_append] at hrob ⊢
    exact h.rob.snoc hrob
  · have h1 := hv b hb
    have l1 := hsm.blk.lt
    have l2 := hsm.map.lt
    refine ⟨by omega, by omega, fun e => ?_, fun e => ?_⟩
    · have := own_lt hsm.tro e; omega
    · have := own_lt hsm.mko e; omega
/-- Both are cut down to what they were. -/
theorem Play.cut (h : Play B w P M Q S vt vm vq σ ρ tr mk lp) {vt' vm' : Value} {σ' : Int → Option T} {ρ' : Int → T} {tr' mk' : List Int} {w1 w2 : World} (n : Nat) (hn : n ≤ lp.length) (hsm : SM S B w1 P M vt' vm' σ' tr' mk') (k : Kp (MutA P M vt vm) w w1)
    (et : vt'.ownBlock = vt.ownBlock) (em : vm'.ownBlock = vm.ownBlock) (hg : Gr w1 w2) (hh : Hist ((seePrs lp).take n) σ' ρ' tr' mk') {p : Option Addr} {c : Nat} (hv : vq = .slice p lp.length c) :
    Play B (w2.setCell ⟨Q, 0, none⟩ (.slice p n n)) P M Q S vt' vm' (.slice p n n) σ' ρ' tr' mk' (lp.take n) ∧ Kp (MutQ P M Q vt vm) w (w2.setCell ⟨Q, 0, none⟩ (.slice p n n)) := by
  have kq : Kp (· = Q) w2 (w2.setCell ⟨Q, 0, none⟩ (.slice p n n)) := Kp.set rfl
  have hob : (Value.slice p n n).ownBlock = vq.ownBlock := by rw [hv]; cases p <;> rfl
  refine ⟨⟨(hsm.gr hg).kp kq (fun e => h.qPM.1 e.symm) (fun e => h.qPM.2.1 e.symm) (fun b hb e => h.qPM.2.2.1 (by rw [← et, hb, e])) (fun b hb e => h.qPM.2.2.2 (by rw [← em, hb, e])) (fun b hb e => h.qS (by rw [← e]; exact hb)),
    ((h.rs_kp k).gr hg).cut n hn hv, by rw [seePrs_take_all]; exact hh, by rw [seePrs_take_all]; exact h.rob.take n, h.low, h.qS, ⟨h.qPM.1, h.qPM.2.1, by rw [et]; exact h.qPM.2.2.1, by rw [em]; exact h.qPM.2.2.2⟩, fun b hb => ?_⟩, ?_⟩
  · rw [hob] at hb
    rw [et, em]
    exact h.vq b hb
  · exact ((k.trans (Kp.of_gr hg)).mono fun b hb => .inl hb).trans (kq.mono fun b hb => .inr hb)
end
end Go.Proofs.Ytmecghjnghhhkaa

namespace Go.Proofs.Ytmecghjnghhhkaa
open Go.RowKit Go.Maps Go.Lib

theorem own_take {w : World} {B e : Nat} {p : Option Addr} {n c : Nat} {L : List Value} (h : w.ownsRow B e 1 (.slice p n c) n L) (hL : L.length = n) (k : Nat) (hk : k ≤ n) (hp : p ≠ none) : w.ownsRow B e 1 (.slice p k c) k (L.take k) := by
  rcases h.2 with ⟨h0, _⟩ | ⟨g, cap, cur, h0, h2, h3, h4, h5, h6, h7⟩
  · cases h0
    exact absurd rfl hp
  · cases h0
    refine ⟨by simp; omega, .inr ⟨g, c, cur, rfl, h2, h3, by omega, h5, h6, ?_⟩⟩
    have h8 := congrArg (List.take k) h7
    simp only [List.take_take] at h8
    rw [← h8]
    congr 1
    omega
/-- Marks are taken away. -/
theorem SM.unmark {S : Nat → Prop} {B : Nat} {w : World} {P M : Nat} {vt : Value} {p : Option Addr} {c : Nat} {σ : Int → Option T} {tr mk : List Int} (h : SM S B w P M vt (.slice p mk.length c) σ tr mk) (k : Nat) (hk : k ≤ mk.length) :
    SM S B (w.setCell ⟨P, 2, none⟩ (.slice p k c)) P M vt (.slice p k c) σ tr (mk.take k) ∧ Kp (· = P) w (w.setCell ⟨P, 2, none⟩ (.slice p k c)) := by
  have hob : (Value.slice p k c).ownBlock = (Value.slice p mk.length c).ownBlock := by cases p <;> rfl
  have k2 : Kp (· = P) w (w.setCell ⟨P, 2, none⟩ (.slice p k c)) := Kp.set rfl
  have hl : (mk.take k).length = k := by rw [List.length_take]; omega
  have hrow : w.ownsRow B 3 1 (.slice p k c) k ((mk.take k).map (Value.int .i64)) := by
    cases p with
    | none =>
      rcases h.mko.2 with ⟨h0, h1⟩ | ⟨g, cap, cur, h0, _⟩
      · have hn : mk = [] := List.eq_nil_of_length_eq_zero h1
        subst hn
        obtain rfl : k = 0 := by simpa using hk
        injection h0 with _ _ h3
        rw [h3]
        exact World.ownsRow_nil _ _ _ 1
      · cases h0
    | some a =>
      have := own_take h.mko (by simp) k hk (by simp)
      rwa [← List.map_take] at this
  refine ⟨⟨h.blk.set 2 _, h.map.kp k2 (fun e => h.nPM e.symm) fun x hx => (h.sepS x hx).2.1, own_kp h.tro k2 fun b hb e => by rw [e] at hb; exact h.nt.1 hb, ?_, h.trn, h.tri, fun b hb => ?_, h.nPM, h.nt, ?_, fun b hb => ?_, ?_⟩, k2⟩
  · rw [hl]
    exact own_kp hrow k2 fun b hb e => by rw [hob, e] at hb; exact h.nm.1 hb
  · obtain ⟨s1, s2, s3, s4, s5⟩ := h.sepS b hb
    exact ⟨Nat.lt_of_lt_of_le s1 k2.size, s2, s3, s4, by rw [hob]; exact s5⟩
  · rw [hob]; exact h.nm
  · rw [hob]; exact h.ntm b hb
  · exact Nat.le_trans h.bnd k2.size

def RetUndo (S : Nat → Prop) (B P M : Nat) (vt vm : Value) (σ : Int → Option T) (tr mk : List Int) (w : World) (e : Ending) (w' : World) : Prop :=
  e = .returned (.int .i64 0) ∧ ∃ vt' vm', SM S B w' P M vt' vm' σ tr mk ∧ Kp (Mut P M vt) w w' ∧ vt'.ownBlock = vt.ownBlock ∧ vm'.ownBlock = vm.ownBlock

set_option maxHeartbeats 1000000 in
set_option maxRecDepth 100000 in
theorem undo_calls {S : Nat → Prop} {B : Nat} {w : World} {P M : Nat} {vt vm : Value} {σ σ' : Int → Option T} {tr new mk : List Int} (hs : SM S B w P M vt vm σ' (tr ++ new) mk) (fr : ∀ n, n ∈ new → σ n = none) (ke : ∀ n, n ∉ new → σ' n = σ n) (k : Nat) (hk : k < mk.length) (hm : mk[k] = tr.length) :
    Calls Try.prog 33 #[.pointer (some ⟨P, 0, none⟩), .int .i64 k] w (RetUndo S B P M vt vm σ tr (mk.take k) w) := by
  have hcut := fun w' (g : Gr w w') => cut_calls (hs.gr g) fr ke
  obtain ⟨pm, cm, rfl⟩ := own_form hs.mko
  obtain ⟨b, hpm⟩ : ∃ b, pm = some ⟨b, 0, none⟩ := by
    rcases hs.mko.2 with ⟨_, h1⟩ | ⟨g, cap, cur, h0, _⟩
    · omega
    · cases h0; exact ⟨g, rfl⟩
  subst hpm
  have hcell : w.cell? ⟨b, k, none⟩ = some (.int .i64 tr.length) := by
    rw [World.ownsRow.cellAt hs.mko k (by omega), List.getElem?_map, List.getElem?_eq_getElem hk, hm]
    rfl
  have p2 := hs.blk.cell 2 (v := .slice (some ⟨b, 0, none⟩) mk.length cm) rfl
  have hcm : mk.length ≤ cm ∧ cm ≤ 9223372036854775807 := by
    rcases hs.mko.2 with ⟨_, h1⟩ | ⟨g, cap, cur, h0, h2, h3, h4, h5, _⟩
    · omega
    · cases h0; simp only [maxLen] at h5; exact ⟨h4, by omega⟩
  have hPl := hs.blk.lt
  have hbl := own_lt hs.mko rfl
  have Hcut := Lib.hid hcut
  have hQ0 : Hid (∀ (vt' : Value) w', SM S B w' P M vt' (.slice (some ⟨b, 0, none⟩) mk.length cm) σ tr mk → Kp (Mut P M vt) w w' → vt'.ownBlock = vt.ownBlock → RetUndo S B P M vt (.slice (some ⟨b, 0, none⟩) mk.length cm) σ tr (mk.take k) w (.returned (.int .i64 0)) (w'.setCell ⟨P, 2, none⟩ (.slice (some ⟨b, 0, none⟩) k cm))) := fun vt' w' h1 h2 h3 => by
    have h4 := h1.unmark k (Nat.le_of_lt hk)
    exact ⟨rfl, _, _, h4.1, h2.trans (h4.2.mono fun x hx => .inl hx), h3, rfl⟩
  generalize RetUndo S B P M vt (.slice (some ⟨b, 0, none⟩) mk.length cm) σ tr (mk.take k) w = Q at hQ0 ⊢
  have HQ := hQ0
  clear hs fr ke hcut hm hQ0
  go_enter Try.func33, Try.ntmps33
  try simp only [List.append_eq, List.cons_append, List.nil_append]
  go_wp2_with fail
  refine (Hcut.out w (Gr.rfl' _)).mono ?_
  rintro e w1 ⟨rfl, vt', h1, h2, h3⟩
  have q2 := h1.blk.cell 2 (v := .slice (some ⟨b, 0, none⟩) mk.length cm) rfl
  have qf := h1.blk.open_ 2
  have hPl1 := h1.blk.lt
  have Hfin := Lib.hid (HQ.out vt' w1 h1 h2 h3)
  clear h1 h2 h3 p2 hcell
  go_wp2_with fail
  exact Hfin.out
end Go.Proofs.Ytmecghjnghhhkaa

namespace Go.Proofs.Ytmecghjnghhhkaa
open Go.RowKit Go.Maps Go.Lib

def RetRes (S : Nat → Prop) (t : T) (r : T) (w : World) (e : Ending) (w' : World) : Prop :=
  Gr w w' ∧ ((t.formed = false ∧ e = .returned (.tuple #[zeroTm.val, .int .i64 2])) ∨
    (t.formed = true ∧ ∃ u : Tm, e = .returned (.tuple #[u.val, .int .i64 0]) ∧ u.In w' ∧ u.erase = r ∧ u.On (fun b => S b ∨ w.heap.size ≤ b)))

set_option maxHeartbeats 2000000 in
set_option maxRecDepth 100000 in
theorem resolve_calls {S : Nat → Prop} {B : Nat} {w : World} {P M : Nat} {vt vm : Value} {σ : Int → Option T} {tr mk : List Int} {ρ : Int → T} (hs : SM S B w P M vt vm σ tr mk) (ho : StoreOk σ ρ) (t : Tm) (it : t.In w) (hon : t.On S) :
    Calls Try.prog 29 #[.pointer (some ⟨P, 0, none⟩), t.val] w (RetRes S t.erase (T.map ρ t.erase) w) := by
  have HS := Lib.hid hs
  have It := Lib.hid it
  have HSl : Hid (∀ b, S b → b < w.heap.size) := fun b hb => (hs.sepS b hb).1
  have hall : ∀ (w0 w' : World), Gr w w0 → Gr (w0.alloc (.cells #[.int .i64 t.k, .int .i64 t.n, .string t.s, .slice t.p t.l.length t.c] 27)) w' → Calls Try.prog 77 #[.slice (some ⟨w0.heap.size, 0, none⟩) 1 1] w' (Ret (.bool t.erase.formed) w') := fun w0 w' h0 h1 => by
    have h2 := all_calls (one_new (Tm.In_below h0 it) h1)
    rw [show T.formedL (Tm.eraseL [t]) = t.erase.formed by simp [Tm.eraseL, T.formedL]] at h2
    exact h2
  have hfull := fun w' (g : Gr w w') (hf : t.erase.formed = true) => full_calls (hs.gr g) ho t (Tm.In_below g it) hon hf
  generalize hQ : RetRes S t.erase (T.map ρ t.erase) w = Q
  have HQ : Hid (∀ e w', RetRes S t.erase (T.map ρ t.erase) w e w' → Q e w') := fun e w' h => by rw [← hQ]; exact h
  rw [show t.val = .agg #[.int .i64 t.k, .int .i64 t.n, .string t.s, .slice t.p t.l.length t.c] from rfl] at hfull ⊢
  have Hall := Lib.hid hall
  have Hfull := Lib.hid hfull
  clear hs ho it hon hall hfull hQ
  go_enter Try.func29, Try.ntmps29
  try simp only [List.append_eq, List.cons_append, List.nil_append]
  go_upto_region 1 with fail
  obtain ⟨h3, h4, gA⟩ := two_blocks w (.int .i64 t.k) (.int .i64 t.n) (.string t.s) (.slice t.p t.l.length t.c) (.int .i64 0) (.int .i64 0) (.string ⟨#[]⟩) (.slice none 0 0)
  generalize ((w.alloc (.cells #[.int .i64 t.k, .int .i64 t.n, .string t.s, .slice t.p t.l.length t.c] 27)).alloc (.cells #[.int .i64 0, .int .i64 0, .string ⟨#[]⟩, .slice none 0 0] 27)) = wA at *
  obtain ⟨⟨x0, x1, x2, x3⟩, _, _⟩ := h3.out.parts
  obtain ⟨ff, hff⟩ : ∃ ff, t.erase.formed = ff := ⟨_, rfl⟩
  rw [hff] at Hall
  have Hff := Lib.hid hff
  clear hff
  go_wp2_with fail
  refine (Hall.out _ _ gA (Gr.rfl' _)).mono ?_
  rintro e w2 ⟨rfl, hg2⟩
  have gA2 : Gr wA w2 := Gr.trans (show Gr wA _ by go_grown) hg2
  have g2 : Gr w w2 := gA.trans gA2
  have k4 := h4.out.gr gA2
  have K4 := Lib.hid k4
  have hs4 : w.heap.size + 1 < w2.heap.size := k4.parts.2.2
  clear x0 x1 x2 x3 hg2
  cases ff with
  | false =>
    obtain ⟨⟨y0, y1, y2, y3⟩, ⟨f0, f1, f2, f3⟩, _⟩ := k4.parts
    have kk := fun a b c d => Kp.sets (C := (· = w.heap.size + 1)) (w := w2) (b := w.heap.size + 1) rfl a b c d
    have Hb := Lib.hid (fun a b c d => HQ.out (.returned (.tuple #[zeroTm.val, .int .i64 2])) _ ⟨Below.trans g2 ((kk a b c d).below (fun b hb => by omega) g2.size), .inl ⟨Hff.out, rfl⟩⟩)
    clear k4 kk
    go_wp2_with fail
    exact bodyPost_ret (v := .tuple #[zeroTm.val, .int .i64 2]) (by simp (maxDischargeDepth := 9) [results, Try.results29, go_sem, zeroTm, Tm.val, Tm.k, Tm.n, Tm.s, Tm.p, Tm.c, Tm.l, y0, y1, y2, y3]) rfl (Hb.out _ _ _ _)
  | true =>
    obtain ⟨⟨x0, x1, x2, x3⟩, _, _⟩ := (h3.out.gr gA2).parts
    have Hf := Lib.hid (Hfull.out w2 g2 Hff.out)
    clear k4
    go_wp2_with fail
    refine Hf.out.mono ?_
    rintro e w3 ⟨u, iu, eu, rfl, g3, ou⟩
    have Huv := Lib.hid (show u.val = .agg #[.int .i64 u.k, .int .i64 u.n, .string u.s, .slice u.p u.l.length u.c] from rfl)
    rw [Huv.out]
    have gw3 : Gr w w3 := g2.trans g3
    obtain ⟨⟨y0, y1, y2, y3⟩, ⟨f0, f1, f2, f3⟩, _⟩ := (K4.out.gr g3).parts
    have kk : Kp (· = w.heap.size + 1) w3 _ := Kp.sets (C := (· = w.heap.size + 1)) (w := w3) (b := w.heap.size + 1) rfl (.int .i64 u.k) (.int .i64 u.n) (.string u.s) (.slice u.p u.l.length u.c)
    have Hb := Lib.hid (HQ.out (.returned (.tuple #[u.val, .int .i64 0])) _ ⟨Below.trans gw3 (kk.below (fun b hb => by omega) gw3.size), .inr ⟨Hff.out, u, rfl, kp_in iu ou (fun b hb e => by
      rcases hb with hb | hb
      · have := HSl.out b hb; omega
      · omega) kk, eu, ou.mono fun b hb => hb.imp id fun h => Nat.le_trans g2.size h⟩⟩)
    clear x0 x1 x2 x3 kk iu eu ou g3
    go_wp2_with fail
    exact bodyPost_ret (v := .tuple #[u.val, .int .i64 0]) (by simp (maxDischargeDepth := 9) [results, Try.results29, go_sem, Tm.val, y0, y1, y2, y3]) rfl Hb.out
end Go.Proofs.Ytmecghjnghhhkaa

namespace Go.Proofs.Ytmecghjnghhhkaa
open Go.RowKit Go.Maps Go.Lib

set_option maxHeartbeats 1000000 in
set_option maxRecDepth 100000 in
theorem undo_low {S : Nat → Prop} {B : Nat} {w : World} {P M : Nat} {vt vm : Value} {σ : Int → Option T} {tr mk : List Int} (hs : SM S B w P M vt vm σ tr mk) (n : Int) (hn : n < 0) :
    Calls Try.prog 33 #[.pointer (some ⟨P, 0, none⟩), .int .i64 n] w (Ret (.int .i64 1) w) := by
  have hR : Hid (∀ w', Gr w w' → Ret (.int .i64 1) w (.returned (.int .i64 1)) w') := fun w' h => ⟨rfl, h⟩
  generalize Ret (.int .i64 1) w = Q at hR ⊢
  have HR := hR
  have hd : decide (n < 0) = true := by simpa using hn
  have hPl := hs.blk.lt
  clear hs hR
  go_enter Try.func33, Try.ntmps33
  try simp only [List.append_eq, List.cons_append, List.nil_append]
  go_wp2_with fail
  exact HR.out _ (Gr.rfl' _)

set_option maxHeartbeats 1000000 in
set_option maxRecDepth 100000 in
theorem undo_high {S : Nat → Prop} {B : Nat} {w : World} {P M : Nat} {vt vm : Value} {σ : Int → Option T} {tr mk : List Int} (hs : SM S B w P M vt vm σ tr mk) (n : Int) (hn : (mk.length : Int) < n) :
    Calls Try.prog 33 #[.pointer (some ⟨P, 0, none⟩), .int .i64 n] w (Ret (.int .i64 1) w) := by
  have hR : Hid (∀ w', Gr w w' → Ret (.int .i64 1) w (.returned (.int .i64 1)) w') := fun w' h => ⟨rfl, h⟩
  generalize Ret (.int .i64 1) w = Q at hR ⊢
  have HR := hR
  obtain ⟨pm, cm, rfl⟩ := own_form hs.mko
  have p2 := hs.blk.cell 2 (v := .slice pm mk.length cm) rfl
  have hPl := hs.blk.lt
  have hd : ¬ n < 0 := by omega
  clear hs hR
  go_enter Try.func33, Try.ntmps33
  try simp only [List.append_eq, List.cons_append, List.nil_append]
  go_wp2_with fail
  exact HR.out _ (Gr.rfl' _)

set_option maxHeartbeats 1000000 in
set_option maxRecDepth 100000 in
theorem undo_same {S : Nat → Prop} {B : Nat} {w : World} {P M : Nat} {vt vm : Value} {σ : Int → Option T} {tr mk : List Int} (hs : SM S B w P M vt vm σ tr mk) :
    Calls Try.prog 33 #[.pointer (some ⟨P, 0, none⟩), .int .i64 mk.length] w (Ret (.int .i64 0) w) := by
  have hR : Hid (∀ w', Gr w w' → Ret (.int .i64 0) w (.returned (.int .i64 0)) w') := fun w' h => ⟨rfl, h⟩
  generalize Ret (.int .i64 0) w = Q at hR ⊢
  have HR := hR
  obtain ⟨pm, cm, rfl⟩ := own_form hs.mko
  have p2 := hs.blk.cell 2 (v := .slice pm mk.length cm) rfl
  have hPl := hs.blk.lt
  have hd : ¬ (mk.length : Int) < 0 := by omega
  have hd2 : ¬ (mk.length : Int) < mk.length := by omega
  clear hs hR
  go_enter Try.func33, Try.ntmps33
  try simp only [List.append_eq, List.cons_append, List.nil_append]
  go_wp2_with fail
  exact HR.out _ (Gr.rfl' _)
end Go.Proofs.Ytmecghjnghhhkaa

namespace Go.Proofs.Ytmecghjnghhhkaa
open Go.RowKit

set_option maxHeartbeats 1000000 in
set_option maxRecDepth 100000 in
theorem none_gen (p : Option Addr) (c : Nat) (w : World) : Calls Try.prog 84 #[(Tm.mk 0 0 ⟨#[]⟩ p c []).val] w (Ret (.bool true) w) := by
  simp only [Tm.val, Tm.k, Tm.n, Tm.s, Tm.p, Tm.c, Tm.l, List.length_nil]
  go_enter Try.func84, Try.ntmps84
  go_wp2_with fail
  go_ret
  exact ret_bool rfl (by go_grown)

theorem toList_nil {s : ByteArray} (h : s.toList = []) : s = ⟨#[]⟩ := by
  rw [ByteArray.toList_eq] at h
  cases s with
  | mk d =>
    congr 1
    exact Array.toList_eq_nil_iff.1 h

theorem none_calls {t : Tm} (h : t.erase = zeroT) (w : World) : Calls Try.prog 84 #[t.val] w (Ret (.bool true) w) := by
  obtain ⟨k, n, s, p, c, l⟩ := t
  rw [Tm.erase, zeroT] at h
  injection h with h1 h2 h3 h4
  subst h1; subst h2
  have hs := toList_nil h3
  subst hs
  have hl : l = [] := by
    have := Tm.eraseL_length l
    rw [h4] at this
    exact List.eq_nil_of_length_eq_zero this.symm
  subst hl
  exact none_gen p c w

end Go.Proofs.Ytmecghjnghhhkaa
