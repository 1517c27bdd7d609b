/-
  slices.Clone at [][]int64: of what is not empty.
  label: the domains from a variable on (plain); what is done with each solution is open.
  label: where all lies, and what is done with each solution (open).
-/
import Derived.Test.YtbapmokbkjmdcaaDR18
import Derived.Test.YtbapmokbkjmdcaaDR22
namespace Go.Proofs.Ytbapmokbkjmdcaa
open Go.RowKit Go.Maps Go.Lib

/-- The call returned a new row with these cells. -/
def RetRows (xs : List Value) (w : World) (e : Ending) (w' : World) : Prop := ∃ (g c : Nat) (cells : Array Value), e = .returned (.slice (some ⟨g, 0, none⟩) xs.length c) ∧ BlkT w' g 38 cells ∧ (∀ (i : Nat) (u : Value), xs[i]? = some u → cells[i]? = some u) ∧ w.heap.size ≤ g ∧ Gr w w' ∧ xs.length ≤ c ∧ c ≤ 9223372036854775807
theorem rows_own {B : Nat} {w : World} {v : Value} {xs : List Value} (h : w.ownsRow B 38 1 v xs.length xs) (h0 : 0 < xs.length) : ∃ (g c : Nat) (cells : Array Value), v = .slice (some ⟨g, 0, none⟩) xs.length c ∧ BlkT w g 38 cells ∧ (∀ (i : Nat) (u : Value), xs[i]? = some u → cells[i]? = some u) ∧ B ≤ g ∧ xs.length ≤ c ∧ c ≤ 9223372036854775807 := by
  have ho := h
  rcases ho.2 with ⟨_, h1⟩ | ⟨g, cap, cur, h1, hbg, hg, hnc, hcm, hcs, htake⟩
  · omega
  · simp only [maxLen] at hcm
    refine ⟨g, cap, cur, h1, hg, fun i u hu => ?_, hbg, hnc, by omega⟩
    have hi : i < xs.length := (List.getElem?_eq_some_iff.1 hu).1
    subst h1
    have h2 := World.ownsRow.cellAt h i (by omega)
    have h3 : BlkT w g 38 cur := hg
    rw [hu] at h2
    by_cases hc : i < cur.size
    · rw [h3.cell i (Array.getElem?_eq_getElem hc)] at h2
      rw [Array.getElem?_eq_getElem hc]; exact h2
    · have hl : i < cur.toList.length := by
        have h5 := congrArg List.length htake
        rw [List.length_take] at h5
        have : xs.length = min (xs.length * 1) cur.toList.length ∨ xs.length ≤ cur.toList.length := by
          by_cases h6 : xs.length ≤ cur.toList.length
          · exact .inr h6
          · left; simp at h5 ⊢; omega
        rcases this with h7 | h7 <;> omega
      rw [Array.length_toList] at hl
      exact absurd hl hc

set_option maxHeartbeats 1000000 in
set_option maxRecDepth 100000 in
theorem cloneRows_calls (b o c : Nat) (xs : List Value) (w : World) (h0 : 0 < xs.length) (hlc : xs.length ≤ c ∧ c ≤ 9223372036854775807) (hl : xs.length ≤ 1000) (hr : ∀ (i : Nat) (u : Value), xs[i]? = some u → w.cell? ⟨b, o + i, none⟩ = some u) (hone : ∀ u ∈ xs, u.oneCell' = true) :
    Calls Try.prog 39 #[.slice (some ⟨b, o, none⟩) xs.length c] w (RetRows xs w) := by
  have hQ1 : Hid (∀ g c cells w', BlkT w' g 38 cells → (∀ (i : Nat) (u : Value), xs[i]? = some u → cells[i]? = some u) → w.heap.size ≤ g → Gr w w' → xs.length ≤ c → c ≤ 9223372036854775807 → RetRows xs w (.returned (.slice (some ⟨g, 0, none⟩) xs.length c)) w') := fun g c cells w' h1 h2 h3 h4 h5 h6 => ⟨g, c, cells, rfl, h1, h2, h3, h4, h5, h6⟩
  generalize hQ : RetRows xs w = Q at hQ1 ⊢
  clear hQ
  have hlc1 := hlc.1
  have hc1 := hlc.2
  have hnil := fun (W : World) (a : Option Addr) (n c : Nat) => run_eql_slice_nil (P := Try.prog) W 22 38 a n c 0 0 Try.underlying22
  have hE : (w.alloc (.cells #[] 38)).ownsRow w.heap.size 38 1 (.slice (some ⟨w.heap.size, 0, none⟩) 0 0) 0 [] :=
    ⟨rfl, .inr ⟨w.heap.size, 0, #[], rfl, Nat.le_refl _, heap_alloc_new _ _, Nat.le_refl _, Nat.zero_le _, rfl, rfl⟩⟩
  obtain ⟨i0, hi, hz0, hz1, hz2⟩ := info_parts infoRows
  obtain ⟨v, w1, hrun, hown, hgr, _⟩ := run_append_own_fresh (P := Try.prog) (w.alloc (.cells #[] 38)) w.heap.size 22 22 38 i0 (.slice none 0 0) 1 24 Try.underlying22 hi hz0 hz1 hz2 rfl (by decide)
    (.slice (some ⟨w.heap.size, 0, none⟩) 0 0) 0 [] hE ⟨b, o, none⟩ xs.length c xs (Nat.mul_one _).symm (by
      intro j u hu
      rw [Go.WideShapes.add_plain]
      exact Gr.at (w := w) (by go_grown) (hr j u hu)) hone (by simp only [maxLen]; omega) (by omega) (by simp) h0
  have HR := Lib.hid hrun
  rw [Nat.zero_add, List.nil_append] at hown
  obtain ⟨g, c', cells, rfl, h1, h2, h3, h4, h5⟩ := rows_own hown h0
  have HQ := Lib.hid (hQ1.out g c' cells w1 h1 h2 h3 (Below.trans (b := w.alloc (.cells #[] 38)) (by go_grown) (grownBy_below hgr (by simp) fun k hk => by cases hk; exact Nat.le_refl _)) h4 h5)
  clear hrun hown hgr hQ1 hE hr hone h1 h2 h3 h4 h5
  go_enter Try.func39, Try.ntmps39
  try simp only [List.append_eq, List.cons_append, List.nil_append]
  go_wp2_with (first
    | (refine wpList_append_run _ rfl _ _ _ _ rfl _ _ (by rfl) (by rfl) _ _ HR.out ?_)
    | fail)
  exact HQ.out
end Go.Proofs.Ytbapmokbkjmdcaa

namespace Go.Proofs.Ytbapmokbkjmdcaa
open Go.RowKit Go.Maps Go.Lib

theorem sub_nodup {E D : List (List Int)} (h : SubD E D) (hn : ∀ d ∈ D, d.Nodup) : ∀ d ∈ E, d.Nodup := fun d hd => by
  obtain ⟨i, hi, rfl⟩ := List.getElem_of_mem hd
  have h1 := h.2 i
  have hk : i < D.length := h.1 ▸ hi
  rw [getD_lt [] hi, getD_lt [] hk] at h1
  exact h1.nodup (hn _ (List.getElem_mem hk))
/-- The domains: consistent, none is empty, the first v have one number. -/
structure Ready (C : List Con) (D : List (List Int)) (v : Nat) : Prop where
  ok : ∀ c ∈ C, c.ok D.length = true
  ac : AC C D
  ne : ∀ d ∈ D, d ≠ []
  nd : ∀ d ∈ D, d.Nodup
  one : ∀ i : Nat, i < v → (D.getD i []).length = 1
theorem Ready.start {C : List Con} {D E : List (List Int)} (hok : ∀ c ∈ C, c.ok D.length = true) (hn : ∀ d ∈ D, d.Nodup) (h : RedOk C D E) : Ready C E 0 :=
  ⟨fun c hc => by rw [h.sub.1]; exact hok c hc, h.ac, h.ne, sub_nodup h.sub hn, fun i hi => by omega⟩
section
variable {C : List Con} {D E : List (List Int)} {v : Nat} {n : Int}
theorem set_nodup (hn : ∀ d ∈ D, d.Nodup) : ∀ d ∈ D.set v [n], d.Nodup := fun d hd => by
  rcases List.mem_or_eq_of_mem_set hd with hd | rfl
  · exact hn d hd
  · simp
theorem Ready.at_ (h : Ready C D v) (hv : v < D.length) : Go.Proofs.Ytbapmokbkjmdcaa.sols C D = (D.getD v []).flatMap fun n => Go.Proofs.Ytbapmokbkjmdcaa.sols C (D.set v [n]) := sols_at hv h.one
theorem Ready.end_ (h : Ready C D D.length) : Go.Proofs.Ytbapmokbkjmdcaa.sols C D = [D.map fun d => d.getD 0 0] := sols_ones h.ok h.ac fun d hd => by
  obtain ⟨i, hi, rfl⟩ := List.getElem_of_mem hd
  have := h.one i hi
  rwa [getD_lt [] hi] at this
theorem Ready.okSet (h : Ready C D v) : ∀ c ∈ C, c.ok (D.set v [n]).length = true := fun c hc => by rw [List.length_set]; exact h.ok c hc
theorem Ready.no (h : Ready C D v) (hno : RedNo C (D.set v [n])) : Go.Proofs.Ytbapmokbkjmdcaa.sols C (D.set v [n]) = [] := RedNo.sols h.okSet hno
theorem Ready.yes (h : Ready C D v) (hv : v < D.length) (hE : RedOk C (D.set v [n]) E) : Ready C E (v + 1) ∧ Go.Proofs.Ytbapmokbkjmdcaa.sols C E = Go.Proofs.Ytbapmokbkjmdcaa.sols C (D.set v [n]) := by
  refine ⟨⟨fun c hc => by rw [hE.sub.1]; exact h.okSet c hc, hE.ac, hE.ne, sub_nodup hE.sub (set_nodup h.nd), fun i hi => ?_⟩, RedOk.sols (set_nodup h.nd) h.okSet hE⟩
  have hs := (hE.sub.2 i).length_le
  by_cases hil : i < (D.set v [n]).length
  · have hiE : i < E.length := by rw [hE.sub.1]; exact hil
    have h1 : ((D.set v [n]).getD i []).length = 1 := by
      by_cases hiv : v = i
      · subst hiv
        rw [getD_lt [] hil, List.getElem_set_self]; rfl
      · rw [List.getD_eq_getElem?_getD, List.getElem?_set_ne hiv, ← List.getD_eq_getElem?_getD]
        exact h.one i (by omega)
    have h0 : (E.getD i []).length ≠ 0 := fun e => by
      rw [getD_lt [] hiE] at e
      exact hE.ne _ (List.getElem_mem hiE) (List.eq_nil_of_length_eq_zero e)
    omega
  · exfalso
    rw [List.length_set] at hil
    omega
theorem Ready.cst {U : List (List Int)} (h : Ready C D v) (hU : UsesOk C U D.length) (hv : v < D.length) : ∀ (k : Nat) (x : Con), C[k]? = some x → (k : Int) ∉ U.getD v [] → Cst (D.set v [n]) x := fun k x hk hn => by
  have hx := List.mem_of_getElem? hk
  have hvv : (v : Int) ∉ x.vars := fun hm => hn (((hU.2 v hv).2 k).2 ⟨by omega, x, by rw [Int.toNat_natCast]; exact hk, hm⟩)
  refine (h.ac x hx).congr fun u hu => ?_
  have hu0 := Con.ok_var (h.ok x hx) hu
  have hne : v ≠ u.toNat := fun e => hvv (by rw [show ((v : Nat) : Int) = u by omega]; exact hu)
  show D.getD u.toNat [] = (D.set v [n]).getD u.toNat []
  rw [List.getD_eq_getElem?_getD, List.getD_eq_getElem?_getD, List.getElem?_set_ne hne]
end
end Go.Proofs.Ytbapmokbkjmdcaa

namespace Go.Proofs.Ytbapmokbkjmdcaa
open Go.RowKit Go.Maps Go.Lib

theorem FamW.kpG {F : Fam} {w0 w w' : World} (h : FamW F w0 w) {C : Nat → Prop} (hk : Kp C w w') (hC : ∀ b, C b → (¬ OfT w b 40 ∧ ¬ OfT w b 3) ∧ w0.heap.size ≤ b) : FamW F w0 w' := by
  obtain ⟨cells, hb, hc⟩ := h.blk
  refine ⟨Below.trans h.gr (hk.below (fun b hb => (hC b hb).2) h.gr.size), ⟨cells, hb.kp hk fun hh => (hC _ hh).1.1 (.of hb), hc⟩, fun i v u hv hu => ?_, h.geB⟩
  have ho := h.own i v u hv hu
  exact ownsRow_kp ho hk fun g hg hh => (hC g hh).1.2 (ownsRow_type ho hg).1
theorem OfT.not {w : World} {b : Nat} {t u : TypeId} (h : OfT w b t) (hne : t ≠ u) : ¬ OfT w b u := fun k => h.ne k hne rfl
theorem OfT.of_gr {w w' : World} {b : Nat} {t : TypeId} (h : OfT w' b t) (hg : Gr w w') (hb : b < w.heap.size) : OfT w b t := by
  obtain ⟨c, h⟩ := h
  exact ⟨c, (hg.block b hb).symm.trans h⟩

/-- What engines share. -/
def TurnI (B : Nat) (w : World) (b : Nat) : Prop := OfT w b 3 ∧ B ≤ b
/-- A search: where all lies, and what is done with each solution. -/
structure LbE (α : Type) where
  F : Fam
  w0 : World
  f : FuncId
  cap : Array Value
  st : α → (Nat → Prop) → World → Prop
  step : α → List Int → α × Bool
  live : α → Prop
variable {α : Type}
structure LbOk (E : LbE α) : Prop where
  fam : FamOk E.F E.w0
  enter : ∀ (v : Value) (w : World), (callFunc E.f (#[v] ++ E.cap)).run Try.prog w = .ok (.enter E.f (#[v] ++ E.cap)) w
  typ : ∀ a T w b, E.st a T w → T b → (OfT w b 22 ∨ OfT w b 38) ∧ E.w0.heap.size ≤ b
  stable : ∀ a T w w', E.st a T w → Kp (TurnI E.w0.heap.size w) w w' → E.st a T w'
  liv : ∀ a s, E.live a → (E.step a s).2 = true → E.live (E.step a s).1
  call : ∀ a T w v s, E.live a → E.st a T w → Gr E.w0 w → IntsOwn w E.w0.heap.size v s → s.length = E.F.N → (∀ y ∈ s, Near y) → Calls Try.prog E.f (#[v] ++ E.cap) w fun e w' =>
    e = .returned (.bool (E.step a s).2) ∧ ∃ T', E.st (E.step a s).1 T' w' ∧ Kp T w w' ∧ ∀ b, T' b → T b ∨ w.heap.size ≤ b
/-- What may turn. -/
def TurnL (B : Nat) (T : Nat → Prop) (w : World) (b : Nat) : Prop := T b ∨ TurnI B w b
/-- The state between two rounds. -/
structure LbW (E : LbE α) (e dB : Nat) (D : List (List Int)) (T : Nat → Prop) (w : World) (a' : α) (wr : World) : Prop where
  st : ∃ T', E.st a' T' wr ∧ ∀ b, T' b → T b ∨ w.heap.size ≤ b
  fam : FamW E.F E.w0 wr
  eng : EngW E.F E.w0 e dB D wr
  kp : Kp (TurnL E.w0.heap.size T w) w wr
/-- What label says. -/
def RetLb (E : LbE α) (e dB : Nat) (D : List (List Int)) (T : Nat → Prop) (a : α) (w : World) (en : Ending) (w' : World) : Prop :=
  en = .returned (.bool (feedS E.step a (sols E.F.cons D)).2) ∧ LbW E e dB D T w (feedS E.step a (sols E.F.cons D)).1 w'
def LbE.args (E : LbE α) (e v : Nat) : Array Value := #[.pointer (some ⟨e, 0, none⟩), .int .i64 v, .func (.func E.f) #[] E.cap]
/-- label, from a variable on. -/
def LbE.upto (E : LbE α) (r : Nat) : Prop := ∀ (v e dB : Nat) (D : List (List Int)) (T : Nat → Prop) (a : α) (w : World), v ≤ E.F.N → E.F.N - v < r → E.live a → E.st a T w → FamW E.F E.w0 w → EngW E.F E.w0 e dB D w → ¬ T dB → Ready E.F.cons D v →
  Calls Try.prog 34 (E.args e v) w (RetLb E e dB D T a w)
section
variable {E : LbE α} {e dB : Nat} {D : List (List Int)} {T : Nat → Prop} {w wr w' : World} {a a' a'' : α}
theorem EngW.turn {F : Fam} {w0 : World} (h : EngW F w0 e dB D w) (ht : ∀ b, T b → OfT w b 22 ∨ OfT w b 38) (hn : ¬ T dB) {B : Nat} (hk : Kp (TurnL B T w) w w') : EngW F w0 e dB D w' := by
  obtain ⟨dp, dc, hb, _⟩ := h.blk
  have hE : ¬ TurnL B T w e := fun hc => by
    rcases hc with hc | hc
    · rcases ht _ hc with h1 | h1
      · exact h1.not (by decide) (.of hb)
      · exact h1.not (by decide) (.of hb)
    · exact hc.1.not (by decide) (.of hb)
  have hR : ∀ g, OfT w g 2 → ¬ TurnL B T w g := fun g hg hc => by
    rcases hc with hc | hc
    · rcases ht _ hc with h1 | h1
      · exact h1.not (by decide) hg
      · exact h1.not (by decide) hg
    · exact hc.1.not (by decide) hg
  by_cases h0 : 0 < D.length
  · obtain ⟨vs, k1, _⟩ := h.row h0
    exact h.kp hk hE (fun hc => hc.elim hn fun h1 => h1.1.not (by decide) (.of k1)) hR
  · obtain ⟨dp, dc, hb, h4, h5⟩ := h.blk
    exact ⟨⟨dp, dc, hb.kp hk hE, h4, h5⟩, h.len, fun h => absurd h h0, h.near, h.short, h.ge⟩
theorem LbW.start (hst : E.st a T w) (hf : FamW E.F E.w0 w) (he : EngW E.F E.w0 e dB D w) : LbW E e dB D T w a w := ⟨⟨T, hst, fun _ h => .inl h⟩, hf, he, Kp.refl _ _⟩
/-- Only what is shared, or new, has turned. -/
theorem LbW.step (hE : LbOk E) (hT : ∀ b, T b → OfT w b 22 ∨ OfT w b 38) (hn : ¬ T dB) (hew : EngW E.F E.w0 e dB D w) (h : LbW E e dB D T w a wr) (hk : Kp (TurnI E.w0.heap.size wr) wr w') (hf : FamW E.F E.w0 w') : LbW E e dB D T w a w' := by
  obtain ⟨T', h1, h2⟩ := h.st
  have hkp : Kp (TurnL E.w0.heap.size T w) w w' := h.kp.more hk fun b hb hc => by
    by_cases hb2 : TurnL E.w0.heap.size T w b
    · exact hb2
    · refine .inr ⟨?_, hc.2⟩
      obtain ⟨c, hc⟩ := hc.1
      exact ⟨c, (h.kp.block b hb hb2).symm.trans hc⟩
  exact ⟨⟨T', hE.stable _ _ _ _ h1 hk, h2⟩, hf, hew.turn hT hn hkp, hkp⟩
theorem LbW.gr (hE : LbOk E) (hT : ∀ b, T b → OfT w b 22 ∨ OfT w b 38) (hn : ¬ T dB) (hew : EngW E.F E.w0 e dB D w) (h : LbW E e dB D T w a wr) (hg : Gr wr w') : LbW E e dB D T w a w' := h.step hE hT hn hew (Kp.of_gr hg) (h.fam.gr' hg)
/-- Behind what another engine has done. -/
theorem LbW.more (hT : ∀ b, T b → OfT w b 22 ∨ OfT w b 38) (hn : ¬ T dB) (hew : EngW E.F E.w0 e dB D w) (h : LbW E e dB D T w a wr) {e2 dB2 : Nat} {D2 : List (List Int)} {T2 : Nat → Prop} (hT2 : ∀ b, T2 b → T b ∨ w.heap.size ≤ b) (k : LbW E e2 dB2 D2 T2 wr a' w') : LbW E e dB D T w a' w' := by
  obtain ⟨T', h1, h2⟩ := k.st
  have hs := h.kp.size
  have hkp : Kp (TurnL E.w0.heap.size T w) w w' := h.kp.more k.kp fun b hb hc => by
    by_cases hb2 : TurnL E.w0.heap.size T w b
    · exact hb2
    · rcases hc with hc | hc
      · exact (hT2 b hc).elim .inl fun h3 => by omega
      · refine .inr ⟨?_, hc.2⟩
        obtain ⟨c, hc⟩ := hc.1
        exact ⟨c, (h.kp.block b hb hb2).symm.trans hc⟩
  exact ⟨⟨T', h1, fun b hb => (h2 b hb).elim (hT2 b) fun h3 => .inr (by omega)⟩, k.fam, hew.turn hT hn hkp, hkp⟩
end
end Go.Proofs.Ytbapmokbkjmdcaa
