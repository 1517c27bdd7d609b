/-
  A term's parts in their order, and its variables read off them (no program here).
  term.Parts as an iterator: a term's parts in their order, whatever the loop's body does to its own list.
  term.Variables: the variables of terms in their order.
-/
import Derived.Test.YtcblmkhhhibddaaTS09
import Derived.RangeFuncNested
import Derived.RangeFuncBound
import Derived.RangeFuncCalls
import Derived.RangeFuncLeaves
import Derived.Shelf.Abstract
import Derived.Shelf.RegionOpen
import Derived.WalkKit
import Derived.OwnWalkIn
import Derived.TacticsInMore
import Derived.LoopNIn
import Derived.LoopIn
import Derived.Maps.OwnIn
import Derived.Test.YtcblmkhhhibddaaTS07
import Derived.Maps.AppendAt
namespace Go.Proofs.Ytcblmkhhhibddaa
open Go.RowKit

mutual
/-- A term ahead of its Args, and so on. -/
def Tm.pre : Tm → List Tm
  | .mk k n s p c l => .mk k n s p c l :: Tm.preL l
def Tm.preL : List Tm → List Tm
  | [] => []
  | x :: xs => Tm.pre x ++ Tm.preL xs
end
theorem Tm.pre_eq (t : Tm) : t.pre = t :: Tm.preL t.l := by obtain ⟨k, n, s, p, c, l⟩ := t; rw [Tm.pre]; rfl
/-- A part, of which a loop's body may know this much. -/
abbrev Pt := { x : Tm // In64 x.k ∧ In64 x.n ∧ x.l.length ≤ x.c ∧ x.c ≤ 9223372036854775807 ∧ (x.k = 1 → 0 ≤ x.n ∧ x.n ≤ 1099515822080) }

mutual
theorem Tm.pre_ok {w : World} : ∀ {t : Tm}, t.In w → t.erase.fmd = true → ∃ xs : List Pt, xs.map Subtype.val = t.pre
  | .mk k n s p c l, hi, hf => by
    have hi0 := hi
    rw [Tm.In] at hi
    have hk : In64 k ∧ In64 n := ⟨⟨hi.1.1, hi.1.2⟩, ⟨hi.2.1.1, hi.2.1.2⟩⟩
    have hrest : ∃ ys : List Pt, ys.map Subtype.val = Tm.preL l := by
      rw [Tm.erase] at hf
      rcases fmd_args hf with ⟨_, h⟩ | ⟨_, h⟩
      · exact Tm.preL_ok hi.2.2.2.2.2.2 h
      · have hl : l = [] := by
          have := congrArg List.length h
          rw [Tm.eraseL_length] at this
          exact List.eq_nil_of_length_eq_zero this
        rw [hl, Tm.preL]
        exact ⟨[], rfl⟩
    obtain ⟨ys, hys⟩ := hrest
    refine ⟨⟨.mk k n s p c l, hk.1, hk.2, hi.2.2.2.1, hi.2.2.2.2.1.2, fun h1 => ?_⟩ :: ys, by rw [List.map_cons, hys, Tm.pre]⟩
    have h1' : k = 1 := h1
    subst h1'
    rw [Tm.erase] at hf
    exact (fmd_var hf).1
theorem Tm.preL_ok {w : World} : ∀ {l : List Tm}, Tm.InL w l → T.fmdL (Tm.eraseL l) = true → ∃ xs : List Pt, xs.map Subtype.val = Tm.preL l
  | [], _, _ => ⟨[], by rw [Tm.preL]; rfl⟩
  | x :: xs, hi, hf => by
    rw [Tm.InL] at hi
    rw [Tm.eraseL, T.fmdL, Bool.and_eq_true] at hf
    obtain ⟨a, ha⟩ := Tm.pre_ok hi.1 hf.1
    obtain ⟨b, hb⟩ := Tm.preL_ok hi.2 hf.2
    exact ⟨a ++ b, by rw [List.map_append, ha, hb, Tm.preL]⟩
end

/-- One round: a variable that has not come. -/
def seeOne (V : List Int) (x : Pt) : List Int := if x.1.k = 1 then withVar V x.1.n else V
def seeAll (V : List Int) (xs : List Pt) : List Int := xs.foldl seeOne V
theorem seeAll_snoc (V : List Int) (xs : List Pt) (x : Pt) : seeAll V (xs ++ [x]) = seeOne (seeAll V xs) x := by simp [seeAll]
theorem seeAll_append (V : List Int) (xs ys : List Pt) : seeAll V (xs ++ ys) = seeAll (seeAll V xs) ys := by simp [seeAll]

theorem VarsOkB.seeOne {V : List Int} (h : VarsOkB V) (x : Pt) : VarsOkB (Go.Proofs.Ytcblmkhhhibddaa.seeOne V x) := by
  unfold Go.Proofs.Ytcblmkhhhibddaa.seeOne
  split
  · exact h.one (x.2.2.2.2.2 ‹_›)
  · exact h
theorem VarsOkB.seeAll {V : List Int} (h : VarsOkB V) (xs : List Pt) : VarsOkB (Go.Proofs.Ytcblmkhhhibddaa.seeAll V xs) := by
  induction xs generalizing V with
  | nil => exact h
  | cons x xs ih => exact ih (h.seeOne x)

mutual
theorem see_vars : ∀ (t : Tm) (V : List Int) (xs : List Pt), t.erase.fmd = true → xs.map Subtype.val = t.pre → seeAll V xs = T.vars t.erase V
  | .mk k n s p c l, V, xs, hf, hx => by
    rw [Tm.pre] at hx
    match xs, hx with
    | x :: ys, hx =>
      rw [List.map_cons] at hx
      injection hx with h1 h2
      rw [Tm.erase] at hf ⊢
      rw [T.vars]
      show seeAll (seeOne V x) ys = _
      unfold seeOne
      rw [h1]
      show seeAll (if k = 1 then withVar V n else V) ys = _
      by_cases hk : k = 1
      · subst hk
        rw [if_pos rfl, if_pos rfl]
        have hl : l = [] := by
          have := congrArg List.length (fmd_var hf).2.2
          rw [Tm.eraseL_length] at this
          exact List.eq_nil_of_length_eq_zero this
        subst hl
        rw [Tm.preL] at h2
        obtain rfl : ys = [] := List.map_eq_nil_iff.1 h2
        rfl
      · rw [if_neg hk, if_neg hk]
        rcases fmd_args hf with ⟨_, h⟩ | ⟨_, h⟩
        · exact see_varsL l V ys h h2
        · have hl : l = [] := by
            have := congrArg List.length h
            rw [Tm.eraseL_length] at this
            exact List.eq_nil_of_length_eq_zero this
          subst hl
          rw [Tm.preL] at h2
          obtain rfl : ys = [] := List.map_eq_nil_iff.1 h2
          rw [Tm.eraseL, T.varsL]; rfl
theorem see_varsL : ∀ (l : List Tm) (V : List Int) (xs : List Pt), T.fmdL (Tm.eraseL l) = true → xs.map Subtype.val = Tm.preL l → seeAll V xs = T.varsL (Tm.eraseL l) V
  | [], V, xs, _, hx => by
    rw [Tm.preL] at hx
    obtain rfl : xs = [] := List.map_eq_nil_iff.1 hx
    rw [Tm.eraseL, T.varsL]; rfl
  | x :: r, V, xs, hf, hx => by
    rw [Tm.eraseL, T.fmdL, Bool.and_eq_true] at hf
    rw [Tm.preL, List.map_eq_append_iff] at hx
    obtain ⟨a, b, rfl, ha, hb⟩ := hx
    rw [seeAll_append, see_vars x V a hf.1 ha, see_varsL r _ b hf.2 hb, Tm.eraseL, T.varsL]
end
end Go.Proofs.Ytcblmkhhhibddaa

namespace Go.Proofs.Ytcblmkhhhibddaa
open Go.RowKit Go.Shelf

attribute [local go_sem] Oper.semAt_some

/-- What a round keeps: every cell but the one of the list's variable (block O) and those of the list's own row. -/
def Kv (O : Nat) (W W' : World) : Prop := W.heap.size ≤ W'.heap.size ∧ ∀ v, W.cell? ⟨O, 0, none⟩ = some v → (∀ b, v.ownBlock = some b → b < W.heap.size) →
  ∃ v', W'.cell? ⟨O, 0, none⟩ = some v' ∧ (∀ b, v'.ownBlock = some b → b < W'.heap.size ∧ (v.ownBlock = some b ∨ W.heap.size ≤ b)) ∧ ∀ b o c, W.cell? ⟨b, o, none⟩ = some c → b ≠ O → v.ownBlock ≠ some b → W'.cell? ⟨b, o, none⟩ = some c

theorem Kv.refl (O : Nat) (W : World) : Kv O W W := ⟨Nat.le_refl _, fun v hv hb => ⟨v, hv, fun b h => ⟨hb b h, .inl h⟩, fun _ _ _ h _ _ => h⟩⟩
theorem Kv.trans {O : Nat} {A B C : World} (h : Kv O A B) (k : Kv O B C) : Kv O A C := by
  refine ⟨Nat.le_trans h.1 k.1, fun v hv hb => ?_⟩
  obtain ⟨v1, h1, h2, h3⟩ := h.2 v hv hb
  obtain ⟨v2, k1, k2, k3⟩ := k.2 v1 h1 fun b e => (h2 b e).1
  refine ⟨v2, k1, fun b e => ⟨(k2 b e).1, ?_⟩, fun b o c hc hO hv' => ?_⟩
  · rcases (k2 b e).2 with h4 | h4
    · exact (h2 b h4).2
    · exact .inr (Nat.le_trans h.1 h4)
  · refine k3 b o c (h3 b o c hc hO hv') hO fun e => ?_
    rcases (h2 b e).2 with h4 | h4
    · exact hv' h4
    · have := World.block_lt_of_cell? _ _ hc
      simp only at this
      omega
theorem Kv.of_cells {O : Nat} {W W' : World} (hs : W.heap.size ≤ W'.heap.size) (h : ∀ b o c, W.cell? ⟨b, o, none⟩ = some c → W'.cell? ⟨b, o, none⟩ = some c) : Kv O W W' :=
  ⟨hs, fun v hv hb => ⟨v, h _ _ _ hv, fun b e => ⟨Nat.lt_of_lt_of_le (hb b e) hs, .inl e⟩, fun b o c hc _ _ => h b o c hc⟩⟩
theorem Kv.alloc (O : Nat) (W : World) (o : Obj) : Kv O W (W.alloc o) :=
  Kv.of_cells (by simp) fun b o' c hc => by rw [World.cell?_alloc_past _ _ _ (by simpa using World.block_lt_of_cell? _ _ hc)]; exact hc
theorem Kv.putObj {O : Nat} {W : World} {l : Nat} {o : Obj} (o' : Obj) (hl : W.heap[l]? = some o) (ho : o.isCells = false) : Kv O W (W.putObj l o') :=
  Kv.of_cells (by simp) fun b o2 c hc => by
    have hne : b ≠ l := by
      rintro rfl
      unfold World.cell? at hc
      simp only [hl] at hc
      cases o <;> simp_all [Obj.isCells]
    exact (World.cell?_of_block (World.putObj_heap_other hne)).trans hc

/-- What the list's variable holds is laid. -/
def FitO (O n₀ : Nat) (W : World) : Prop := ∃ v, W.cell? ⟨O, 0, none⟩ = some v ∧ ∀ b, v.ownBlock = some b → n₀ ≤ b ∧ b < W.heap.size
theorem Kv.fit {O n₀ : Nat} {W W' : World} (h : Kv O W W') (hn : n₀ ≤ W.heap.size) (hf : FitO O n₀ W) : FitO O n₀ W' := by
  obtain ⟨v, h1, h2⟩ := hf
  obtain ⟨v', h3, h4, _⟩ := h.2 v h1 fun b e => (h2 b e).2
  exact ⟨v', h3, fun b e => ⟨(h4 b e).2.elim (fun k => (h2 b k).1) fun k => Nat.le_trans hn k, (h4 b e).1⟩⟩

namespace Tm
mutual
theorem In.keep {n₀ : Nat} {w w' : World} (hs : ∀ b o c, b < n₀ → w.cell? ⟨b, o, none⟩ = some c → w'.cell? ⟨b, o, none⟩ = some c) : ∀ {t : Tm}, In w t → On (· < n₀) t → In w' t
  | .mk k n s p c l, h, hO => by
    rw [In] at h ⊢
    rw [On] at hO
    obtain ⟨h1, h2, h3, h4, h5, h6, h7⟩ := h
    refine ⟨h1, h2, h3, h4, h5, ?_, InL.keep hs h7 hO.2⟩
    rcases h6 with h6 | ⟨b, o, hp, hr⟩
    · exact .inl h6
    · rcases hO.1 with h8 | ⟨b', o', hp', hS⟩
      · exact .inl h8
      · rw [hp] at hp'
        cases hp'
        refine .inr ⟨b, o, hp, fun i x hx => ?_⟩
        obtain ⟨c0, c1, c2, c3⟩ := hr i x hx
        exact ⟨hs _ _ _ hS c0, hs _ _ _ hS c1, hs _ _ _ hS c2, hs _ _ _ hS c3⟩
theorem InL.keep {n₀ : Nat} {w w' : World} (hs : ∀ b o c, b < n₀ → w.cell? ⟨b, o, none⟩ = some c → w'.cell? ⟨b, o, none⟩ = some c) : ∀ {l : List Tm}, InL w l → OnL (· < n₀) l → InL w' l
  | [], _, _ => by rw [InL]; trivial
  | _ :: _, h, hO => by
    rw [InL] at h ⊢
    rw [OnL] at hO
    exact ⟨In.keep hs h.1 hO.1, InL.keep hs h.2 hO.2⟩
end
end Tm

theorem Kv.low {O n₀ : Nat} {W W' : World} (h : Kv O W W') (hO : n₀ ≤ O) (hf : FitO O n₀ W) : ∀ b o c, b < n₀ → W.cell? ⟨b, o, none⟩ = some c → W'.cell? ⟨b, o, none⟩ = some c := by
  obtain ⟨v, h1, h2⟩ := hf
  obtain ⟨v', _, _, h5⟩ := h.2 v h1 fun b e => (h2 b e).2
  intro b o c hb hc
  exact h5 b o c hc (by omega) fun e => by have := (h2 b e).1; omega

/-- A call's own block stands. -/
theorem Kv.mine {O n₀ B : Nat} {W0 W W' : World} (h : Kv O W W') (hB : W0.heap.size ≤ B) (hf : FitO O n₀ W0) (hk : Kv O W0 W) {o : Nat} {c : Value} (hc : W.cell? ⟨B, o, none⟩ = some c) (hown : ∀ v, W.cell? ⟨O, 0, none⟩ = some v → v.ownBlock ≠ some B) : W'.cell? ⟨B, o, none⟩ = some c := by
  have hOl : O < W0.heap.size := by obtain ⟨v, hv, _⟩ := hf; exact World.block_lt_of_cell? _ _ hv
  obtain ⟨v, h1, h2⟩ := hf
  obtain ⟨v1, h3, h4, _⟩ := hk.2 v h1 fun b e => (h2 b e).2
  obtain ⟨v2, _, _, h7⟩ := h.2 v1 h3 fun b e => (h4 b e).1
  exact h7 B o c hc (by omega) (hown v1 h3)

abbrev RoundWord (O l N : Nat) (J Jx : List Pt → World → Prop) : Prop := ∀ (m : Nat) (pre : List Pt) (x : Pt) (W : World), J pre W → pre.length < N → YieldAt Fence.wide m Try.prog l #[x.1.val] W fun e W' =>
    (e = .returned (.bool true) ∧ J (pre ++ [x]) W' ∧ Kv O W W') ∨ (e = .returned (.bool false) ∧ Jx (pre ++ [x]) W')

set_option maxRecDepth 100000 in
set_option maxHeartbeats 2000000 in
theorem partsY_any (O l n₀ N : Nat) (J Jx : List Pt → World → Prop) (hJ : ∀ pre W o, J pre W → J pre (W.alloc o)) (hY : RoundWord O l N J Jx) (hO : n₀ ≤ O) (NN : Nat) :
    ∀ (t : Tm) (n : Nat) (xs pre : List Pt) (W : World), SizeOf.sizeOf t ≤ NN → t.In W → t.On (· < n₀) → n₀ ≤ W.heap.size → FitO O n₀ W → xs.map Subtype.val = t.pre → J pre W → pre.length + xs.length ≤ N →
      CallsIn Fence.wide n Try.prog 195 #[t.val, .func (.yield l) #[] #[]] W fun e W' =>
        (e = .returned (.bool true) ∧ J (pre ++ xs) W' ∧ Kv O W W') ∨ (e = .returned (.bool false) ∧ ∃ q, q <+: xs ∧ Jx (pre ++ q) W') := by
  induction NN with
  | zero => intro t n xs pre W h; cases t; simp at h
  | succ NN ih =>
    intro t n xs pre W hN hin hon hn₀ hfit hxs hj hlen
    rw [Tm.pre_eq] at hxs
    match xs, hxs, hlen with
    | x :: ys, hxs, hlen =>
    rw [List.map_cons] at hxs
    injection hxs with hx1 hys
    obtain ⟨k, nn, s, p, c, ls⟩ := t
    have hsl := hin.sl
    rw [Tm.On] at hon
    simp only [Tm.l] at hys
    have hlc : ls.length ≤ c := hsl.1
    have hc : c ≤ 9223372036854775807 := hsl.2.1.2
    simp only [tm_val]
    have gA : Kv O W (W.alloc (.cells #[.int .i64 k, .int .i64 nn, .string s, .slice p ls.length c] 25)) := Kv.alloc O W _
    have hA := Blk4.new W (.int .i64 k) (.int .i64 nn) (.string s) (.slice p ls.length c)
    have hjA := hJ pre W (.cells #[.int .i64 k, .int .i64 nn, .string s, .slice p ls.length c] 25) hj
    obtain ⟨fn, tmps, assign, body, hy, hR⟩ := hY (n - 1) pre x _ hjA (by simp at hlen; omega)
    rw [hx1, tm_val] at hy
    refine callsIn_of_wp Try.func195 rfl trivial ?_ rfl
    simp only [Try.ntmps195, List.size_toArray, List.length_cons, List.length_nil, Nat.reduceAdd, Nat.reduceSub, Array.replicate_succ, Array.replicate_zero, List.push_toArray, List.append_toArray, List.nil_append, List.cons_append]
    have hown0 : ∀ v, (W.alloc (.cells #[.int .i64 k, .int .i64 nn, .string s, .slice p ls.length c] 25)).cell? ⟨O, 0, none⟩ = some v → v.ownBlock ≠ some W.heap.size := by
      obtain ⟨v0, h1, h2⟩ := hfit
      intro v hv e
      rw [World.cell?_alloc_past _ _ _ (by simpa using World.block_lt_of_cell? _ _ h1), h1] at hv
      cases hv
      have := (h2 _ e).2
      omega
    gi_wp2
    refine ⟨fun h => (by cases h), hR.mono ?_⟩
    rintro e W3 (⟨rfl, hJ3, hk3⟩ | ⟨rfl, hJx3⟩)
    · have c3 := Kv.mine hk3 (Nat.le_refl _) hfit gA hA.parts.1.2.2.2 hown0
      have g3 : Kv O W W3 := gA.trans hk3
      have Hys := Lib.hid hys
      clear hy hR hA hjA hown0
      gi_wp2
      gi_loopw [14] (fun i wr => ∃ kk : Nat, kk ≤ ls.length ∧ i = .int .i64 kk ∧ Hid (∃ done rest : List Pt, ys = done ++ rest ∧ rest.map Subtype.val = Tm.preL (ls.drop kk) ∧ J (pre ++ x :: done) wr) ∧ Kv O W wr)
        (fun i _ => ls.length - (intOf i).toNat)
      case atStart => exact ⟨0, Nat.zero_le _, rfl, ⟨[], ys, rfl, by rw [List.drop_zero]; exact Hys.out, by simpa using hJ3⟩, g3⟩
      case round =>
        obtain ⟨kk, hkk, rfl, hdr, gr⟩ := hrel
        by_cases hlt : kk < ls.length
        · have hinr := Tm.In.keep (gr.low hO hfit) hin (by rw [Tm.On]; exact hon)
          obtain ⟨b, o, rfl⟩ := hsl.ptr (by omega)
          obtain ⟨⟨c0, c1, c2, c3'⟩, hxi, _⟩ := hinr.sl.elem kk hlt
          have hmem : ls[kk] ∈ ls := List.getElem_mem hlt
          have hon1 := Tm.OnL_mem hon.2 _ hmem
          have hsz1 := Tm.sizeOf_mem hmem k nn s (some ⟨b, o, none⟩) c
          obtain ⟨done, rest, rfl, hrest, hJr⟩ := hdr.out
          rw [List.drop_eq_getElem_cons hlt, Tm.preL, List.map_eq_append_iff] at hrest
          obtain ⟨aa, bb, rfl, haa, hbb⟩ := hrest
          have hlenw := gr.1
          generalize ls[kk] = z at *
          have hcall := Lib.hid (ih z (n - 1) aa (pre ++ x :: done) (wr.alloc (.cells #[.int .i64 z.k, .int .i64 z.n, .string z.s, .slice z.p z.l.length z.c] 25)) (by omega)
            (Tm.In_below (by go_grown) hxi) hon1 (by simp; omega) ((gr.trans (Kv.alloc O wr _)).fit hn₀ hfit) haa (hJ _ _ _ hJr) (by simp at hlen ⊢; omega))
          have gE := Kv.alloc O wr (.cells #[.int .i64 z.k, .int .i64 z.n, .string z.s, .slice z.p z.l.length z.c] 25)
          have Hzv := Lib.hid (show z.val = .agg #[.int .i64 z.k, .int .i64 z.n, .string z.s, .slice z.p z.l.length z.c] from rfl)
          gi_wp2_with (refine ⟨trivial, fun h => (by cases h), ?_⟩; gi_at_call 195; rewrite [← Hzv.out]; refine hcall.out.mono ?_; rintro e W5 (⟨rfl, hJ5, hk5⟩ | ⟨rfl, q, hq, hx5⟩))
          · go_roundw
            case rel => exact ⟨kk + 1, by omega, by go_num, ⟨done ++ aa, bb, by simp, hbb, by simpa using hJ5⟩, (gr.trans gE).trans hk5⟩
            case measure => simp [intOf]; omega
          · go_ret
            obtain ⟨r, rfl⟩ := hq
            exact .inr ⟨rfl, x :: (done ++ q), ⟨r ++ bb, by simp⟩, by simpa using hx5⟩
        · obtain rfl : kk = ls.length := by omega
          obtain ⟨done, rest, rfl, hrest, hJr⟩ := hdr.out
          rw [List.drop_length, Tm.preL] at hrest
          obtain rfl : rest = [] := List.map_eq_nil_iff.1 hrest
          gi_wp2
          go_ret
          exact .inl ⟨rfl, by simpa using hJr, gr⟩
    · gi_wp2
      go_ret
      exact .inr ⟨rfl, [x], ⟨ys, rfl⟩, hJx3⟩
end Go.Proofs.Ytcblmkhhhibddaa

namespace Go.Proofs.Ytcblmkhhhibddaa
open Go.RowKit Go.Shelf Go.Maps

attribute [local go_sem] Oper.semAt_some

theorem round_any {m m' : Nat} {P : Program} {l : Nat} {f : FuncId} {tmps : Array Value} {assign body : Code} {w : World} {R : Ending → World → Prop}
    (h : RoundIn Fence.wide m P l f tmps assign body w R) : RoundIn Fence.wide m' P l f tmps assign body w R := ⟨h.1, fun c cs _ => h.2 c cs (fun d h => by cases h)⟩
theorem yield_any {m m' : Nat} {P : Program} {l : Nat} {args : Array Value} {W : World} {R : Ending → World → Prop} (h : YieldAt Fence.wide m P l args W R) : YieldAt Fence.wide m' P l args W R := by
  obtain ⟨fn, tmps, assign, body, hy, hR⟩ := h
  exact ⟨fn, tmps, assign, body, hy, round_any hR⟩

theorem FitO.below {O n₀ : Nat} {w W : World} (h : FitO O n₀ w) (hg : Gr w W) : FitO O n₀ W := by
  obtain ⟨v, h1, h2⟩ := h
  exact ⟨v, hg.at h1, fun b e => ⟨(h2 b e).1, Nat.lt_of_lt_of_le (h2 b e).2 hg.size⟩⟩

set_option maxHeartbeats 1000000 in
/-- term.Parts$1: an iterator over the parts. -/
theorem parts_stops (n O n₀ Bt : Nat) (t : Tm) (xs : List Pt) (w : World) (hin : t.In w) (hon : t.On (· < n₀)) (hn₀ : n₀ ≤ w.heap.size) (hO : n₀ ≤ O) (hfit : FitO O n₀ w) (hxs : xs.map Subtype.val = t.pre)
    (hB : Blk4 w Bt (.int .i64 t.k) (.int .i64 t.n) (.string t.s) (.slice t.p t.l.length t.c)) :
    SeqStopsK Fence.wide n Try.prog 194 #[.pointer (some ⟨Bt, 0, none⟩)] (fun x : Pt => #[.agg #[.int .i64 x.1.k, .int .i64 x.1.n, .string x.1.s, .slice x.1.p x.1.l.length x.1.c]]) (Kv O) (fun ys => ys = xs) (fun pre => pre <+: xs) xs.length w := by
  intro l J Jx W hW hJ _ hY h0
  have hW' : Gr w W := hW
  obtain ⟨⟨b0, b1, b2, b3⟩, _, _⟩ := (hB.gr hW').parts
  have hp := Lib.hid (partsY_any O l n₀ xs.length J Jx (fun pre W o h => hJ pre W _ none h (World.grownBy_alloc W o none) (fun r e => by cases e)) (fun m pre x W hj hl => yield_any (hY pre x W hj hl)) hO _ t (n - 1) xs [] W (Nat.le_refl _) (Tm.In_below hW' hin) hon (Nat.le_trans hn₀ hW'.size) (hfit.below hW') hxs h0 (by simp))
  have Hv := Lib.hid (show t.val = .agg #[.int .i64 t.k, .int .i64 t.n, .string t.s, .slice t.p t.l.length t.c] from rfl)
  refine callsIn_of_wp Try.func194 rfl trivial ?_ rfl
  simp only [Try.ntmps194, List.size_toArray, List.length_cons, List.length_nil, Nat.reduceAdd, Nat.reduceSub, Array.replicate_succ, Array.replicate_zero, List.push_toArray, List.append_toArray, List.nil_append, List.cons_append]
  gi_wp2_with (refine ⟨trivial, fun h => (by cases h), ?_⟩; gi_at_call 195; rewrite [← Hv.out]; refine hp.out.mono ?_; rintro e W1 (⟨rfl, hJ1, _⟩ | ⟨rfl, q, hq, hx⟩))
  · go_end0
    exact ⟨⟨_, rfl⟩, .inl ⟨_, rfl, by simpa using hJ1⟩⟩
  · go_end0
    exact ⟨⟨_, rfl⟩, .inr ⟨q, hq, by simpa using hx⟩⟩

set_option maxHeartbeats 1000000 in
/-- term.Parts. -/
theorem parts_calls (k nn : Int) (s : ByteArray) (p : Option Addr) (len c : Nat) (w : World) : Calls Try.prog 151 #[.agg #[.int .i64 k, .int .i64 nn, .string s, .slice p len c]] w fun e w' =>
    e = .returned (.func (.func 194) #[] #[.pointer (some ⟨w.heap.size, 0, none⟩)]) ∧ w' = w.alloc (.cells #[.int .i64 k, .int .i64 nn, .string s, .slice p len c] 25) := by
  go_enter Try.func151, Try.ntmps151
  go_wp2_with fail
  go_ret
  exact ⟨rfl, rfl⟩

def kNum (n : Int) : Value := .int .i64 n
theorem kNum_inj {x y : Int} (h : kNum y = kNum x) : y = x := by simpa [kNum] using h
def seenF (V : List Int) (n : Int) : Option Value := if n ∈ V then some (.int .i64 1) else none

/-- The state of the loop: the list's variable, the list, the map's variable, the map. -/
def VSt (n₀ O S M : Nat) (V : List Int) (W : World) : Prop :=
  ∃ v, W.heap[O]? = some (.cells #[v] 42) ∧ IntsOwn W n₀ v V ∧ W.heap[S]? = some (.cells #[.map (some M)] 192) ∧ GMap 2 kNum W M (seenF V)

theorem IntsOwn.sameAt {w w' : World} {B : Nat} {v : Value} {L : List Int} (h : IntsOwn w B v L) (hs : ∀ g, v.ownBlock = some g → w'.heap[g]? = w.heap[g]?) : IntsOwn w' B v L := by
  refine ⟨h.1, ?_⟩
  rcases h.2 with hn | ⟨g, cap, cur, rfl, hb, hgg, rest⟩
  · exact .inl hn
  · exact .inr ⟨g, cap, cur, rfl, hb, (hs g (by simp [Value.ownBlock])).trans hgg, rest⟩
/-- The row of a list is cells. -/
theorem IntsOwn.cells {w : World} {B : Nat} {v : Value} {L : List Int} (h : IntsOwn w B v L) {g : Nat} (hg : v.ownBlock = some g) : ∃ cur, w.heap[g]? = some (.cells cur 2) ∧ B ≤ g := by
  rcases h.2 with ⟨rfl, _⟩ | ⟨g', cap, cur, rfl, hb, hgg, _⟩
  · simp [Value.ownBlock] at hg
  · obtain rfl : g' = g := by simpa [Value.ownBlock] using hg
    exact ⟨cur, hgg, hb⟩
theorem IntsOwn.fit {w : World} {B O : Nat} {v : Value} {L : List Int} (h : IntsOwn w B v L) (hO : w.cell? ⟨O, 0, none⟩ = some v) : FitO O B w :=
  ⟨v, hO, fun b e => by obtain ⟨cur, h1, h2⟩ := h.cells e; exact ⟨h2, (Array.getElem?_eq_some_iff.1 h1).1⟩⟩

theorem VSt.same {n₀ O S M : Nat} {V : List Int} {W W' : World} (h : VSt n₀ O S M V W) (hs : ∀ b, (b = M ∨ ∃ cur t, W.heap[b]? = some (.cells cur t)) → W'.heap[b]? = W.heap[b]?) : VSt n₀ O S M V W' := by
  obtain ⟨v, h1, h2, h3, h4⟩ := h
  exact ⟨v, (hs O (.inr ⟨_, _, h1⟩)).trans h1, h2.sameAt (fun g hg => by obtain ⟨cur, h5, _⟩ := h2.cells hg; exact hs g (.inr ⟨_, _, h5⟩)), (hs S (.inr ⟨_, _, h3⟩)).trans h3, h4.same (hs M (.inl rfl))⟩
theorem VSt.gr {n₀ O S M : Nat} {V : List Int} {W W' : World} (h : VSt n₀ O S M V W) (hg : Gr W W') : VSt n₀ O S M V W' := by
  have hM : M < W.heap.size := h.choose_spec.2.2.2.lt
  refine h.same fun b hb => hg.block b ?_
  rcases hb with rfl | ⟨cur, t, hb⟩
  · exact hM
  · exact (Array.getElem?_eq_some_iff.1 hb).1
theorem VSt.lts {n₀ O S M : Nat} {V : List Int} {W : World} (h : VSt n₀ O S M V W) : O < W.heap.size ∧ S < W.heap.size ∧ M < W.heap.size := by
  obtain ⟨v, h1, h2, h3, h4⟩ := h
  exact ⟨(Array.getElem?_eq_some_iff.1 h1).1, (Array.getElem?_eq_some_iff.1 h3).1, h4.lt⟩
theorem VSt.fit {n₀ O S M : Nat} {V : List Int} {W : World} (h : VSt n₀ O S M V W) : FitO O n₀ W := by
  obtain ⟨v, h1, h2, h3, h4⟩ := h
  have := cell_of_row W O 0 _ _ _ h1
  exact h2.fit (by simpa using this)

/-- Marks of loops over iterators, each of which is to be shut. -/
def Marks (n₀ B : Nat) (W : World) (Ds : List Nat) : Prop := Ds.Nodup ∧ ∀ D ∈ Ds, n₀ ≤ D ∧ D < B ∧ W.heap[D]? = some (.deferred (some []))
abbrev marked (Ds : List Nat) : List Deferred := Ds.map fun D => { target := .collected D, args := #[] }

theorem own_vst (n₀ O S M B : Nat) (V : List Pt → List Int) (hM : M < B) : OwnFrom B (fun pre W => VSt n₀ O S M (V pre) W) := by
  intro pre A W row h hg hr
  have hM' : M < A.heap.size := h.lts.2.2
  refine h.same fun b hb => ?_
  rcases hb with rfl | ⟨cur, t, hb⟩
  · exact hg.block _ hM' fun e => by have := (hr _ e.symm).1; omega
  · refine hg.block b (Array.getElem?_eq_some_iff.1 hb).1 fun e => ?_
    obtain ⟨_, o, ho, hc⟩ := hr b e.symm
    rw [hb] at ho
    cases ho
    cases hc
theorem own_marks (n₀ B : Nat) (Ds : List Nat) : OwnFrom B (fun (_ : List Pt) W => Marks n₀ B W Ds) := by
  intro pre A W row h hg hr
  refine ⟨h.1, fun D hD => ?_⟩
  obtain ⟨h1, h2, h3⟩ := h.2 D hD
  exact ⟨h1, h2, (hg.block D (Array.getElem?_eq_some_iff.1 h3).1 fun e => by have := (hr _ e.symm).1; omega).trans h3⟩

/-- A function whose loops over iterators have left marks behind goes its way out. -/
theorem leaves_marks {F : Fence} {n : Nat} {P : Program} {fn : Func} {tmps : Array Value} {R : Ending → World → Prop} : ∀ (Ds : List Nat) (W : World), Ds.Nodup → (∀ D ∈ Ds, W.heap[D]? = some (.deferred (some []))) →
    (∀ W', Kp (· ∈ Ds) W W' → LeavesIn F n P fn tmps R [] .returning W') → LeavesInM F n P fn tmps R (marked Ds) .returning W
  | [], W, _, _, h => h W (Kp.refl _ _)
  | D :: Ds, W, hn, hd, h => by
    rw [List.nodup_cons] at hn
    have hD := hd D (List.mem_cons_self ..)
    have hK : Kp (· ∈ D :: Ds) W (W.putObj D (.deferred none)) := ⟨rfl, rfl, rfl, by simp, fun k _ hc => World.putObj_heap_other fun e => hc (by rw [e]; exact List.mem_cons_self ..)⟩
    refine ⟨by simp, .inl ⟨D, _, rfl, run_takeDeferred hD, leaves_marks Ds _ hn.2 (fun D' hD' => ?_) fun W' hW' => h W' (hK.trans (hW'.mono fun b hb => List.mem_cons_of_mem _ hb))⟩⟩
    have hne : D' ≠ D := fun e => hn.1 (e ▸ hD')
    exact (World.putObj_heap_other hne).trans (hd D' (List.mem_cons_of_mem _ hD'))

/-- One round that has seen a new variable. -/
theorem see_step {n₀ O S M : Nat} {V : List Int} {W w' w1 : World} {tmp : Obj} {v v' : Value} {n : Int} (hO : W.heap[O]? = some (.cells #[v] 42)) (hr : IntsOwn W n₀ v V) (hS : W.heap[S]? = some (.cells #[.map (some M)] 192))
    (hM : GMap 2 kNum W M (seenF V)) (hu : GMap 2 kNum w' M (seenF (V ++ [n]))) (hg : W.grownBy w' (some M)) (hn₀ : n₀ ≤ W.heap.size) (hO' : n₀ ≤ O) (hMn : n₀ ≤ M)
    (h1 : IntsOwn w1 n₀ v' (V ++ [n])) (h2 : (w'.alloc tmp).grownBy w1 v.ownBlock) (h3 : v'.ownBlock = v.ownBlock ∨ v'.ownBlock = some (w'.alloc tmp).heap.size) :
    (w1.cell? ⟨O, 0, none⟩ = some v ∧ w1.frozen? ⟨O, 0, none⟩ = false) ∧ VSt n₀ O S M (V ++ [n]) (w1.setCell ⟨O, 0, none⟩ v') ∧ Below n₀ W (w1.setCell ⟨O, 0, none⟩ v') ∧ Kv O W (w1.setCell ⟨O, 0, none⟩ v') ∧
      (∀ B, M < B → KeepsFrom B W (w1.setCell ⟨O, 0, none⟩ v')) ∧ ∀ D : Nat, W.heap[D]? = some (Obj.deferred (some [])) → (w1.setCell ⟨O, 0, none⟩ v').heap[D]? = some (Obj.deferred (some [])) := by
  obtain ⟨E, cl, hMo, _⟩ := hM
  have hMo0 := hMo
  have cellsM : ∀ {b : Nat} {cur : Array Value} {t : TypeId}, W.heap[b]? = some (.cells cur t) → w'.heap[b]? = some (.cells cur t) := fun {b cur t} hb =>
    (hg.block b (Array.getElem?_eq_some_iff.1 hb).1 fun e => by cases e; rw [hMo] at hb; cases hb).trans hb
  have bO : Go.Boxed w' O 42 v := cellsM hO
  have bS : Go.Boxed w' S 192 (.map (some M)) := cellsM hS
  have hrow' : IntsOwn w' n₀ v V := hr.sameAt fun g hgv => by obtain ⟨cur, hc, _⟩ := hr.cells hgv; rw [cellsM hc, hc]
  have hszg := hg.size
  have hOl : O < W.heap.size := (Array.getElem?_eq_some_iff.1 hO).1
  obtain ⟨a1, a2, a3, a4, a5⟩ := bO.appended (by decide) hrow' (Nat.le_trans hn₀ hszg) hO' h1 h2
  have hs1 := h2.size
  have hs2 : w1.heap.size ≤ (w1.setCell ⟨O, 0, none⟩ v').heap.size := by simp
  have hMl : M < W.heap.size := (Array.getElem?_eq_some_iff.1 hMo).1
  have hMw' := hu.lt
  have hBel : Below n₀ W w' := (Below.refl n₀ W).grown hg hn₀ fun j e => by cases e; exact hMn
  have hOM : M ≠ O := by rintro rfl; rw [hO] at hMo; cases hMo
  have hSO : S ≠ O := by rintro rfl; rw [hO] at hS; have := hS; simp at this
  have hMv : v.ownBlock ≠ some M := fun e => by obtain ⟨cur, hc, _⟩ := hr.cells e; rw [hMo] at hc; cases hc
  obtain ⟨E', cl', hMo', hrest⟩ := hu
  have hMo2 : (w1.setCell ⟨O, 0, none⟩ v').heap[M]? = w'.heap[M]? := by
    rw [Below.heap_setCell _ _ _ _ hOM, h2.block M (by simp; omega) (Ne.symm hMv), Below.heap_alloc w' tmp M hMw']
  have hrowO : some O ≠ v.ownBlock := bO.not_row (by decide) hrow'
  refine ⟨⟨a1.cell, a1.frozen⟩, ⟨v', a2, a3, ?_, ⟨E', cl', hMo2.trans hMo', hrest⟩⟩, hBel.trans a5, ?_, fun B hB => (KeepsFrom.of_grownBy hg fun j e => by cases e; exact hB).trans (a4.from B), fun D hD => a4.same D _ ((hg.block D (Array.getElem?_eq_some_iff.1 hD).1 fun e => by cases e; rw [hMo0] at hD; cases hD).trans hD) rfl⟩
  · have b1 : Go.Boxed w1 S 192 (.map (some M)) := (bS.alloc tmp).kept h2 (bS.not_row (by decide) hrow')
    exact b1.other hSO v'
  · refine ⟨by simp at hs1; omega, fun u hu hub => ?_⟩
    have huv : u = v := by
      have := cell_of_row W O 0 _ _ _ hO
      simp only [List.getElem?_toArray, List.getElem?_cons_zero] at this
      rw [this] at hu
      exact (Option.some.inj hu).symm
    subst huv
    refine ⟨v', a2.cell, fun b e => ?_, fun b o c hc hbO hbv => ?_⟩
    · have hbl : b < (w1.setCell ⟨O, 0, none⟩ v').heap.size := by
        obtain ⟨cur, hcur, _⟩ := IntsOwn.cells (w := w1.setCell ⟨O, 0, none⟩ v') (L := V ++ [n]) (B := n₀) a3 e
        exact (Array.getElem?_eq_some_iff.1 hcur).1
      refine ⟨hbl, ?_⟩
      rcases h3 with h3 | h3
      · exact .inl (h3 ▸ e)
      · rw [h3] at e
        cases e
        exact .inr (by simp; omega)
    · have hbl := World.block_lt_of_cell? _ _ hc
      simp only at hbl
      have hbM : b ≠ M := by
        rintro rfl
        unfold World.cell? at hc
        simp only [hMo0] at hc
        cases hc
      rw [cell_set_ne hbO, World.cell?_of_block (h2.block b (by simp; omega) (Ne.symm hbv)), World.cell?_alloc_past _ _ _ (show b < w'.heap.size by omega), World.cell?_of_block (hg.block b hbl fun e => hbM (by cases e; rfl))]
      exact hc
end Go.Proofs.Ytcblmkhhhibddaa
