/-
  What base.New makes.
  What is said of bases and views where nothing is taken out.
  A base and the document's base: what the one knows, the other knows (plain).
  Slices of numbers, and append of one number.
  Small things that serve both the program's base and the document's.
  (*base.Base).All, Known, Get in general.
  (*base.Base).Get in general.
-/
import Derived.Test.YtjdoflfdlhpbmaaGreatBF10
import Derived.Test.YtjdoflfdlhpbmaaGreatBF12
import Derived.Test.YtjdoflfdlhpbmaaGreatBF04
import Derived.Test.YtjdoflfdlhpbmaaGreatBF16
import Derived.Test.YtjdoflfdlhpbmaaGreatBF13
import Derived.Test.YtjdoflfdlhpbmaaGreatBF07
import Derived.Test.YtjdoflfdlhpbmaaGreatBF02
import Derived.Lib.AppendZeros
import Derived.Deep.LoopGhost
import Derived.BigQuiet
import Derived.Deep.CutRange
import Derived.Deep.CutBlock
import Derived.Test.YtjdoflfdlhpbmaaGreatBF11
import Derived.Test.YtjdoflfdlhpbmaaGreatShelf
namespace Go.Proofs.YtjdoflfdlhpbmaaGreat
open Go.RowKit Go.Maps Go.Lib

theorem new_base (w : World) : NewBase (((w.alloc (.map #[] 0)).alloc (.map #[] 0)).alloc (.cells #[.int .i64 0, .slice none 0 0, .map (some w.heap.size), .map (some (w.heap.size + 1))] 57)) (w.heap.size + 1 + 1) w.heap.size (w.heap.size + 1) ∧ Gr w (((w.alloc (.map #[] 0)).alloc (.map #[] 0)).alloc (.cells #[.int .i64 0, .slice none 0 0, .map (some w.heap.size), .map (some (w.heap.size + 1))] 57)) := by
  have h1 : GMap 68 kPred (w.alloc (.map #[] 0)) w.heap.size fun _ => none := GMap.made _ _ _
  have h2 : GMap 3 kInt ((w.alloc (.map #[] 0)).alloc (.map #[] 0)) (w.alloc (.map #[] 0)).heap.size fun _ => none := GMap.made _ _ _
  have h3 := BlkT.new ((w.alloc (.map #[] 0)).alloc (.map #[] 0)) 57 #[.int .i64 0, .slice none 0 0, .map (some w.heap.size), .map (some (w.heap.size + 1))]
  rw [World.size_alloc] at h2
  rw [World.size_alloc, World.size_alloc] at h3
  exact ⟨⟨h3, h1.gr (by go_grown), h2.gr (by go_grown), by omega, by omega, by omega⟩, by go_grown⟩

end Go.Proofs.YtjdoflfdlhpbmaaGreat

namespace Go.Proofs.YtjdoflfdlhpbmaaGreat
open Go.RowKit Go.Maps Go.Lib

/-- What Remove makes of what a base knows. -/
structure Removed (st : BSt) (id : Int) (k : ByteArray × Int) (st' : BSt) : Prop where
  last : st'.last = st.last
  all : st'.all = st.all.filter fun x => !(x == id)
  here : st'.pr k = some (((st.pr k).getD []).filter fun y => !(y.i == id))
  pr : ∀ y, y ≠ k → st'.pr y = st.pr y
  its : st'.wh id = none
  wh : ∀ n, n ≠ id → st'.wh n = st.wh n
theorem Removed.exists (st : BSt) (id : Int) (k : ByteArray × Int) : ∃ st', Removed st id k st' := by
  classical
  exact ⟨⟨st.last, _, fun y => if y = k then some (((st.pr k).getD []).filter fun y => !(y.i == id)) else st.pr y, fun n => if n = id then none else st.wh n⟩,
    ⟨rfl, rfl, if_pos rfl, fun y hy => if_neg hy, if_pos rfl, fun n hn => if_neg hn⟩⟩

theorem HSl.elem {S : Nat → Prop} {w : World} {b o c : Nat} {L : List Hd} (h : HSl S w (some ⟨b, o, none⟩) c L) (k : Nat) (hk : k < L.length) : ∀ j v, (L[k].cells)[j]? = some v → w.cell? ⟨b, o + k * 9 + j, none⟩ = some v := by
  rcases h.row with rfl | ⟨b', o', hp, _, _, hr⟩
  · cases hk
  · cases hp; exact hr k _ (List.getElem?_eq_getElem hk)
def newSt : BSt := ⟨0, [], fun _ => none, fun _ => none⟩
theorem BaseG.new {S : Nat → Prop} {w : World} {B M1 M2 : Nat} (h : NewBase w B M1 M2) (hS : ∀ b, S b → ¬ Mut B M1 M2 (.slice none 0 0) b) : BaseG S w B M1 M2 (.slice none 0 0) newSt :=
  ⟨h.blk, World.ownsRow_nil _ _ _ _, ⟨_, h.m1, fun _ => rfl⟩, h.m2, (fun _ _ h => by cases h), (fun _ _ h => by cases h), (fun _ _ h => by cases h), (fun _ _ h => by cases h), by simp [newSt], h.n1, h.n2, h.n3, ⟨by simp [Value.ownBlock], by simp [Value.ownBlock], by simp [Value.ownBlock]⟩, hS⟩

/-- What is left when the first that is let through is taken. -/
def restOf : Option (HdT × List HdT) → List HdT
  | none => []
  | some x => x.2
/-- The heads go with the goal. -/
def eOk (g : T) (E : List HdT) : Prop := ∀ e ∈ E, g.l = [] ∨ (0 < g.l.length ∧ 0 < e.h.l.length)
theorem restOf_sub (g : T) : ∀ E : List HdT, ∀ e ∈ restOf (nextT g E), e ∈ E
  | [], e, h => by rw [nextT] at h; exact h
  | x :: xs, e, h => by
    rw [nextT] at h
    split at h
    · exact List.mem_cons_of_mem _ h
    · exact List.mem_cons_of_mem _ (restOf_sub g xs e h)
theorem eOk.rest {g : T} {E : List HdT} (h : eOk g E) : eOk g (restOf (nextT g E)) := fun e he => h e (restOf_sub g E e he)
theorem restOf_len (g : T) : ∀ E : List HdT, (restOf (nextT g E)).length ≤ E.length ∧ (∀ x r, nextT g E = some (x, r) → r.length < E.length)
  | [] => ⟨Nat.le_refl _, fun x r h => by rw [nextT] at h; cases h⟩
  | y :: ys => by
    rw [nextT]
    by_cases hy : letsT g y.h = true
    · rw [if_pos hy]
      refine ⟨by simp [restOf], fun x r h => ?_⟩
      cases h
      simp
    · rw [if_neg hy]
      obtain ⟨h1, h2⟩ := restOf_len g ys
      exact ⟨by simp; omega, fun x r h => by have := h2 x r h; simp; omega⟩
theorem eOk.tm {G : Tm} {L : List Hd} (h : eOk G.erase (L.map Hd.er)) : ∀ x ∈ L, G.l = [] ∨ (0 < G.l.length ∧ 0 < x.h.l.length) := by
  intro x hx
  have h1 := h x.er (List.mem_map.2 ⟨x, hx, rfl⟩)
  have h2 : x.er.h.l.length = x.h.l.length := by rw [show x.er.h = x.h.erase from rfl, erase_l, Tm.eraseL_length]
  have h3 : G.erase.l.length = G.l.length := by rw [erase_l, Tm.eraseL_length]
  rcases h1 with h1 | ⟨h1, h4⟩
  · exact .inl (List.eq_nil_of_length_eq_zero (by rw [← h3, h1]; rfl))
  · exact .inr ⟨by omega, by omega⟩
theorem hds_eOk {G : Tm} {E : List HdT} (h : ∀ x ∈ E, (x.h.l.length : Int) = (G.l.length : Int)) : eOk G.erase E := by
  intro e he
  have h1 := h e he
  have h3 : G.erase.l.length = G.l.length := by rw [erase_l, Tm.eraseL_length]
  by_cases h0 : G.l.length = 0
  · exact .inl (List.eq_nil_of_length_eq_zero (by omega))
  · exact .inr ⟨by omega, by omega⟩

theorem tm_kp {w w' : World} {t : Tm} {C S : Nat → Prop} (hi : t.In w) (ho : t.On S) (hS : ∀ b, S b → ¬ C b) (hk : Kp C w w') : t.In w' := in_after' hi ho fun b hb hl _ => World.cell?_of_block (hk.block b hl (hS b hb))
theorem make_cases (t : T) : (∃ h b, makeAns t = ((h, b), 0) ∧ h.formed = true ∧ b.formed = true ∧ plainErr reserved h b = 0) ∨ ∃ E, makeAns t = ((zeroT, zeroT), E) ∧ E ≠ 0 := by
  cases hf : t.formed with
  | false => exact .inr ⟨2, makeAns_bad hf, by decide⟩
  | true =>
    cases hm : T.make reserved t with
    | none => exact .inr ⟨7, makeAns_none hf hm, by decide⟩
    | some x =>
      obtain ⟨h, b⟩ := x
      have hff := make_formed hf hm
      exact .inl ⟨h, b, makeAns_some hf hm, hff.1, hff.2, plainErr_made res_neck hf hm same_refl⟩

end Go.Proofs.YtjdoflfdlhpbmaaGreat

namespace Go.Proofs.YtjdoflfdlhpbmaaGreat
open Go.RowKit Go.Maps Go.Lib

/-- A clause that ever was. -/
structure HrT where
  i : Int
  h : T
  b : T
  t : Bool
def HrT.d (x : HrT) : HdT := ⟨x.i, x.h, x.b⟩
/-- The predicate of a head. -/
def keyT (h : T) : ByteArray × Int := (⟨h.s.toArray⟩, (h.l.length : Int))
theorem keyT_tm (h : Tm) : keyT h.erase = (h.s, (h.l.length : Int)) := by
  obtain ⟨k, n, s, p, c, l⟩ := h
  rw [Tm.erase]
  show (ByteArray.mk s.toList.toArray, ((Tm.eraseL l).length : Int)) = (s, (l.length : Int))
  rw [Tm.eraseL_length]
  congr 1
  exact eq_of_toList (by rw [ByteArray.toList_mk])
def HrT.of (k : ByteArray × Int) (x : HrT) : Bool := x.t && decide (keyT x.h = k)
def anyOf (k : ByteArray × Int) (R : List HrT) : Bool := R.any fun x => decide (keyT x.h = k)
/-- The two know the same. -/
structure Agree (st : BSt) (R : List HrT) : Prop where
  last : st.last = R.length
  all : st.all = (R.filter (·.t)).map (·.i)
  pr : ∀ k, st.pr k = if anyOf k R = true then some ((R.filter (HrT.of k)).map HrT.d) else none
  wh : ∀ n k, st.wh n = some k ↔ ∃ x ∈ R, x.i = n ∧ x.t = true ∧ keyT x.h = k
  ids : ∀ x ∈ R, 1 ≤ x.i ∧ x.i ≤ R.length
  nd : (R.map (·.i)).Nodup
theorem Agree.new : Agree newSt [] :=
  ⟨rfl, rfl, fun _ => rfl, fun n k => ⟨fun h => (by cases h), fun ⟨x, h, _⟩ => (by cases h)⟩, fun x h => (by cases h), by simp⟩
theorem nodup_uniq : ∀ R : List HrT, (R.map (·.i)).Nodup → ∀ x ∈ R, ∀ y ∈ R, x.i = y.i → x = y
  | [], _, x, hx, _, _, _ => by cases hx
  | z :: zs, h, x, hx, y, hy, e => by
    rw [List.map_cons, List.nodup_cons] at h
    rcases List.mem_cons.1 hx with hx1 | hx1 <;> rcases List.mem_cons.1 hy with hy1 | hy1
    · rw [hx1, hy1]
    · exact absurd (List.mem_map.2 ⟨y, hy1, by rw [← e, hx1]⟩) h.1
    · exact absurd (List.mem_map.2 ⟨x, hx1, by rw [e, hy1]⟩) h.1
    · exact nodup_uniq zs h.2 x hx1 y hy1 e
theorem Agree.uniq {st : BSt} {R : List HrT} (h : Agree st R) {x y : HrT} (hx : x ∈ R) (hy : y ∈ R) (he : x.i = y.i) : x = y := nodup_uniq R h.nd x hx y hy he
theorem Agree.add {st st' : BSt} {R : List HrT} (h : Agree st R) {h0 b0 : T} {first : Bool} (ha : Added st (keyT h0) first h0 b0 st') :
    Agree st' (if first then ⟨(R.length : Int) + 1, h0, b0, true⟩ :: R else R ++ [⟨(R.length : Int) + 1, h0, b0, true⟩]) := by
  have hL := h.last
  refine ⟨?_, ?_, fun k => ?_, fun n k => ?_, fun x hx => ?_, ?_⟩
  · rw [ha.last, hL]; cases first <;> simp
  · rw [ha.all, h.all, hL]; cases first <;> simp
  · by_cases hk : k = keyT h0
    · subst hk
      rw [ha.here, h.pr, hL]
      by_cases hany : anyOf (keyT h0) R = true
      · rw [if_pos hany]
        cases first
        · simp [anyOf, HrT.of, HrT.d]
        · simp [anyOf, HrT.of, HrT.d]
      · rw [if_neg hany]
        have hnil : R.filter (HrT.of (keyT h0)) = [] := by
          rw [List.filter_eq_nil_iff]
          intro x hx hof
          rw [HrT.of, Bool.and_eq_true] at hof
          exact hany (List.any_eq_true.2 ⟨x, hx, hof.2⟩)
        cases first
        · simp [anyOf, hnil, HrT.of, HrT.d]
        · simp [anyOf, hnil, HrT.of, HrT.d]
    · rw [ha.pr k hk, h.pr]
      have hne : decide (keyT h0 = k) = false := by simp [Ne.symm hk]
      have hne' : ¬ keyT h0 = k := Ne.symm hk
      cases first
      · simp [anyOf, HrT.of, hne']
      · simp [anyOf, HrT.of, hne']
  · have hmem : (∃ x ∈ (if first = true then (⟨(R.length : Int) + 1, h0, b0, true⟩ : HrT) :: R else R ++ [⟨(R.length : Int) + 1, h0, b0, true⟩]), x.i = n ∧ x.t = true ∧ keyT x.h = k) ↔ ((R.length : Int) + 1 = n ∧ keyT h0 = k) ∨ ∃ x ∈ R, x.i = n ∧ x.t = true ∧ keyT x.h = k := by
      cases first
      · simp only [Bool.false_eq_true, if_false, List.mem_append, List.mem_singleton]
        constructor
        · rintro ⟨x, hx | rfl, h1⟩
          · exact .inr ⟨x, hx, h1⟩
          · exact .inl ⟨h1.1, h1.2.2⟩
        · rintro (⟨h1, h2⟩ | ⟨x, hx, h1⟩)
          · exact ⟨_, .inr rfl, h1, rfl, h2⟩
          · exact ⟨x, .inl hx, h1⟩
      · simp only [if_true, List.mem_cons]
        constructor
        · rintro ⟨x, rfl | hx, h1⟩
          · exact .inl ⟨h1.1, h1.2.2⟩
          · exact .inr ⟨x, hx, h1⟩
        · rintro (⟨h1, h2⟩ | ⟨x, hx, h1⟩)
          · exact ⟨_, .inl rfl, h1, rfl, h2⟩
          · exact ⟨x, .inr hx, h1⟩
    rw [hmem]
    by_cases hn : n = st.last + 1
    · subst hn
      rw [ha.its]
      constructor
      · intro e; cases e; exact .inl ⟨by rw [hL], rfl⟩
      · rintro (⟨_, rfl⟩ | ⟨x, hx, h1, _⟩)
        · rfl
        · have := (h.ids x hx).2; omega
    · rw [ha.wh n hn, h.wh]
      constructor
      · exact .inr
      · rintro (⟨h1, _⟩ | h1)
        · omega
        · exact h1
  · have hlen : (if first = true then (⟨(R.length : Int) + 1, h0, b0, true⟩ : HrT) :: R else R ++ [⟨(R.length : Int) + 1, h0, b0, true⟩]).length = R.length + 1 := by cases first <;> simp
    rw [hlen]
    have hx' : x = ⟨(R.length : Int) + 1, h0, b0, true⟩ ∨ x ∈ R := by
      cases first
      · simp only [Bool.false_eq_true, if_false, List.mem_append, List.mem_singleton] at hx; exact hx.symm
      · simp only [if_true, List.mem_cons] at hx; exact hx
    rcases hx' with rfl | hx
    · simp only; omega
    · have := h.ids x hx; omega
  · have hnot : ((R.length : Int) + 1) ∉ R.map (·.i) := by
      intro hm
      obtain ⟨x, hx, he⟩ := List.mem_map.1 hm
      have := (h.ids x hx).2
      omega
    cases first
    · simp only [Bool.false_eq_true, if_false, List.map_append, List.map_cons, List.map_nil]
      rw [List.nodup_append]
      refine ⟨h.nd, by simp, ?_⟩
      intro a ha' b hb e
      simp only [List.mem_singleton] at hb
      subst hb
      subst e
      exact hnot ha'
    · simp only [if_true, List.map_cons]
      exact List.nodup_cons.2 ⟨hnot, h.nd⟩
/-- What is struck. -/
def HrT.off (id : Int) (x : HrT) : HrT := if x.i = id then ⟨x.i, x.h, x.b, false⟩ else x
/-- What a view tells next is the first of those that are let through. -/
theorem nextT_filter (g : T) : ∀ E : List HdT, (E.filter fun y => letsT g y.h) = match nextT g E with
    | none => []
    | some (x, r) => x :: r.filter fun y => letsT g y.h
  | [] => rfl
  | x :: xs => by
    rw [nextT, List.filter_cons]
    cases h : letsT g x.h
    · simpa using nextT_filter g xs
    · simp
end Go.Proofs.YtjdoflfdlhpbmaaGreat

namespace Go.Proofs.YtjdoflfdlhpbmaaGreat
open Go.RowKit

/-- A slice of numbers. -/
def IntSl (w : World) (p : Option Addr) (c : Nat) (L : List Int) : Prop :=
  L.length ≤ c ∧ c ≤ 9223372036854775807 ∧ (∀ n ∈ L, In64 n) ∧ (L = [] ∨ ∃ b o, p = some ⟨b, o, none⟩ ∧ b < w.heap.size ∧ ∀ i n, L[i]? = some n → w.cell? ⟨b, o + i, none⟩ = some (.int .i64 n))
theorem IntSl.mono {w w' : World} {p : Option Addr} {c : Nat} {L : List Int} (h : IntSl w p c L) (hg : Gr w w') : IntSl w' p c L := by
  obtain ⟨h1, h2, h3, h4⟩ := h
  refine ⟨h1, h2, h3, h4.imp id ?_⟩
  rintro ⟨b, o, hp, hb, hr⟩
  exact ⟨b, o, hp, Nat.lt_of_lt_of_le hb hg.size, fun i n hn => hg.at (hr i n hn)⟩
theorem IntSl.ptr {w : World} {p : Option Addr} {c : Nat} {L : List Int} (h : IntSl w p c L) (hl : 0 < L.length) : ∃ b o, p = some ⟨b, o, none⟩ ∧ b < w.heap.size ∧ ∀ i n, L[i]? = some n → w.cell? ⟨b, o + i, none⟩ = some (.int .i64 n) := by
  rcases h.2.2.2 with rfl | h4
  · simp at hl
  · exact h4

/-- The slice v of the call's own (blocks from B on) holds the numbers. -/
def IntsOwn (w : World) (B : Nat) (v : Value) (L : List Int) : Prop := w.ownsRow B 2 1 v L.length (L.map (Value.int .i64))
theorem IntsOwn.nil (w : World) (B : Nat) : IntsOwn w B (.slice none 0 0) [] := World.ownsRow_nil w B _ 1
theorem IntsOwn.gr {w w' : World} {B : Nat} {v : Value} {L : List Int} (h : IntsOwn w B v L) (hg : Gr w w') : IntsOwn w' B v L := ownsRow_gr h hg
theorem IntsOwn.form {w : World} {B : Nat} {v : Value} {L : List Int} (h : IntsOwn w B v L) : ∃ p c, v = .slice p L.length c := by
  rcases h.2 with ⟨rfl, h0⟩ | ⟨g, cap, cur, rfl, _⟩
  · exact ⟨none, 0, by rw [h0]⟩
  · exact ⟨_, _, rfl⟩
theorem IntsOwn.sl {w : World} {B : Nat} {p : Option Addr} {n c : Nat} {L : List Int} (h : IntsOwn w B (.slice p n c) L) (hL : ∀ n ∈ L, In64 n) : n = L.length ∧ IntSl w p c L := by
  rcases h.2 with ⟨h0, h1⟩ | ⟨g, cap, cur, h0, hbg, hg, hnc, hcm, hcs, htake⟩
  · cases h0
    have hn : L = [] := List.eq_nil_of_length_eq_zero h1
    subst hn
    exact ⟨rfl, Nat.le_refl _, by omega, hL, .inl rfl⟩
  · cases h0
    simp only [maxLen] at hcm
    refine ⟨rfl, hnc, by omega, hL, .inr ⟨g, 0, rfl, (Array.getElem?_eq_some_iff.1 hg).1, fun i n hn => ?_⟩⟩
    have hi : i < L.length := (List.getElem?_eq_some_iff.1 hn).1
    rw [Nat.zero_add, World.ownsRow.cellAt h i (by omega), List.getElem?_map, hn]
    rfl

theorem Kp.of_grown {C : Nat → Prop} {w w' : World} {row : Option Nat} (h : w.grownBy w' row) (hC : ∀ r, row = some r → C r) : Kp C w w' :=
  ⟨h.os, h.tape, h.output, h.size, fun i hi hc => h.block i hi fun e => hc (hC i e.symm)⟩

theorem infoI64 : (Tryz.prog.info? 2).map (fun i => (i.zero, i.size, i.bytes)) = some (some (.int .i64 0), 1, 8) := by kernel_rfl

/-- append of one number. -/
theorem wpList_append_int {P : Program} {w : World} {ops : Array Oper} {rest : List Oper} {o : Oper} {a : Act} {Q : Exit → Act → World → Prop} (hgd : o.guard = none) (s y : Operand)
    (ho : o.op = .call { callee := .builtin .append, args := #[s, y], argTypes := #[41, 41] }) (hP : P = Tryz.prog)
    (B : Nat) (v : Value) (L : List Int) (x : Int) (b c : Nat) (hs : a.eval s = v) (hy : a.eval y = .slice (some ⟨b, 0, none⟩) 1 c) (h : IntsOwn w B v L) (hB : B ≤ w.heap.size) (hl : L.length ≤ 1099511627777)
    (c0 : w.cell? ⟨b, 0, none⟩ = some (.int .i64 x))
    (hK : ∀ v' w', IntsOwn w' B v' (L ++ [x]) → w.grownBy w' v.ownBlock → (v'.ownBlock = v.ownBlock ∨ v'.ownBlock = some w.heap.size) → wpList P ops Q rest (a.put o.dst v') w') : wpList P ops Q (o :: rest) a w := by
  subst hP
  refine wpList_append_one hgd s y 41 2 ho Tryz.underlying41 infoI64 rfl (by decide) B v L.length (L.map (Value.int .i64)) b c [.int .i64 x] hs hy h hB rfl (by
    intro j u hu
    match j, hu with
    | 0, hu => cases hu; exact c0
    | j + 1, hu => simp at hu) (by
    intro u hu
    simp only [List.mem_cons, List.mem_nil_iff, or_false] at hu
    rw [hu]; rfl) (by simp only [maxLen]; omega) (by omega) ?_
  intro v' w' h2 h3 h4
  refine hK v' w' ?_ h3 h4
  unfold IntsOwn
  rw [List.length_append, List.map_append]
  exact h2

end Go.Proofs.YtjdoflfdlhpbmaaGreat

namespace Go.Proofs.YtjdoflfdlhpbmaaGreat
open Go.RowKit Go.Maps Go.Lib

theorem Kp.set8 {C : Nat → Prop} {w : World} {b : Nat} (hb : C b) (v0 v1 v2 v3 v4 v5 v6 v7 : Value) : Kp C w ((((((((w.setCell ⟨b, 0, none⟩ v0).setCell ⟨b, 1, none⟩ v1).setCell ⟨b, 2, none⟩ v2).setCell ⟨b, 3, none⟩ v3).setCell ⟨b, 4, none⟩ v4).setCell ⟨b, 5, none⟩ v5).setCell ⟨b, 6, none⟩ v6).setCell ⟨b, 7, none⟩ v7) :=
  ((((((((Kp.set hb : Kp C w (w.setCell ⟨b, 0, none⟩ v0)).trans (Kp.set hb)).trans (Kp.set hb)).trans (Kp.set hb)).trans (Kp.set hb)).trans (Kp.set hb)).trans (Kp.set hb)).trans (Kp.set hb))
theorem Blk8.set1 {w : World} {b : Nat} {u0 u1 u2 u3 u4 u5 u6 u7 : Value} (h : Blk8 w b u0 u1 u2 u3 u4 u5 u6 u7) (v : Value) : Blk8 (w.setCell ⟨b, 0, none⟩ v) b v u1 u2 u3 u4 u5 u6 u7 ∧ Blk8 (w.setCell ⟨b, 1, none⟩ v) b u0 v u2 u3 u4 u5 u6 u7 ∧ Blk8 (w.setCell ⟨b, 2, none⟩ v) b u0 u1 v u3 u4 u5 u6 u7 ∧ Blk8 (w.setCell ⟨b, 3, none⟩ v) b u0 u1 u2 v u4 u5 u6 u7 ∧ Blk8 (w.setCell ⟨b, 4, none⟩ v) b u0 u1 u2 u3 v u5 u6 u7 ∧ Blk8 (w.setCell ⟨b, 5, none⟩ v) b u0 u1 u2 u3 u4 v u6 u7 ∧ Blk8 (w.setCell ⟨b, 6, none⟩ v) b u0 u1 u2 u3 u4 u5 v u7 ∧ Blk8 (w.setCell ⟨b, 7, none⟩ v) b u0 u1 u2 u3 u4 u5 u6 v :=
  ⟨heap_setCell_same _ b 0 _ _ v h, heap_setCell_same _ b 1 _ _ v h, heap_setCell_same _ b 2 _ _ v h, heap_setCell_same _ b 3 _ _ v h, heap_setCell_same _ b 4 _ _ v h, heap_setCell_same _ b 5 _ _ v h, heap_setCell_same _ b 6 _ _ v h, heap_setCell_same _ b 7 _ _ v h⟩
theorem Blk8.set8 {w : World} {b : Nat} {u0 u1 u2 u3 u4 u5 u6 u7 : Value} (h : Blk8 w b u0 u1 u2 u3 u4 u5 u6 u7) (v0 v1 v2 v3 v4 v5 v6 v7 : Value) : Blk8 ((((((((w.setCell ⟨b, 0, none⟩ v0).setCell ⟨b, 1, none⟩ v1).setCell ⟨b, 2, none⟩ v2).setCell ⟨b, 3, none⟩ v3).setCell ⟨b, 4, none⟩ v4).setCell ⟨b, 5, none⟩ v5).setCell ⟨b, 6, none⟩ v6).setCell ⟨b, 7, none⟩ v7) b v0 v1 v2 v3 v4 v5 v6 v7 := by
  have h1 := (Blk8.set1 h v0).1
  have h2 := (Blk8.set1 h1 v1).2.1
  have h3 := (Blk8.set1 h2 v2).2.2.1
  have h4 := (Blk8.set1 h3 v3).2.2.2.1
  have h5 := (Blk8.set1 h4 v4).2.2.2.2.1
  have h6 := (Blk8.set1 h5 v5).2.2.2.2.2.1
  have h7 := (Blk8.set1 h6 v6).2.2.2.2.2.2.1
  have h8 := (Blk8.set1 h7 v7).2.2.2.2.2.2.2
  exact h8
/-- A row of numbers of the call's own is handed back. -/
def RetIntR (V : List Int) (w : World) (e : Ending) (w' : World) : Prop := ∃ v, e = .returned v ∧ w'.ownsRow w.heap.size 3 1 v V.length (V.map (.int .i64)) ∧ Gr w w'
end Go.Proofs.YtjdoflfdlhpbmaaGreat

namespace Go.Proofs.YtjdoflfdlhpbmaaGreat
open Go.RowKit Go.Maps Go.Lib

set_option maxRecDepth 100000 in
theorem allP_calls (S : Nat → Prop) (B M1 M2 : Nat) (va : Value) (st : BSt) (w : World) (hB : BaseG S w B M1 M2 va st) (hl : st.last ≤ 8388608) :
    Calls Tryz.prog 10 #[.pointer (some ⟨B, 0, none⟩)] w (RetIntR st.all w) := by
  have hR : Hid (∀ v w', w'.ownsRow w.heap.size 3 1 v st.all.length (st.all.map (.int .i64)) → Gr w w' → RetIntR st.all w (.returned v) w') := fun v w' h1 h2 => ⟨v, rfl, h1, h2⟩
  generalize RetIntR st.all w = Q at hR ⊢
  have hlen : (st.all.length : Int) ≤ 8388608 := by have := hB.bda; omega
  have hcl : Hid (Calls Tryz.prog 32 #[va] w fun e w' => ∃ v, e = .returned v ∧ w'.ownsRow w.heap.size 3 1 v st.all.length (st.all.map (.int .i64)) ∧ Gr w w') := by
    show Calls _ _ _ _ _
    rcases hB.all.2 with ⟨rfl, h0⟩ | ⟨g, cap, cur, rfl, _, hg, hnc, hcm, hcs, htk⟩
    · refine (Tryz.slices_Clone_int_nil 0 0 w).mono ?_
      rintro e w' ⟨rfl, rfl⟩
      have h1 : st.all = [] := List.eq_nil_of_length_eq_zero h0
      exact ⟨_, rfl, by rw [h1]; exact World.ownsRow_nil _ _ _ 1, Gr.rfl' _⟩
    · refine (Tryz.slices_Clone_int g 0 st.all.length cap st.all w (Nat.le_refl _) (by omega) (fun j hj => ?_)).mono ?_
      · rw [Nat.zero_add, cell_of_row w g _ _ _ _ hg]
        have h2 : (cur.toList.take (st.all.length * 1))[j]? = (st.all.map (Value.int .i64))[j]? := by rw [htk]
        rw [List.getElem?_take, if_pos (by omega), List.getElem?_map, Array.getElem?_toList] at h2
        rw [h2, List.getElem?_eq_getElem hj, List.getD_eq_getElem?_getD, List.getElem?_eq_getElem hj]
        rfl
      · rintro e w' ⟨v, rfl, h1, _, h2⟩
        rw [List.take_length] at h1
        exact ⟨v, rfl, h1, h2⟩
  have b1 := hB.blk.cell 1 (v := va) rfl
  clear hB
  go_enter Tryz.func10, Tryz.ntmps10
  try simp only [List.append_eq, List.cons_append, List.nil_append]
  go_wp2_with (first
    | (go_at_call 32; refine hcl.out.mono ?_; rintro e w2 ⟨v, rfl, h1, h2⟩; have HO := Lib.hid h1; have HG := Lib.hid h2; clear h1 h2)
    | fail)
  exact hR.out _ _ HO.out HG.out


set_option maxRecDepth 100000 in
theorem getP1_calls (x : Hd) (p : Nat) (id : Int) (w : World) (hp : w.cell? ⟨p, 0, none⟩ = some (.int .i64 id)) :
    Calls Tryz.prog 34 #[.agg #[.int .i64 x.i, .int .i64 x.h.k, .int .i64 x.h.n, .string x.h.s, .slice x.h.p x.h.l.length x.h.c, .int .i64 x.b.k, .int .i64 x.b.n, .string x.b.s, .slice x.b.p x.b.l.length x.b.c], .pointer (some ⟨p, 0, none⟩)] w (Ret (.bool (x.i == id)) w) := by
  have hR : Hid (∀ v, (x.i == id) = v → ∀ w', Gr w w' → Ret (.bool (x.i == id)) w (.returned (.bool v)) w') := fun v hv w' hg => ⟨by rw [hv], hg⟩
  generalize hQ : Ret (.bool (x.i == id)) w = Q at hR ⊢
  obtain ⟨bb, hbb⟩ : ∃ bb, (x.i == id) = bb := ⟨_, rfl⟩
  have Hbb := Lib.hid hbb
  clear hQ
  go_enter Tryz.func34, Tryz.ntmps34
  try simp only [List.append_eq, List.cons_append, List.nil_append]
  go_upto_region 1 with fail
  have hN := BlkT.new w 73 #[.int .i64 x.i, .int .i64 x.h.k, .int .i64 x.h.n, .string x.h.s, .slice x.h.p x.h.l.length x.h.c, .int .i64 x.b.k, .int .i64 x.b.n, .string x.b.s, .slice x.b.p x.b.l.length x.b.c]
  have gA : Gr w (w.alloc (.cells #[.int .i64 x.i, .int .i64 x.h.k, .int .i64 x.h.n, .string x.h.s, .slice x.h.p x.h.l.length x.h.c, .int .i64 x.b.k, .int .i64 x.b.n, .string x.b.s, .slice x.b.p x.b.l.length x.b.c] 73)) := by go_grown
  generalize w.alloc (.cells #[.int .i64 x.i, .int .i64 x.h.k, .int .i64 x.h.n, .string x.h.s, .slice x.h.p x.h.l.length x.h.c, .int .i64 x.b.k, .int .i64 x.b.n, .string x.b.s, .slice x.b.p x.b.l.length x.b.c] 73) = wA at *
  have c0 := hN.cell 0 (v := .int .i64 x.i) rfl
  replace hp := Gr.at gA hp
  clear hN
  go_wp2_with fail
  exact hR.out _ Hbb.out _ gA

set_option maxHeartbeats 1000000 in
set_option maxRecDepth 100000 in
theorem indexP_calls (S : Nat → Prop) (q : Option Addr) (c : Nat) (L : List Hd) (p : Nat) (id : Int) (w : World) (hL : HSl S w q c L) (hp : w.cell? ⟨p, 0, none⟩ = some (.int .i64 id)) (k : Nat) (hk : k < L.length) (hk1 : L[k].i = id) (hk2 : ∀ (j : Nat) (hj : j < L.length), j < k → L[j].i ≠ id) :
    Calls Tryz.prog 33 #[.slice q L.length c, .func (Fn.func 34) #[] #[.pointer (some ⟨p, 0, none⟩)]] w (Ret (.int .i64 k) w) := by
  have hR : Hid (∀ w', Gr w w' → Ret (.int .i64 k) w (.returned (.int .i64 k)) w') := fun w' hg => ⟨rfl, hg⟩
  generalize hQ : Ret (.int .i64 k) w = Q at hR ⊢
  clear hQ
  have hen : ∀ args w, (callFunc 34 args).run Tryz.prog w = .ok (.enter 34 args) w := fun args w => by kernel_rfl
  have HL := Lib.hid hL
  have hlc := hL.len
  have hcm := hL.cap
  have HP := Lib.hid hp
  have Hk1 := Lib.hid hk1
  have Hk2 := Lib.hid hk2
  obtain ⟨b, o, rfl⟩ : ∃ b o, q = some ⟨b, o, none⟩ := by
    rcases hL.row with h | ⟨b, o, h, _⟩
    · rw [h] at hk; simp at hk
    · exact ⟨b, o, h⟩
  clear hL hp hk1 hk2
  go_enter Tryz.func33, Tryz.ntmps33
  try simp only [List.append_eq, List.cons_append, List.nil_append]
  go_wp2_with fail
  go_loopg [8] k (fun m i wr => ∃ j : Nat, j ≤ k ∧ m = k - j ∧ i = .int .i64 j ∧ Gr w wr)
  case atStart => exact ⟨0, Nat.zero_le _, rfl, rfl, Gr.rfl' _⟩
  case round =>
    obtain ⟨j, hj, rfl, rfl, gr⟩ := hrel
    have hjl : j < L.length := by omega
    have hel := HSl.elem (HL.out.gr gr) j hjl
    have c0 : wr.cell? ⟨b, o + j * 9, none⟩ = some (.int .i64 L[j].i) := hel 0 _ rfl
    have c1 := hel 1 _ rfl
    have c2 := hel 2 _ rfl
    have c3 := hel 3 _ rfl
    have c4 := hel 4 _ rfl
    have c5 := hel 5 _ rfl
    have c6 := hel 6 _ rfl
    have c7 := hel 7 _ rfl
    have c8 := hel 8 _ rfl
    by_cases hjk : j = k
    · have hb : (L[j].i == id) = true := by simp only [hjk, Hk1.out, beq_self_eq_true]
      have Hjk := Lib.hid hjk
      have Hb := Lib.hid hb
      clear hel hjk hb
      generalize L[j] = x at *
      go_wp2_with (first | (go_at_call 34; refine (getP1_calls x p id _ (Gr.at gr HP.out)).mono ?_; rintro e w' ⟨rfl, hg⟩; rewrite [Hb.out]; have hgr := gr.trans hg) | fail)
      have hf := hR.out w' hgr
      rw [← Hjk.out] at hf
      exact hf
    · have hb : (L[j].i == id) = false := by have := Hk2.out j hjl (by omega); simp [this]
      have hjk2 : j < k := by omega
      have Hb := Lib.hid hb
      clear hel hjk hb
      generalize L[j] = x at *
      go_wp2_with (first | (go_at_call 34; refine (getP1_calls x p id _ (Gr.at gr HP.out)).mono ?_; rintro e w' ⟨rfl, hg⟩; rewrite [Hb.out]; have hgr := gr.trans hg; clear hg) | fail)
      go_roundg (k - (j + 1))
      case measure => omega
      case rel => exact ⟨j + 1, by omega, rfl, by go_num, hgr⟩

end Go.Proofs.YtjdoflfdlhpbmaaGreat

namespace Go.Proofs.YtjdoflfdlhpbmaaGreat
open Go.RowKit Go.Maps Go.Lib

/-- What Get hands back. -/
def RetGetP (st : BSt) (id : Int) (w : World) (e : Ending) (w' : World) : Prop := Gr w w' ∧ ∃ h b : Tm, h.In w' ∧ b.In w' ∧
  ((st.wh id = none ∧ e = .returned (.tuple #[clVal h b, .int .i64 8]) ∧ h = zeroTm ∧ b = zeroTm) ∨
   ∃ k0 L x, st.wh id = some k0 ∧ st.pr k0 = some L ∧ x ∈ L ∧ x.i = id ∧ e = .returned (.tuple #[clVal h b, .int .i64 0]) ∧ h.erase = x.h ∧ b.erase = x.b)
/-- The first with such a number. -/
theorem first_id (id : Int) : ∀ L : List Hd, (∃ x ∈ L, x.i = id) → ∃ (k : Nat) (hk : k < L.length), L[k].i = id ∧ ∀ (j : Nat) (hj : j < L.length), j < k → L[j].i ≠ id
  | [], ⟨_, h, _⟩ => by cases h
  | y :: ys, ⟨x, hx, he⟩ => by
    by_cases hy : y.i = id
    · exact ⟨0, by simp, hy, fun j _ h => by omega⟩
    · rcases List.mem_cons.1 hx with rfl | hx
      · exact absurd he hy
      · obtain ⟨k, hk, h1, h2⟩ := first_id id ys ⟨x, hx, he⟩
        refine ⟨k + 1, by simpa using hk, by simpa using h1, fun j hj hjk => ?_⟩
        cases j with
        | zero => exact hy
        | succ j => simpa using h2 j (by simpa using hj) (by omega)

set_option maxHeartbeats 8000000 in
set_option maxRecDepth 100000 in
theorem getP_some (S : Nat → Prop) (B M1 M2 : Nat) (va : Value) (st : BSt) (id : Int) (w : World) (hB : BaseG S w B M1 M2 va st) (hid : In64 id) (s : ByteArray) (n : Int) (hw : st.wh id = some (s, n)) (LT : List HdT) (hp : st.pr (s, n) = some LT) (hx : ∃ x ∈ LT, x.i = id) :
    Calls Tryz.prog 11 #[.pointer (some ⟨B, 0, none⟩), .int .i64 id] w (RetGetP st id w) := by
  obtain ⟨f, hm1, hrow⟩ := hB.m1
  have hrow0 := hrow (s, n)
  rw [hp] at hrow0
  obtain ⟨q, c, L, hf1, hL, hLe⟩ := hrow0
  obtain ⟨k, hk, hk1, hk2⟩ := first_id id L (by
    obtain ⟨x, h1, h2⟩ := hx
    rw [← hLe] at h1
    obtain ⟨y, hy, rfl⟩ := List.mem_map.1 h1
    exact ⟨y, hy, h2⟩)
  have hR : Hid (∀ (h b : Tm) (w' : World), h.In w' → b.In w' → h.erase = L[k].h.erase → b.erase = L[k].b.erase → Gr w w' → RetGetP st id w (.returned (.tuple #[clVal h b, .int .i64 0])) w') := fun h b w' h1 h2 h3 h4 hg =>
    ⟨hg, h, b, h1, h2, .inr ⟨(s, n), LT, L[k].er, hw, hp, by rw [← hLe]; exact List.mem_map.2 ⟨_, List.getElem_mem hk, rfl⟩, hk1, rfl, h3, h4⟩⟩
  generalize RetGetP st id w = Q at hR ⊢
  have hw8 := hB.whk id (s, n) hw
  have Hkey := Lib.hid (keyOf_bpred (s := s) (n := n) (by have := hw8.1; simp only [maxLen]; simp only at this; omega) (wf_64 ⟨by have := hw8.2.1; simp only at this; omega, by have := hw8.2.2; simp only at this; omega⟩))
  have Hkey1 := Lib.hid (keyOf_int_mk Tryz.underlying3 (wf_64 hid))
  have HBl := Lib.hid hB.blk
  have HM1 := Lib.hid hm1
  have HM2 := Lib.hid hB.m2
  have HF1 := Lib.hid hf1
  have HF2 := Lib.hid hw
  have HLl := Lib.hid hL
  have hll := hL.len
  have hlm := hL.cap
  have Hix := Lib.hid (fun W (hg : Gr w W) p (h9 : W.cell? ⟨p, 0, none⟩ = some (.int .i64 id)) => indexP_calls S q c L p id W (hL.gr hg) h9 k hk hk1 hk2)
  obtain ⟨b9, o9, rfl⟩ : ∃ b o, q = some ⟨b, o, none⟩ := by
    rcases hL.row with h | ⟨b, o, h, _⟩
    · rw [h] at hk; simp at hk
    · exact ⟨b, o, h⟩
  have Hel := Lib.hid (fun W (hg : Gr w W) => HSl.elem (hL.gr hg) k hk)
  have Hels := Lib.hid (hL.els _ (List.getElem_mem hk))
  clear hB hrow hm1 hf1 hw hL hk1 hk2 hLe hx hp hw8
  generalize L[k] = y at *
  go_enter Tryz.func11, Tryz.ntmps11
  try simp only [List.append_eq, List.cons_append, List.nil_append]
  go_upto_region 1 with fail
  have hI := BlkT.new w 3 #[.int .i64 id]
  have g1 : Gr w (w.alloc (.cells #[.int .i64 id] 3)) := by go_grown
  have hN : Blk8 ((w.alloc (.cells #[.int .i64 id] 3)).alloc (.cells #[.int .i64 0, .int .i64 0, .string ⟨#[]⟩, .slice none 0 0, .int .i64 0, .int .i64 0, .string ⟨#[]⟩, .slice none 0 0] 29)) (w.alloc (.cells #[.int .i64 id] 3)).heap.size (.int .i64 0) (.int .i64 0) (.string ⟨#[]⟩) (.slice none 0 0) (.int .i64 0) (.int .i64 0) (.string ⟨#[]⟩) (.slice none 0 0) := heap_alloc_new _ _
  rw [World.size_alloc] at hN
  have g2 : Gr (w.alloc (.cells #[.int .i64 id] 3)) ((w.alloc (.cells #[.int .i64 id] 3)).alloc (.cells #[.int .i64 0, .int .i64 0, .string ⟨#[]⟩, .slice none 0 0, .int .i64 0, .int .i64 0, .string ⟨#[]⟩, .slice none 0 0] 29)) := by go_grown
  have hI2 := hI.gr g2
  have gA := g1.trans g2
  generalize (w.alloc (.cells #[.int .i64 id] 3)).alloc (.cells #[.int .i64 0, .int .i64 0, .string ⟨#[]⟩, .slice none 0 0, .int .i64 0, .int .i64 0, .string ⟨#[]⟩, .slice none 0 0] 29) = wA at *
  clear hI g1 g2
  have HI := Lib.hid hI2
  have HR := Lib.hid hN
  have hszA := HR.out.lt
  clear hI2 hN
  have b3 := (HBl.out.gr gA).cell 3 (v := .map (some M2)) rfl
  have i0 := HI.out.cell 0 (v := .int .i64 id) rfl
  have hlt0 : w.heap.size < wA.heap.size := by omega
  have hltB : B < wA.heap.size := by have := HBl.out.lt; have := gA.size; omega
  have hlk : ∀ W, Gr wA W → (Instr.lookup 55 (.map (some M2)) (.int .i64 id) true).run Tryz.prog W = .ok (.tuple #[.agg #[.string s, .int .i64 n], .bool true]) W := by
    intro W hW
    have h := (GMap.run (HM2.out.gr (gA.trans hW)) (int_keyed Tryz.underlying3) Tryz.underlying55 (zero_bpred W) (x := id) Hkey1.out).2
    simp only [HF2.out, Option.map_some] at h
    exact h
  have hlA := hlk wA.drew (by go_grown)
  have hlB := hlk (wA.alloc (.cells #[.string ⟨#[]⟩, .int .i64 0] 68)).drew (by go_grown)
  replace hlk := Lib.hid hlk
  go_region
  all_goals
    have hP := BlkT.new wA 68 #[.string s, .int .i64 n]
    have gB : Gr wA (wA.alloc (.cells #[.string s, .int .i64 n] 68)).drew := by go_grown
    have hP2 := hP.gr (by go_grown : Gr _ (wA.alloc (.cells #[.string s, .int .i64 n] 68)).drew)
    generalize (wA.alloc (.cells #[.string s, .int .i64 n] 68)).drew = wB at *
    clear hP hlA hlB hlk b3 i0
    have HP := Lib.hid hP2
    clear hP2
    generalize wA.heap.size = p at *
    have gAB := gA.trans gB
    replace HI := Lib.hid (HI.out.gr gB)
    replace HR := Lib.hid (HR.out.gr gB)
    have b2 := (HBl.out.gr gAB).cell 2 (v := .map (some M1)) rfl
    have p0 := HP.out.cell 0 (v := .string s) rfl
    have p1 := HP.out.cell 1 (v := .int .i64 n) rfl
    go_upto_region 4 with fail
    refine wp_region_rely [fx (.pointer (some ⟨B, 0, none⟩)), fx (.pointer (some ⟨B, 0, none⟩)), fx (.pointer (some ⟨B, 2, none⟩)), fx (.map (some M1)), fx (.agg #[.string s, .int .i64 n]), fx (.slice (some ⟨b9, o9, none⟩) L.length c), fx (.slice (some ⟨b9, o9, none⟩) L.length c)]
      (by kernel_rfl) (by kernel_rfl) (by repeat (first | exact Stable.nil | refine Stable.fix ?_)) ?_ ?_
    · refine ⟨?_, ?_, ?_, ?_, ?_, ?_, ?_, trivial⟩
      all_goals
        intro a wr hg hold
        have h0 : a.tmps[0]?.getD undef = .pointer (some ⟨B, 0, none⟩) := hold 0 rfl
        have h6 : a.tmps[6]?.getD undef = .pointer (some ⟨p, 0, none⟩) := hold 6 rfl
        clear hold
        have y2 := Gr.at hg b2
        have x0 := Gr.at hg p0
        have x1 := Gr.at hg p1
        have hlk := (GMap.run (HM1.out.gr (gAB.trans hg)) bpred_keyed Tryz.underlying54 (zero_held wr) (x := (s, n)) Hkey.out).1
        rw [HF1.out] at hlk
        simp only [kPred, Option.getD_some] at hlk
        clear b2 p0 p1
        simp [predsImp, Region.binds, dstAt, fx]
        intros
        first
          | (rw [if_pos (by simp [*])]
             intro K hK)
          | (rename_i K hK)
        go_simp
      all_goals exact hK _ _ rfl (Gr.rfl' _)
    · intro wc hg
      rintro _ rfl _ rfl _ rfl _ rfl _ rfl _ rfl _ rfl
      have gC := gAB.trans hg
      replace HI := Lib.hid (HI.out.gr hg)
      replace HR := Lib.hid (HR.out.gr hg)
      have i0 := HI.out.cell 0 (v := .int .i64 id) rfl
      clear b2 p0 p1 hg gB gAB
      simp only [finAll, Act.put, List.setIfInBounds_toArray, List.set_cons_succ, List.set_cons_zero]
      go_upto_region 6 with (first
        | (go_at_call 33; refine (Hix.out wc gC _ i0).mono ?_; rintro e wd ⟨rfl, hb⟩; have gD := gC.trans hb; replace HR := Lib.hid (HR.out.gr hb); clear hb i0)
        | fail)
      have z0 : wd.cell? ⟨b9, o9 + k * 9, none⟩ = some (.int .i64 y.i) := Hel.out wd gD 0 _ rfl
      have z1 := Hel.out wd gD 1 _ rfl
      have z2 := Hel.out wd gD 2 _ rfl
      have z3 := Hel.out wd gD 3 _ rfl
      have z4 := Hel.out wd gD 4 _ rfl
      have z5 := Hel.out wd gD 5 _ rfl
      have z6 := Hel.out wd gD 6 _ rfl
      have z7 := Hel.out wd gD 7 _ rfl
      have z8 := Hel.out wd gD 8 _ rfl
      have Hcv := Lib.hid (clVal_eq y.h y.b)
      go_upto_region 7 with (first
        | (go_at_call 28; rewrite [← Hcv.out]; refine (copied_calls y.h y.b _ (Tm.In_below gD Hels.out.1) (Tm.In_below gD Hels.out.2.1) Hels.out.2.2.1 Hels.out.2.2.2.1).mono ?_; rintro e we ⟨h2, b2, rfl, i1, i2, j1, j2, o1, o2, hb⟩; have I1 := Lib.hid i1; have I2 := Lib.hid i2; have J1 := Lib.hid j1; have J2 := Lib.hid j2; have O1 := Lib.hid o1; have O2 := Lib.hid o2; have gE := gD.trans hb; have hszd := gD.size; have hltr := HR.out.lt; replace HR := Lib.hid (HR.out.gr hb); rewrite [clVal_eq]; clear i1 i2 j1 j2 o1 o2 hb z0 z1 z2 z3 z4 z5 z6 z7 z8; obtain ⟨y0, y1, y2, y3, y4, y5, y6, y7⟩ := HR.out.cells; obtain ⟨f0, f1, f2, f3, f4, f5, f6, f7⟩ := HR.out.open_)
        | fail)
      have kk := Kp.set8 (C := fun x => x = w.heap.size + 1) (w := we) (b := w.heap.size + 1) rfl (.int .i64 h2.k) (.int .i64 h2.n) (.string h2.s) (.slice h2.p h2.l.length h2.c) (.int .i64 b2.k) (.int .i64 b2.n) (.string b2.s) (.slice b2.p b2.l.length b2.c)
      have hz := Blk8.set8 HR.out (.int .i64 h2.k) (.int .i64 h2.n) (.string h2.s) (.slice h2.p h2.l.length h2.c) (.int .i64 b2.k) (.int .i64 b2.n) (.string b2.s) (.slice b2.p b2.l.length b2.c)
      generalize ((((((((we.setCell ⟨w.heap.size + 1, 0, none⟩ (.int .i64 h2.k)).setCell ⟨w.heap.size + 1, 1, none⟩ (.int .i64 h2.n)).setCell ⟨w.heap.size + 1, 2, none⟩ (.string h2.s)).setCell ⟨w.heap.size + 1, 3, none⟩ (.slice h2.p h2.l.length h2.c)).setCell ⟨w.heap.size + 1, 4, none⟩ (.int .i64 b2.k)).setCell ⟨w.heap.size + 1, 5, none⟩ (.int .i64 b2.n)).setCell ⟨w.heap.size + 1, 6, none⟩ (.string b2.s)).setCell ⟨w.heap.size + 1, 7, none⟩ (.slice b2.p b2.l.length b2.c)) = wZ at *
      clear y0 y1 y2 y3 y4 y5 y6 y7 f0 f1 f2 f3 f4 f5 f6 f7
      obtain ⟨y0, y1, y2, y3, y4, y5, y6, y7⟩ := hz.cells
      refine bodyPost_ret (v := .tuple #[clVal h2 b2, .int .i64 0]) (by simp [results, Tryz.results11, go_sem, clVal, y0, y1, y2, y3, y4, y5, y6, y7]) rfl ?_
      exact hR.out h2 b2 wZ (tm_kp I1.out O1.out (fun x h1 (h9 : x = w.heap.size + 1) => by omega) kk) (tm_kp I2.out O2.out (fun x h1 (h9 : x = w.heap.size + 1) => by omega) kk) J1.out J2.out (Below.trans gE (kk.below (fun x hx => by have hx : x = w.heap.size + 1 := hx; omega) gE.size))
end Go.Proofs.YtjdoflfdlhpbmaaGreat
