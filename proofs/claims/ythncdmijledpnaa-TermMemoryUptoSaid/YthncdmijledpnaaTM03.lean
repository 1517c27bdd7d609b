/-
  Slices of terms that a call makes by append: what they hold, and that append puts one more behind.
  Numbers: what the document says of each operation (plain).
  Terms in memory: more of what all walks want (small terms, blocks of four cells, the makers of terms).
  term.V, term.Map with a function that keeps nothing, term.Copy.
  term.Map with a function that keeps nothing, term.Copy.
  hornref.Same, hornref.Formed
-/
import Derived.Test.YthncdmijledpnaaTM02
import Derived.Test.YthncdmijledpnaaTM01
namespace Go.Proofs.Ythncdmijledpnaa
open Go.RowKit

mutual
theorem Tm.On.and {S S' : Nat → Prop} : ∀ {t : Tm}, t.On S → t.On S' → t.On fun b => S b ∧ S' b
  | .mk _ _ _ _ _ l, h, h' => by
    rw [Tm.On] at h h' ⊢
    refine ⟨?_, Tm.OnL.and h.2 h'.2⟩
    rcases h.1 with h1 | ⟨b, o, h1, h2⟩
    · exact .inl h1
    · rcases h'.1 with h3 | ⟨b', o', h3, h4⟩
      · exact .inl h3
      · rw [h1] at h3
        cases h3
        exact .inr ⟨b, o, h1, h2, h4⟩
theorem Tm.OnL.and {S S' : Nat → Prop} : ∀ {l : List Tm}, Tm.OnL S l → Tm.OnL S' l → Tm.OnL (fun b => S b ∧ S' b) l
  | [], _, _ => by rw [Tm.OnL]; trivial
  | _ :: _, h, h' => by
    rw [Tm.OnL] at h h' ⊢
    exact ⟨Tm.On.and h.1 h'.1, Tm.OnL.and h.2 h'.2⟩
end

theorem cells_len : ∀ l : List Tm, (l.flatMap Tm.cells).length = l.length * 4
  | [] => rfl
  | x :: xs => by rw [List.flatMap_cons, List.length_append, cells_len xs, List.length_cons, Tm.cells]; simp; omega

theorem cells_at : ∀ {l : List Tm} {i : Nat} {x : Tm}, l[i]? = some x → ∀ j, j < 4 → (l.flatMap Tm.cells)[i * 4 + j]? = x.cells[j]?
  | y :: ys, 0, x, h, j, hj => by
    simp only [List.getElem?_cons_zero, Option.some.injEq] at h
    subst h
    rw [List.flatMap_cons, Nat.zero_mul, Nat.zero_add, List.getElem?_append_left (by simp [Tm.cells]; omega)]
  | y :: ys, i + 1, x, h, j, hj => by
    simp only [List.getElem?_cons_succ] at h
    rw [List.flatMap_cons, List.getElem?_append_right (by simp [Tm.cells]; omega), ← cells_at h j hj]
    congr 1
    simp [Tm.cells]
    omega

/-- The slice v of the call's own (blocks from B on) holds the terms l; they lie on S or on what is new. -/
def Built (w : World) (B : Nat) (S : Nat → Prop) (v : Value) (l : List Tm) : Prop :=
  w.ownsRow B 25 4 v l.length (l.flatMap Tm.cells) ∧ Tm.InL w l ∧ Tm.OnL (fun b => (S b ∨ B ≤ b) ∧ b < w.heap.size ∧ v.ownBlock ≠ some b) l

theorem Built.nil (w : World) (B : Nat) (S : Nat → Prop) : Built w B S (.slice none 0 0) [] :=
  ⟨World.ownsRow_nil w B _ 4, by rw [Tm.InL]; trivial, by rw [Tm.OnL]; trivial⟩

theorem Built.gr {w w' : World} {B : Nat} {S : Nat → Prop} {v : Value} {l : List Tm} (h : Built w B S v l) (hg : Gr w w') : Built w' B S v l :=
  ⟨ownsRow_gr h.1 hg, Tm.InL_below hg h.2.1, h.2.2.mono fun _ hb => ⟨hb.1, Nat.lt_of_lt_of_le hb.2.1 hg.size, hb.2.2⟩⟩

theorem Built.block {w : World} {B : Nat} {S : Nat → Prop} {v : Value} {l : List Tm} (h : Built w B S v l) : ∀ k, v.ownBlock = some k → B ≤ k := fun k hk => (h.1.lt k hk).1

theorem Built.form {w : World} {B : Nat} {S : Nat → Prop} {v : Value} {l : List Tm} (h : Built w B S v l) : ∃ p c, v = .slice p l.length c ∧ l.length ≤ c ∧ c ≤ 9223372036854775807 := by
  rcases h.1.2 with ⟨rfl, h0⟩ | ⟨g, cap, cur, rfl, _, _, h1, h2, _⟩
  · exact ⟨none, 0, by rw [h0], by omega, by omega⟩
  · simp only [maxLen] at h2
    exact ⟨_, _, rfl, h1, by omega⟩

/-- What has been made is a slice of terms. -/
theorem Built.sl {w : World} {B : Nat} {S : Nat → Prop} {p : Option Addr} {n c : Nat} {l : List Tm} (h : Built w B S (.slice p n c) l) (hl : l.length * 56 ≤ 140737488351232) :
    n = l.length ∧ Tm.Sl w p c l ∧ Tm.SlOn (fun b => S b ∨ B ≤ b) p l := by
  have hO : Tm.OnL (fun b => S b ∨ B ≤ b) l := h.2.2.mono fun b hb => hb.1
  rcases h.1.2 with ⟨h0, h1⟩ | ⟨g, cap, cur, h0, hbg, hg, hnc, hcm, hcs, htake⟩
  · cases h0
    have hn : l = [] := List.eq_nil_of_length_eq_zero h1
    subst hn
    exact ⟨rfl, ⟨Nat.le_refl _, ⟨by simp, by omega⟩, .inl rfl, h.2.1⟩, .inl rfl, hO⟩
  · cases h0
    simp only [maxLen] at hcm
    refine ⟨rfl, ⟨hnc, ⟨hl, by omega⟩, .inr ⟨g, 0, rfl, ?_⟩, h.2.1⟩, .inr ⟨g, 0, rfl, .inr hbg⟩, hO⟩
    intro i x hx
    have hi : i < l.length := (List.getElem?_eq_some_iff.1 hx).1
    have hat : ∀ j, j < 4 → w.cell? ⟨g, 0 + i * 4 + j, none⟩ = x.cells[j]? := by
      intro j hj
      rw [Nat.zero_add, h.1.cellAt _ (by omega)]
      exact cells_at hx j hj
    exact ⟨hat 0 (by omega), hat 1 (by omega), hat 2 (by omega), hat 3 (by omega)⟩

theorem infoTerm : (Try.prog.info? 25).map (fun i => (i.zero, i.size, i.bytes)) = some (some (.agg #[.int .i64 0, .int .i64 0, .string ⟨#[]⟩, .slice none 0 0]), 4, 56) := by kernel_rfl

/-- append of one term. -/
theorem Built.snoc {w w' : World} {B : Nat} {S : Nat → Prop} {v v' : Value} {l : List Tm} {x : Tm} (h : Built w B S v l) (hx : x.In w) (hxo : x.On fun b => (S b ∨ B ≤ b) ∧ v.ownBlock ≠ some b)
    (ho : w'.ownsRow B 25 4 v' (l.length + 1) (l.flatMap Tm.cells ++ x.cells)) (hg : w.grownBy w' v.ownBlock) (hv : v'.ownBlock = v.ownBlock ∨ v'.ownBlock = some w.heap.size) : Built w' B S v' (l ++ [x]) := by
  have hxo' : x.On (fun b => (S b ∨ B ≤ b) ∧ b < w.heap.size ∧ v.ownBlock ≠ some b) := by
    exact Tm.On.and hxo (Tm.In.on hx) |>.mono fun b hb => ⟨hb.1.1, hb.2, hb.1.2⟩
  have hall : Tm.OnL (fun b => (S b ∨ B ≤ b) ∧ b < w.heap.size ∧ v.ownBlock ≠ some b) (l ++ [x]) := Tm.OnL_of fun y hy => by
    rcases List.mem_append.1 hy with hy | hy
    · exact Tm.OnL_mem h.2.2 y hy
    · simp only [List.mem_cons, List.mem_nil_iff, or_false] at hy
      rw [hy]; exact hxo'
  have hin : Tm.InL w (l ++ [x]) := Tm.InL_of fun y hy => by
    rcases List.mem_append.1 hy with hy | hy
    · exact Tm.InL_mem h.2.1 y hy
    · simp only [List.mem_cons, List.mem_nil_iff, or_false] at hy
      rw [hy]; exact hx
  refine ⟨by simpa using ho, Tm.InL.same (S := fun b => (S b ∨ B ≤ b) ∧ b < w.heap.size ∧ v.ownBlock ≠ some b) (fun b hb o => World.cell?_of_block (hg.block b hb.2.1 (Ne.symm hb.2.2))) hin hall, hall.mono fun b hb => ⟨hb.1, Nat.lt_of_lt_of_le hb.2.1 hg.size, ?_⟩⟩
  rcases hv with hv | hv
  · rw [hv]; exact hb.2.2
  · rw [hv]; intro e; have := Option.some.inj e; have := hb.2.1; omega

theorem wpList_append_term {P : Program} {w : World} {ops : Array Oper} {rest : List Oper} {o : Oper} {a : Act} {Q : Exit → Act → World → Prop} (hgd : o.guard = none) (s y : Operand)
    (ho : o.op = .call { callee := .builtin .append, args := #[s, y], argTypes := #[23, 23] }) (hP : P = Try.prog)
    (B : Nat) (S : Nat → Prop) (v : Value) (l : List Tm) (x : Tm) (b c : Nat) (hs : a.eval s = v) (hy : a.eval y = .slice (some ⟨b, 0, none⟩) 1 c) (h : Built w B S v l) (hB : B ≤ w.heap.size)
    (hx : x.In w) (hxo : x.On fun b => (S b ∨ B ≤ b) ∧ v.ownBlock ≠ some b) (hl : (l.length + 1) * 56 ≤ 140737488351232)
    (c0 : w.cell? ⟨b, 0, none⟩ = some (.int .i64 x.k)) (c1 : w.cell? ⟨b, 1, none⟩ = some (.int .i64 x.n)) (c2 : w.cell? ⟨b, 2, none⟩ = some (.string x.s)) (c3 : w.cell? ⟨b, 3, none⟩ = some (.slice x.p x.l.length x.c))
    (hK : ∀ v' w', Built w' B S v' (l ++ [x]) → Below B w w' → (∀ p : Addr, p.block < w.heap.size → v.ownBlock ≠ some p.block → w'.cell? p = w.cell? p) → wpList P ops Q rest (a.put o.dst v') w') : wpList P ops Q (o :: rest) a w := by
  subst hP
  obtain ⟨i0, hi, hz0, hz1, hz2⟩ := info_parts infoTerm
  obtain ⟨v', w', hr, h2, h3, h4⟩ := run_append_own_fresh (P := Try.prog) w B 23 o.type 25 i0 _ 4 56 Try.underlying23 hi hz0 hz1 hz2 rfl (by decide) v l.length (l.flatMap Tm.cells) h.1
    ⟨b, 0, none⟩ 1 c x.cells rfl (by
      intro j u hu
      match j, hu with
      | 0, hu => cases hu; exact c0
      | 1, hu => cases hu; exact c1
      | 2, hu => cases hu; exact c2
      | 3, hu => cases hu; exact c3
      | j + 4, hu => simp [Tm.cells] at hu) (by
      intro u hu
      simp only [Tm.cells, List.mem_cons, List.mem_nil_iff, or_false] at hu
      rcases hu with rfl | rfl | rfl | rfl <;> rfl) (by simp only [maxLen]; omega) (by omega) hB (by omega)
  refine wpList_plain hgd fun K hK' => ?_
  unfold Oper.wp execOp
  simp only [ho, resolve, invoke, builtin, Sem.run_bind, Sem.run_pure, Result.andThen_ok, List.map_toArray, List.map_cons, List.map_nil, hs, hy, hr]
  exact hK' _ _ (hK v' w' (h.snoc hx hxo h2 h3 h4) (grownBy_below h3 hB h.block) fun p hp hne => World.cell?_of_block (h3.block p.block hp (Ne.symm hne)))

end Go.Proofs.Ythncdmijledpnaa

namespace Go.Proofs.Ythncdmijledpnaa
open Go.RowKit

abbrev Str := List UInt8
def In64 (n : Int) : Prop := -9223372036854775808 ≤ n ∧ n ≤ 9223372036854775807
instance (n : Int) : Decidable (In64 n) := inferInstanceAs (Decidable (_ ∧ _))

/-- An atom's value. -/
def atomTm (s : ByteArray) : Tm := .mk 3 0 s none 0 []
def atomT (s : Str) : T := .mk 3 0 s []
theorem atomTm_in {s : ByteArray} (h : s.size ≤ 140737488351232) (w : World) : (atomTm s).In w := by
  rw [atomTm, Tm.In, Tm.InL]
  exact ⟨⟨by omega, by omega⟩, ⟨by omega, by omega⟩, h, Nat.le_refl _, ⟨by simp, by omega⟩, .inl rfl, trivial⟩

end Go.Proofs.Ythncdmijledpnaa

namespace Go.Proofs.Ythncdmijledpnaa
open Go.RowKit

def compT (s : Str) (l : List T) : T := .mk 4 0 s l
def intTm (n : Int) : Tm := .mk 2 n ⟨#[]⟩ none 0 []
@[simp] theorem atomTm_k (s : ByteArray) : (atomTm s).k = 3 := rfl
@[simp] theorem atomTm_n (s : ByteArray) : (atomTm s).n = 0 := rfl
@[simp] theorem atomTm_s (s : ByteArray) : (atomTm s).s = s := rfl
@[simp] theorem atomTm_p (s : ByteArray) : (atomTm s).p = none := rfl
@[simp] theorem atomTm_c (s : ByteArray) : (atomTm s).c = 0 := rfl
@[simp] theorem atomTm_l (s : ByteArray) : (atomTm s).l = [] := rfl
@[simp] theorem intTm_k (n : Int) : (intTm n).k = 2 := rfl
@[simp] theorem intTm_n (n : Int) : (intTm n).n = n := rfl
@[simp] theorem intTm_s (n : Int) : (intTm n).s = ⟨#[]⟩ := rfl
@[simp] theorem intTm_p (n : Int) : (intTm n).p = none := rfl
@[simp] theorem intTm_c (n : Int) : (intTm n).c = 0 := rfl
@[simp] theorem intTm_l (n : Int) : (intTm n).l = [] := rfl
theorem one_row {t : Tm} {w : World} {b : Nat} (ht : t.In w)
    (c0 : w.cell? ⟨b, 0, none⟩ = some (.int .i64 t.k)) (c1 : w.cell? ⟨b, 1, none⟩ = some (.int .i64 t.n)) (c2 : w.cell? ⟨b, 2, none⟩ = some (.string t.s)) (c3 : w.cell? ⟨b, 3, none⟩ = some (.slice t.p t.l.length t.c)) :
    Tm.Sl w (some ⟨b, 0, none⟩) 1 [t] := by
  refine ⟨Nat.le_refl _, ⟨by simp, by simp⟩, .inr ⟨b, 0, rfl, ?_⟩, Tm.InL_of fun x hx => ?_⟩
  · intro i x hx
    match i, hx with
    | 0, hx => cases hx; exact ⟨c0, c1, c2, c3⟩
  · simp only [List.mem_cons, List.mem_nil_iff, or_false] at hx
    rw [hx]; exact ht

/-- A compound over a slice of terms. -/
def compTm (s : ByteArray) (p : Option Addr) (c : Nat) (l : List Tm) : Tm := .mk 4 0 s p c l
theorem compTm_in {s : ByteArray} {p : Option Addr} {c : Nat} {l : List Tm} {w : World} (hs : s.size ≤ 140737488351232) (h : Tm.Sl w p c l) : (compTm s p c l).In w := by
  rw [compTm, Tm.In]
  exact ⟨⟨by omega, by omega⟩, ⟨by omega, by omega⟩, hs, h.1, h.2.1, h.2.2.1, h.2.2.2⟩

set_option maxHeartbeats 400000 in
theorem comp_calls (s : ByteArray) (p : Option Addr) (n c : Nat) (w : World) : Calls Try.prog 122 #[.string s, .slice p n c] w (Ret (.agg #[.int .i64 4, .int .i64 0, .string s, .slice p n c]) w) := by
  go_enter Try.func122, Try.ntmps122
  go_wp2_with fail
  exact bodyPost_ret (v := .agg #[.int .i64 4, .int .i64 0, .string s, .slice p n c]) (by simp [results, Try.results122, go_sem]) rfl ⟨rfl, by go_grown⟩

/-- A block that is just the four cells of a term. -/
def Blk4 (w : World) (b : Nat) (v0 v1 v2 v3 : Value) : Prop := w.heap[b]? = some (.cells #[v0, v1, v2, v3] 25)
theorem Blk4.gr {w w' : World} {b : Nat} {v0 v1 v2 v3 : Value} (h : Blk4 w b v0 v1 v2 v3) (hg : Gr w w') : Blk4 w' b v0 v1 v2 v3 :=
  (hg.block b (Array.getElem?_eq_some_iff.1 h).1).trans h
theorem Blk4.below {w w' : World} {B b : Nat} {v0 v1 v2 v3 : Value} (h : Blk4 w b v0 v1 v2 v3) (hg : Below B w w') (hb : b < B) : Blk4 w' b v0 v1 v2 v3 := (hg.block b hb).trans h
theorem Blk4.parts {w : World} {b : Nat} {v0 v1 v2 v3 : Value} (h : Blk4 w b v0 v1 v2 v3) :
    (w.cell? ⟨b, 0, none⟩ = some v0 ∧ w.cell? ⟨b, 1, none⟩ = some v1 ∧ w.cell? ⟨b, 2, none⟩ = some v2 ∧ w.cell? ⟨b, 3, none⟩ = some v3) ∧
    (w.frozen? ⟨b, 0, none⟩ = false ∧ w.frozen? ⟨b, 1, none⟩ = false ∧ w.frozen? ⟨b, 2, none⟩ = false ∧ w.frozen? ⟨b, 3, none⟩ = false) ∧ b < w.heap.size :=
  ⟨⟨cell_of_row w b 0 _ _ _ h, cell_of_row w b 1 _ _ _ h, cell_of_row w b 2 _ _ _ h, cell_of_row w b 3 _ _ _ h⟩,
   ⟨frozen_of_row w b 0 _ _ h, frozen_of_row w b 1 _ _ h, frozen_of_row w b 2 _ _ h, frozen_of_row w b 3 _ _ h⟩, (Array.getElem?_eq_some_iff.1 h).1⟩
theorem Blk4.new (w : World) (v0 v1 v2 v3 : Value) : Blk4 (w.alloc (.cells #[v0, v1, v2, v3] 25)) w.heap.size v0 v1 v2 v3 := heap_alloc_new w _
theorem Blk4.old {w : World} {b : Nat} {v0 v1 v2 v3 : Value} (h : Blk4 w b v0 v1 v2 v3) (o : Obj) : Blk4 (w.alloc o) b v0 v1 v2 v3 :=
  (heap_alloc_old w o (Array.getElem?_eq_some_iff.1 h).1).trans h

def T.k : T → Int | .mk k _ _ _ => k
def T.n : T → Int | .mk _ n _ _ => n
def T.s : T → Str | .mk _ _ s _ => s
def T.l : T → List T | .mk _ _ _ l => l

def zeroT : T := .mk 0 0 [] []
def zeroTm : Tm := .mk 0 0 ⟨#[]⟩ none 0 []
theorem zeroTm_in (w : World) : zeroTm.In w := by
  rw [zeroTm, Tm.In, Tm.InL]
  exact ⟨⟨by omega, by omega⟩, ⟨by omega, by omega⟩, by decide, Nat.le_refl _, ⟨by simp, by omega⟩, .inl rfl, trivial⟩
theorem zeroTm_erase : zeroTm.erase = zeroT := by
  rw [zeroTm, Tm.erase, Tm.eraseL, ByteArray.toList_mk]; rfl

theorem rV_calls (n : Int) (w : World) (h : In64 n) : Calls Try.prog 75 #[.int .i64 n] w (Ret (.agg #[.int .i64 1, .int .i64 n, .string ⟨#[]⟩, .slice none 0 0]) w) := by
  have H := Lib.hid h
  clear h
  go_enter Try.func75, Try.ntmps75
  go_wp2_with fail
  exact bodyPost_ret (v := .agg #[.int .i64 1, .int .i64 n, .string ⟨#[]⟩, .slice none 0 0]) (by simp [results, Try.results75, go_sem]) rfl ⟨rfl, by go_grown⟩

end Go.Proofs.Ythncdmijledpnaa

namespace Go.Proofs.Ythncdmijledpnaa
open Go.RowKit

/-- A variable. -/
def varTm (n : Int) : Tm := .mk 1 n ⟨#[]⟩ none 0 []
def varT (n : Int) : T := .mk 1 n [] []
theorem varTm_on {S : Nat → Prop} (n : Int) : (varTm n).On S := by rw [varTm, Tm.On, Tm.OnL]; exact ⟨.inl rfl, trivial⟩
theorem varTm_erase (n : Int) : (varTm n).erase = varT n := by rw [varTm, Tm.erase, Tm.eraseL, ByteArray.toList_mk]; rfl
theorem varTm_in {n : Int} (h : In64 n) (w : World) : (varTm n).In w := by
  rw [varTm, Tm.In, Tm.InL]
  exact ⟨⟨by omega, by omega⟩, h, by decide, Nat.le_refl _, ⟨by simp, by omega⟩, .inl rfl, trivial⟩

mutual
/-- The term whose variables are what a function says. -/
def T.map (f : Int → T) : T → T
  | .mk k n s l => if k = 1 then f n else if k = 4 then .mk k n s (T.mapL f l) else .mk k n s []
def T.mapL (f : Int → T) : List T → List T
  | [] => []
  | x :: xs => T.map f x :: T.mapL f xs
end

theorem T.mapL_length (f : Int → T) : ∀ l : List T, (T.mapL f l).length = l.length
  | [] => by simp [T.mapL]
  | x :: xs => by rw [T.mapL, List.length_cons, T.mapL_length f xs, List.length_cons]

theorem eraseL_append : ∀ (l l' : List Tm), Tm.eraseL (l ++ l') = Tm.eraseL l ++ Tm.eraseL l'
  | [], l' => by simp [Tm.eraseL]
  | x :: xs, l' => by rw [List.cons_append, Tm.eraseL, Tm.eraseL, eraseL_append xs l', List.cons_append]

theorem T.mapL_erase (f : Int → T) : ∀ (l : List Tm) (k : Nat) (hk : k < l.length), T.mapL f (Tm.eraseL (l.take (k + 1))) = T.mapL f (Tm.eraseL (l.take k)) ++ [T.map f l[k].erase]
  | x :: xs, 0, _ => by simp [T.mapL, Tm.eraseL]
  | x :: xs, k + 1, hk => by
    simp only [List.take_succ_cons, Tm.eraseL, T.mapL, List.getElem_cons_succ, List.cons_append]
    rw [T.mapL_erase f xs k (by simpa using hk)]

theorem formed_elem {k n : Int} {s : ByteArray} {p : Option Addr} {c : Nat} {l : List Tm} (hk : k = 4) (h : (Tm.mk k n s p c l).erase.formed = true) : n = 0 ∧ s.size ≤ 100 ∧ 1 ≤ l.length ∧ l.length ≤ 50 ∧ ∀ x ∈ l, x.erase.formed = true := by
  subst hk
  simp only [Tm.erase, T.formed, Tm.eraseL_length, toList_length] at h
  simp at h
  obtain ⟨⟨⟨⟨h1, h2⟩, h3⟩, h4⟩, h5⟩ := h
  refine ⟨h1, h2, h3, h4, ?_⟩
  intro x hx
  cases hf : x.erase.formed with
  | true => rfl
  | false => rw [formedL_false hx hf] at h5; cases h5

/-- A row of n terms that is being filled: the first ones stand. -/
def Filling (w : World) (B : Nat) (S : Nat → Prop) (g n : Nat) (l : List Tm) : Prop :=
  B ≤ g ∧ l.length ≤ n ∧ (∃ cur : Array Value, w.heap[g]? = some (.cells cur 25) ∧ cur.size = n * 4 ∧ ∀ i x, l[i]? = some x → ∀ j, j < 4 → cur[i * 4 + j]? = x.cells[j]?) ∧
  Tm.InL w l ∧ Tm.OnL (fun b => (S b ∨ B ≤ b) ∧ b < w.heap.size ∧ b ≠ g) l

theorem Filling.gr {w w' : World} {B : Nat} {S : Nat → Prop} {g n : Nat} {l : List Tm} (h : Filling w B S g n l) (hg : Gr w w') : Filling w' B S g n l := by
  obtain ⟨h1, h2, ⟨cur, h3, h4⟩, h5, h6⟩ := h
  exact ⟨h1, h2, ⟨cur, (hg.block g (Array.getElem?_eq_some_iff.1 h3).1).trans h3, h4⟩, Tm.InL_below hg h5, h6.mono fun b hb => ⟨hb.1, Nat.lt_of_lt_of_le hb.2.1 hg.size, hb.2.2⟩⟩

theorem Filling.spot {w : World} {B : Nat} {S : Nat → Prop} {g n : Nat} {l : List Tm} (h : Filling w B S g n l) {j : Nat} (hj : j < n * 4) : (∃ v, w.cell? ⟨g, j, none⟩ = some v) ∧ w.frozen? ⟨g, j, none⟩ = false := by
  obtain ⟨h1, h2, ⟨cur, h3, h4, _⟩, _, _⟩ := h
  exact ⟨⟨cur[j]'(by omega), by rw [cell_of_row w g j _ _ _ h3]; exact Array.getElem?_eq_getElem (by omega)⟩, frozen_of_row w g j _ _ h3⟩

theorem Filling.lt {w : World} {B : Nat} {S : Nat → Prop} {g n : Nat} {l : List Tm} (h : Filling w B S g n l) : g < w.heap.size := by
  obtain ⟨_, _, ⟨cur, h3, _⟩, _, _⟩ := h
  exact (Array.getElem?_eq_some_iff.1 h3).1

theorem Filling.store {w : World} {B : Nat} {S : Nat → Prop} {g n : Nat} {l : List Tm} {x : Tm} (h : Filling w B S g n l) (hl : l.length < n) (hx : x.In w) (hxo : x.On fun b => (S b ∨ B ≤ b) ∧ b ≠ g) :
    Filling ((((w.setCell ⟨g, l.length * 4, none⟩ (.int .i64 x.k)).setCell ⟨g, l.length * 4 + 1, none⟩ (.int .i64 x.n)).setCell ⟨g, l.length * 4 + 2, none⟩ (.string x.s)).setCell ⟨g, l.length * 4 + 3, none⟩ (.slice x.p x.l.length x.c)) B S g n (l ++ [x]) := by
  obtain ⟨h1, h2, ⟨cur, h3, h4, h7⟩, h5, h6⟩ := h
  have hxo' : x.On (fun b => (S b ∨ B ≤ b) ∧ b < w.heap.size ∧ b ≠ g) := (Tm.On.and hxo (Tm.In.on hx)).mono fun b hb => ⟨hb.1.1, hb.2, hb.1.2⟩
  have hall : Tm.OnL (fun b => (S b ∨ B ≤ b) ∧ b < w.heap.size ∧ b ≠ g) (l ++ [x]) := Tm.OnL_of fun y hy => by
    rcases List.mem_append.1 hy with hy | hy
    · exact Tm.OnL_mem h6 y hy
    · simp only [List.mem_cons, List.mem_nil_iff, or_false] at hy
      rw [hy]; exact hxo'
  have hin : Tm.InL w (l ++ [x]) := Tm.InL_of fun y hy => by
    rcases List.mem_append.1 hy with hy | hy
    · exact Tm.InL_mem h5 y hy
    · simp only [List.mem_cons, List.mem_nil_iff, or_false] at hy
      rw [hy]; exact hx
  refine ⟨h1, by simp; omega, ⟨(((cur.setIfInBounds (l.length * 4) (.int .i64 x.k)).setIfInBounds (l.length * 4 + 1) (.int .i64 x.n)).setIfInBounds (l.length * 4 + 2) (.string x.s)).setIfInBounds (l.length * 4 + 3) (.slice x.p x.l.length x.c), ?_, by simpa using h4, ?_⟩,
    Tm.InL.same (S := fun b => (S b ∨ B ≤ b) ∧ b < w.heap.size ∧ b ≠ g) (fun b hb o => by rw [cell_set_ne hb.2.2, cell_set_ne hb.2.2, cell_set_ne hb.2.2, cell_set_ne hb.2.2]) hin hall, hall.mono fun b hb => ⟨hb.1, by simpa using hb.2.1, hb.2.2⟩⟩
  · exact heap_setCell_same _ g _ _ _ _ (heap_setCell_same _ g _ _ _ _ (heap_setCell_same _ g _ _ _ _ (heap_setCell_same _ g _ _ _ _ h3)))
  · intro i y hi j hj
    by_cases hil : i < l.length
    · rw [List.getElem?_append_left hil] at hi
      rw [← h7 i y hi j hj]
      simp only [Array.getElem?_setIfInBounds]
      rw [if_neg (by omega), if_neg (by omega), if_neg (by omega), if_neg (by omega)]
    · rw [List.getElem?_append_right (by omega)] at hi
      have hi0 : i = l.length := by
        have := (List.getElem?_eq_some_iff.1 hi).1
        simp at this
        omega
      subst hi0
      simp only [Nat.sub_self, List.getElem?_cons_zero, Option.some.injEq] at hi
      subst hi
      have hsz : ∀ j, j < 4 → l.length * 4 + j < cur.size := by intro j hj; omega
      have s0 := hsz 0 (by omega); have s1 := hsz 1 (by omega); have s2 := hsz 2 (by omega); have s3 := hsz 3 (by omega)
      simp only [Nat.add_zero] at s0
      match j, hj with
      | 0, _ => simp [s0, Tm.cells]
      | 1, _ => simp [s1, Tm.cells]
      | 2, _ => simp [s2, Tm.cells]
      | 3, _ => simp [s3, Tm.cells]

/-- A row that is filled is a slice of terms. -/
theorem Filling.sl {w : World} {B : Nat} {S : Nat → Prop} {g n : Nat} {l : List Tm} (h : Filling w B S g n l) (hl : l.length = n) (hb : n * 56 ≤ 140737488351232) : Tm.Sl w (some ⟨g, 0, none⟩) n l ∧ Tm.SlOn (fun b => S b ∨ B ≤ b) (some ⟨g, 0, none⟩) l := by
  obtain ⟨h1, h2, ⟨cur, h3, h4, h7⟩, h5, h6⟩ := h
  subst hl
  refine ⟨⟨Nat.le_refl _, ⟨hb, by omega⟩, .inr ⟨g, 0, rfl, ?_⟩, h5⟩, .inr ⟨g, 0, rfl, .inr h1⟩, h6.mono fun b hb => hb.1⟩
  intro i x hx
  have hat : ∀ j, j < 4 → w.cell? ⟨g, 0 + i * 4 + j, none⟩ = x.cells[j]? := fun j hj => by rw [Nat.zero_add, cell_of_row w g _ _ _ _ h3]; exact h7 i x hx j hj
  exact ⟨hat 0 (by omega), hat 1 (by omega), hat 2 (by omega), hat 3 (by omega)⟩

theorem Filling.new {w' : World} {B B0 : Nat} {S : Nat → Prop} {g n : Nat} {xs : List Value} (hB : B ≤ g) (h : w'.ownsRow B0 25 4 (.slice (some ⟨g, 0, none⟩) n n) n xs) : Filling w' B S g n [] := by
  rcases h.2 with ⟨h0, _⟩ | ⟨g', cap, cur, h0, hbg, hg, hnc, hcm, hcs, htake⟩
  · cases h0
  · cases h0
    exact ⟨hB, by simp, ⟨cur, hg, hcs, fun i x hx => by simp at hx⟩, by rw [Tm.InL]; trivial, by rw [Tm.OnL]; trivial⟩

end Go.Proofs.Ythncdmijledpnaa

namespace Go.Proofs.Ythncdmijledpnaa
open Go.RowKit

/-- A function value that may be called: what it makes of a variable, whatever has grown since. -/
def MapFn (fv : Value) (S : Nat → Prop) (f : Int → T) (w0 : World) : Prop :=
  (∀ b, S b → b < w0.heap.size) ∧ ∃ (fid : FuncId) (cap : Array Value), fv = .func (.func fid) #[] cap ∧ (∀ (n : Int) (w : World), (callFunc fid (#[.int .i64 n] ++ cap)).run Try.prog w = .ok (.enter fid (#[.int .i64 n] ++ cap)) w) ∧
    ∀ (n : Int) (w : World), Gr w0 w → In64 n → Calls Try.prog fid (#[.int .i64 n] ++ cap) w (RetTm (fun b => S b ∨ w.heap.size ≤ b) (f n) w)

theorem MapFn.gr {fv : Value} {S : Nat → Prop} {f : Int → T} {w0 w1 : World} (h : MapFn fv S f w0) (hg : Gr w0 w1) : MapFn fv S f w1 := by
  obtain ⟨h0, fid, cap, h1, h2, h3⟩ := h
  exact ⟨fun b hb => Nat.lt_of_lt_of_le (h0 b hb) hg.size, fid, cap, h1, h2, fun n w hw hn => h3 n w (hg.trans hw) hn⟩

theorem in_after' {w2 W : World} {tb : Tm} {S : Nat → Prop} (hin : tb.In w2) (hon : tb.On S) (hc : ∀ b, S b → b < w2.heap.size → ∀ o, W.cell? ⟨b, o, none⟩ = w2.cell? ⟨b, o, none⟩) : tb.In W :=
  Tm.In.same (S := fun b => S b ∧ b < w2.heap.size) (fun b hb o => hc b hb.1 hb.2 o) hin (Tm.On.and hon (Tm.In.on hin))

theorem infoTermM : (Try.prog.info? 25).map (fun i => (i.zero, i.size, i.bytes)) = some (some (.agg #[.int .i64 0, .int .i64 0, .string ⟨#[]⟩, .slice none 0 0]), 4, 56) := by kernel_rfl

theorem after_make {w w1 : World} {v0 v1 v2 v3 u0 u1 u2 u3 : Value} (h : ((w.alloc (.cells #[v0, v1, v2, v3] 25)).alloc (.cells #[u0, u1, u2, u3] 25)).grownBy w1 none) :
    Blk4 w1 w.heap.size v0 v1 v2 v3 ∧ Hid (Blk4 w1 w.heap.size v0 v1 v2 v3 ∧ Blk4 w1 (w.heap.size + 1) u0 u1 u2 u3 ∧ Gr w w1) := by
  have hg0 := grownBy_below h (Nat.le_refl _) (fun _ h => by cases h)
  have h1 : Blk4 w1 w.heap.size v0 v1 v2 v3 := Blk4.gr (Blk4.old (Blk4.new w _ _ _ _) _) hg0
  refine ⟨h1, h1, Blk4.gr ?_ hg0, below_step hg0 (by go_grown)⟩
  have := Blk4.new (w.alloc (.cells #[v0, v1, v2, v3] 25)) u0 u1 u2 u3
  simpa only [World.size_alloc] using this

theorem fill_made {w w1 : World} {o1 o2 : Obj} {S : Nat → Prop} {n : Nat} {xs : List Value} (h : w1.ownsRow w.heap.size 25 4 (.slice (some ⟨((w.alloc o1).alloc o2).heap.size, 0, none⟩) n n) n xs) :
    Hid (Filling w1 (w.heap.size + 1 + 1) S (w.heap.size + 1 + 1) n []) := Filling.new (Nat.le_refl _) (by simpa only [World.size_alloc] using h)

set_option maxHeartbeats 2000000 in
set_option maxRecDepth 100000 in
theorem map_var (n : Int) (s : ByteArray) (p : Option Addr) (c : Nat) (l : List Tm) (fv : Value) (S : Nat → Prop) (f : Int → T) (w : World) (h : (Tm.mk 1 n s p c l).In w) (hf : MapFn fv S f w) :
    Calls Try.prog 126 #[(Tm.mk 1 n s p c l).val, fv] w (RetTm (fun b => S b ∨ w.heap.size ≤ b) (f n) w) := by
  rw [Tm.In] at h
  obtain ⟨hk, hn, hs, hlc, hc, hp, hIn⟩ := h
  clear hp hIn
  obtain ⟨hS, fid, cap, rfl, hq, hcall⟩ := hf
  have HS := Lib.hid hS
  clear hS
  have Hcall := Lib.hid hcall
  have Hn := Lib.hid hn
  clear hcall
  simp only [Tm.val, Tm.k, Tm.n, Tm.s, Tm.p, Tm.c, Tm.l]
  go_enter Try.func126, Try.ntmps126
  go_wp2_with fail
  refine (Hcall.out n _ (by go_grown) Hn.out).mono ?_
  rintro e w1 ⟨bm, hin, he, rfl, hb1, hon⟩
  obtain ⟨⟨y0, y1, y2, y3⟩, ⟨f0, f1, f2, f3⟩, hlt⟩ := (Blk4.gr (Blk4.new _ _ _ _ _) hb1).parts
  simp only [World.size_alloc] at y0 y1 y2 y3 f0 f1 f2 f3 hlt hon
  have g1 : Gr w w1 := below_step hb1 (by go_grown)
  have hs0 : w.heap.size + 1 < w1.heap.size := hlt
  have Hin := Lib.hid hin
  have Hon := Lib.hid hon
  have He := Lib.hid he
  clear hin hon he hb1
  obtain ⟨k', n', s', p', c', l'⟩ := bm
  simp only [Tm.val, Tm.k, Tm.n, Tm.s, Tm.p, Tm.c, Tm.l]
  go_wp2_with fail
  refine bodyPost_ret (v := (Tm.mk k' n' s' p' c' l').val) (by simp [results, Try.results126, go_sem, Tm.val, Tm.k, Tm.n, Tm.s, Tm.p, Tm.c, Tm.l, y0, y1, y2, y3]) rfl ⟨Tm.mk k' n' s' p' c' l', ?_, He.out, rfl, by go_grown, Hon.out.mono fun b hb => hb.imp id fun h => by omega⟩
  exact in_after' Hin.out Hon.out fun b h1 h2 o => by
    have : b ≠ w.heap.size + 1 := by rcases h1 with h1 | h1; · have := HS.out b h1; omega
                                     · omega
    rw [cell_set_ne this, cell_set_ne this, cell_set_ne this, cell_set_ne this]

mutual
theorem T.map_varT : ∀ {t : T}, t.formed = true → T.map varT t = t
  | .mk k n s l, h => by
    rw [T.formed] at h
    rw [T.map]
    by_cases h1 : k = 1
    · subst h1
      simp at h
      rw [if_pos rfl, varT, h.1.2, h.2]
    · rw [if_neg h1] at h ⊢
      by_cases h4 : k = 4
      · subst h4
        simp at h
        rw [if_pos rfl, T.mapL_varT h.2]
      · rw [if_neg h4]
        by_cases h2 : k = 2
        · subst h2
          simp at h
          rw [h.2]
        · by_cases h3 : k = 3
          · subst h3
            simp at h
            rw [h.2]
          · simp [h2, h3, h4] at h
theorem T.mapL_varT : ∀ {l : List T}, T.formedL l = true → T.mapL varT l = l
  | [], _ => by rw [T.mapL]
  | x :: xs, h => by
    rw [T.formedL, Bool.and_eq_true] at h
    rw [T.mapL, T.map_varT h.1, T.mapL_varT h.2]
end

end Go.Proofs.Ythncdmijledpnaa

namespace Go.Proofs.Ythncdmijledpnaa
open Go.RowKit

mutual
/-- The same term? -/
def T.same : T → T → Bool
  | .mk k n s l, .mk k' n' s' l' => decide (k = k') && decide (n = n') && decide (s = s') && decide (l.length = l'.length) && T.sameL l l'
def T.sameL : List T → List T → Bool
  | x :: xs, y :: ys => T.same x y && T.sameL xs ys
  | _, _ => true
end

theorem sameL_take (l l' : List Tm) (k : Nat) (hk : k < l.length) (hk' : k < l'.length) :
    T.sameL (Tm.eraseL (l.take (k + 1))) (Tm.eraseL (l'.take (k + 1))) = (T.sameL (Tm.eraseL (l.take k)) (Tm.eraseL (l'.take k)) && T.same l[k].erase l'[k].erase) := by
  induction l generalizing k l' with
  | nil => exact absurd hk (by simp)
  | cons x xs ih =>
    cases l' with
    | nil => exact absurd hk' (by simp)
    | cons y ys =>
      cases k with
      | zero => simp [Tm.eraseL, T.sameL]
      | succ k =>
        simp only [List.length_cons] at hk hk'
        simp only [List.take_succ_cons, Tm.eraseL, T.sameL, List.getElem_cons_succ]
        rw [ih ys k (by omega) (by omega), Bool.and_assoc]

theorem sameL_false {l l' : List Tm} (k : Nat) (hk : k < l.length) (hk' : k < l'.length) (h : T.same l[k].erase l'[k].erase = false) : T.sameL (Tm.eraseL l) (Tm.eraseL l') = false := by
  induction l generalizing k l' with
  | nil => exact absurd hk (by simp)
  | cons x xs ih =>
    cases l' with
    | nil => exact absurd hk' (by simp)
    | cons y ys =>
      rw [Tm.eraseL, Tm.eraseL, T.sameL]
      cases k with
      | zero => simp only [List.getElem_cons_zero] at h; rw [h]; rfl
      | succ k =>
        simp only [List.length_cons] at hk hk'
        rw [ih k (by omega) (by omega) (by simpa using h), Bool.and_false]

set_option maxHeartbeats 400000 in
set_option maxRecDepth 100000 in
theorem same_any (N : Nat) : ∀ (t u : Tm) (w : World), SizeOf.sizeOf t ≤ N → t.In w → u.In w →
    Calls Try.prog 23 #[t.val, u.val] w (Ret (.bool (T.same t.erase u.erase)) w) := by
  induction N with
  | zero => intro t u w h _; cases t; simp at h
  | succ N ih =>
    intro t u w hN h hu
    obtain ⟨k, n, s, p, c, l⟩ := t
    obtain ⟨k', n', s', p', c', l'⟩ := u
    have hsz := fun x (hx : x ∈ l) => Tm.sizeOf_mem hx k n s p c
    rw [Tm.In] at h hu
    obtain ⟨_, _, hs, hl, hc, hp, hIn⟩ := h
    obtain ⟨_, _, hs', hl', hc', hp', hIn'⟩ := hu
    have Hp := Lib.hid hp
    have HIn := Lib.hid hIn
    have Hp' := Lib.hid hp'
    have HIn' := Lib.hid hIn'
    have Hsz := Lib.hid hsz
    have Hih := Lib.hid ih
    clear hp hIn hsz ih hp' hIn'
    simp only [Tm.val, Tm.k, Tm.n, Tm.s, Tm.p, Tm.c, Tm.l, Tm.erase, T.same, Tm.eraseL_length]
    generalize hr : (_ && _ : Bool) = r
    have Hr := Lib.hid hr
    clear hr
    by_cases hg : k = k' ∧ n = n' ∧ s.toList = s'.toList ∧ l.length = l'.length
    · obtain ⟨rfl, rfl, e3, e4⟩ := hg
      have e3' : (s.toList == s'.toList) = true := by simp [e3]
      have E4 : Hid (l'.length = l.length) := e4.symm
      have Hfin : Hid (r = T.sameL (Tm.eraseL l) (Tm.eraseL l')) := by
        refine Hr.out.symm.trans ?_; simp [e3, e4]
      clear Hr e3 e4
      rw [E4.out]
      go_enter Try.func23, Try.ntmps23
      go_wp2_with fail
      go_loopw [5] (fun i wr => ∃ k : Nat, k ≤ l.length ∧ i = .int .i64 k ∧ Hid (T.sameL (Tm.eraseL (l.take k)) (Tm.eraseL (l'.take k)) = true) ∧ Gr w wr ∧
          w.heap.size + 2 ≤ wr.heap.size ∧ wr.cell? ⟨w.heap.size, 3, none⟩ = some (.slice p l.length c) ∧ wr.cell? ⟨w.heap.size + 1, 3, none⟩ = some (.slice p' l.length c'))
        (fun i _ => l.length - (intOf i).toNat)
      case atStart => exact ⟨0, Nat.zero_le _, rfl, rfl, by go_grown, by simp, by go_cell, by go_cell⟩
      case round =>
        obtain ⟨i, hi, rfl, hpre, hb, hbs, b1, b2⟩ := hrel
        by_cases hlt : i < l.length
        · rcases Hp.out with rfl | ⟨b, o, rfl, hrow⟩
          · simp at hlt
          rcases Hp'.out with rfl | ⟨b', o', rfl, hrow'⟩
          · have := E4.out; simp at this; omega
          have Hrow := Lib.hid hrow
          have Hrow' := Lib.hid hrow'
          clear hrow hrow'
          have hlt' : i < l'.length := by have := E4.out; omega
          have hbl : b < w.heap.size := Tm.row_lt Hrow.out (by rintro rfl; simp at hlt)
          have hbl' : b' < w.heap.size := Tm.row_lt Hrow'.out (by rintro rfl; simp at hlt')
          obtain ⟨c0, c1, c2, c3⟩ := Tm.row_mono Hrow.out (fun o' => hb.cell (p := ⟨b, o', none⟩) hbl) i l[i] (List.getElem?_eq_getElem hlt)
          obtain ⟨d0, d1, d2, d3⟩ := Tm.row_mono Hrow'.out (fun o'' => hb.cell (p := ⟨b', o'', none⟩) hbl') i l'[i] (List.getElem?_eq_getElem hlt')
          have hmem : l[i] ∈ l := List.getElem_mem hlt
          have hmem' : l'[i] ∈ l' := List.getElem_mem hlt'
          have hx : Hid (l[i].In wr) := Tm.In_below (hb.mono (by omega)) (Tm.InL_mem HIn.out _ hmem)
          have hx' : Hid (l'[i].In wr) := Tm.In_below (hb.mono (by omega)) (Tm.InL_mem HIn'.out _ hmem')
          have Hz := Hsz.out _ hmem
          generalize hxe : l[i] = x at *
          generalize hxe' : l'[i] = x' at *
          go_wp2_with fail
          refine wp_region_rely [fx (.pointer (some ⟨w.heap.size, 3, none⟩)), fx (.slice (some ⟨b, o, none⟩) l.length c), fx (.int .i64 i), fx (.pointer (some ⟨b, o + i * 4, none⟩)), fx x.val,
            fx (.pointer (some ⟨w.heap.size + 1, 3, none⟩)), fx (.slice (some ⟨b', o', none⟩) l.length c'), fx (.int .i64 i), fx (.pointer (some ⟨b', o' + i * 4, none⟩)), fx x'.val,
            fx (.bool (T.same x.erase x'.erase)), fx (.bool (!T.same x.erase x'.erase))] (by kernel_rfl) (by kernel_rfl) (by repeat (first | exact Stable.nil | refine Stable.fix ?_)) ?_ ?_
          · refine ⟨?_, ?_, ?_, ?_, ?_, ?_, ?_, ?_, ?_, ?_, ?_, ?_, trivial⟩
            all_goals
              intro a w1 hg hold
              have h2 : a.tmps[2]?.getD undef = .pointer (some ⟨w.heap.size, 0, none⟩) := hold 2 rfl
              have h3 : a.tmps[3]?.getD undef = .pointer (some ⟨w.heap.size + 1, 0, none⟩) := hold 3 rfl
              have h5 : a.tmps[5]?.getD undef = .int .i64 i := hold 5 rfl
              clear hold
              have z1 := Gr.at hg b1
              have z2 := Gr.at hg b2
              have z3 := Gr.at hg c0
              have z4 := Gr.at hg c1
              have z5 := Gr.at hg c2
              have z6 := Gr.at hg c3
              have z7 := Gr.at hg d0
              have z8 := Gr.at hg d1
              have z9 := Gr.at hg d2
              have z10 := Gr.at hg d3
              simp [predsImp, Region.binds, dstAt, fx]
              intros
              rename_i K hK
              clear b1 b2 c0 c1 c2 c3 d0 d1 d2 d3
              go_simp
              first
                | exact hK _ _ rfl (Gr.rfl' _)
                | (refine (Hih.out x x' _ (by omega) (Tm.In_below hg hx.out) (Tm.In_below hg hx'.out)).mono ?_
                   rintro e w2 ⟨rfl, hb2⟩
                   exact hK _ _ rfl hb2)
          · intro w1 hg
            have hsz1 := hg.size
            have b1' := Gr.at hg b1
            have b2' := Gr.at hg b2
            rintro _ rfl _ rfl _ rfl _ rfl _ rfl _ rfl _ rfl _ rfl _ rfl _ rfl _ rfl _ rfl
            simp only [finAll, Act.put, Exit.then, List.setIfInBounds_toArray, List.set_cons_succ, List.set_cons_zero]
            generalize hxf : T.same x.erase x'.erase = bx
            have Hxf := Lib.hid hxf
            have Htk : Hid (T.sameL (Tm.eraseL (l.take (i + 1))) (Tm.eraseL (l'.take (i + 1))) = bx) := by
              have h9 := sameL_take l l' i hlt hlt'
              rw [hpre.out, hxe, hxe', Hxf.out] at h9
              exact h9
            clear hxf b1 b2
            cases bx
            · go_wp2_with fail
              go_ret
              refine ret_bool ?_ (hb.trans hg)
              rw [Hfin.out, sameL_false i hlt hlt' (by rw [hxe, hxe']; exact Hxf.out)]
            · go_wp2_with fail
              go_roundw
              case rel => exact ⟨i + 1, by omega, by go_num, Htk.out, hb.trans hg, by omega, b1', b2'⟩
              case measure => simp [intOf]; omega
        · go_wp2_with fail
          go_ret
          refine ret_bool ?_ hb
          have E := E4.out
          rw [Hfin.out, ← hpre.out, List.take_of_length_le (by omega), List.take_of_length_le (by omega)]
    · have Hfin : Hid (r = false) := by
        refine Hr.out.symm.trans ?_
        rw [Bool.eq_false_iff]
        intro h9
        simp only [Bool.and_eq_true, decide_eq_true_eq] at h9
        exact hg ⟨h9.1.1.1.1, h9.1.1.1.2, h9.1.1.2, h9.1.2⟩
      have Hg := Lib.hid hg
      clear hg Hr
      go_enter Try.func23, Try.ntmps23
      go_wp2_with fail
      all_goals first
        | (go_ret; exact ret_bool Hfin.out.symm (by go_grown))
        | (exfalso; refine Hg.out ⟨by assumption, by assumption, by assumption, ?_⟩
           have h9 : ((l.length : Int) != l'.length) = false := by assumption
           simp at h9; omega)

/-- hornref.Same, of whatever terms. -/
theorem same_calls {t u : Tm} {w : World} (h : t.In w) (hu : u.In w) : Calls Try.prog 23 #[t.val, u.val] w (Ret (.bool (T.same t.erase u.erase)) w) :=
  same_any _ t u w (Nat.le_refl _) h hu
end Go.Proofs.Ythncdmijledpnaa
