/-
  append of one element, of any type, onto a row of the call's own.
  Slices of terms that a call makes by append: what they hold, and that append puts one more behind.
  Terms in memory: more of what all walks want (small terms, blocks of four cells, the makers of terms).
  Arguments of type []api.Term and []int that can be read, and how many elements they have at most.
  term.V, term.Map with a function that keeps nothing, term.Copy.
-/
import Derived.Test.YtjdoflfdlhpbmaaGreatBF02
import Derived.Test.YtjdoflfdlhpbmaaGreatRows
namespace Go.Proofs.YtjdoflfdlhpbmaaGreat
open Go.RowKit

section
variable {P : Program} {w : World}

/-- append onto a row of the call's own: the row is where it was, or new. -/
theorem run_append_own_fresh (w : World) (base : Nat) (t ty e : TypeId) (i : TypeInfo) (z : Value) (size bytes : Nat) (ht : P.underlying t = some (.slice e)) (hi : P.info? e = some i) (hz : i.zero = some z)
    (hsize : i.size = size) (hby : i.bytes = bytes) (hzs : z.cells.size = size) (hsz : 0 < size)
    (v : Value) (n : Nat) (xs : List Value) (hown : w.ownsRow base e size v n xs)
    (a : Addr) (m c : Nat) (news : List Value) (hl : news.length = m * size) (hnews : ∀ j u, news[j]? = some u → w.cell? (a.add j) = some u) (h1 : ∀ u ∈ news, u.oneCell' = true)
    (h63 : n + m ≤ maxLen) (hbytes : (n + m) * bytes ≤ 140737488355328) (hbase : base ≤ w.heap.size) (hm : 0 < m) :
    ∃ v' w', (Builtin.append_ #[t, t] ty #[v, .slice (some a) m c]).run P w = .ok v' w' ∧ w'.ownsRow base e size v' (n + m) (xs ++ news) ∧ w.grownBy w' v.ownBlock ∧
      (v'.ownBlock = v.ownBlock ∨ v'.ownBlock = some w.heap.size) := by
  obtain ⟨v', w', hr, h2, h3, _⟩ := run_append_own (P := P) w base t ty e i z size bytes ht hi hz hsize hby hzs hsz v n xs hown a m c news hl hnews h1 h63 hbytes hbase
  refine ⟨v', w', hr, h2, h3, ?_⟩
  subst hsize
  subst hby
  have hsmall : n + m ≤ 9223372036854775807 := by simp only [maxLen] at h63; omega
  rcases hown.2 with ⟨rfl, rfl⟩ | ⟨g, cap, cur, rfl, hbg, hg, hnc, hcm, hcs, htake⟩
  · have hr2 := run_append_nil (P := P) w t ty e i z ht hi hz a m c news hl hnews (by omega) (by omega) (by have hb := hbytes; simp only [Nat.zero_add] at hb; omega)
    rw [hr] at hr2
    injection hr2 with h4 h5
    exact .inr (by rw [h4]; rfl)
  · by_cases hroom : n + m ≤ cap
    · have hfit : n * i.size + news.length ≤ cur.size := by rw [hl, hcs, ← Nat.add_mul]; exact Nat.mul_le_mul_right _ hroom
      have hr2 := run_append_room (P := P) w t ty e i ht hi g n cap cur hg a m c news hl hnews h1 hroom hfit
      rw [hr] at hr2
      injection hr2 with h4 h5
      exact .inl (by rw [h4]; rfl)
    · have holds : ∀ j u, xs[j]? = some u → w.cell? ((⟨g, 0, none⟩ : Addr).add j) = some u := hown.cells (g := g) rfl
      have hr2 := run_append_grow (P := P) w t ty e i z ht hi hz ⟨g, 0, none⟩ n cap xs hown.1 holds a m c news hl hnews (by omega) (by omega) (growslice_fits (by omega) hbytes)
      rw [hr] at hr2
      injection hr2 with h4 h5
      exact .inr (by rw [h4]; rfl)

theorem grownBy_below {w w' : World} {row : Option Nat} {B : Nat} (hg : w.grownBy w' row) (hB : B ≤ w.heap.size) (hr : ∀ k, row = some k → B ≤ k) : Below B w w' :=
  ⟨hg.os, hg.tape, hg.output, hg.size, fun k hk => hg.block k (by omega) fun e => by have := hr k e.symm; omega⟩

theorem ownsRow_gr {w w' : World} {base : Nat} {e : TypeId} {size : Nat} {v : Value} {n : Nat} {xs : List Value} (h : w.ownsRow base e size v n xs) (hg : Gr w w') : w'.ownsRow base e size v n xs := by
  refine ⟨h.1, h.2.imp id ?_⟩
  rintro ⟨g, cap, cur, rfl, h2, h3, h4⟩
  exact ⟨g, cap, cur, rfl, h2, by rw [hg.block g (Array.getElem?_eq_some_iff.1 h3).1]; exact h3, h4⟩

/-- append of one element: the walk goes on with a row that holds one more. -/
theorem wpList_append_one {ops : Array Oper} {rest : List Oper} {o : Oper} {a : Act} {Q : Exit → Act → World → Prop} (hgd : o.guard = none) (s y : Operand) (ty e : TypeId)
    (ho : o.op = .call { callee := .builtin .append, args := #[s, y], argTypes := #[ty, ty] }) (ht : P.underlying ty = some (.slice e)) {z : Value} {size bytes : Nat}
    (hinfo : (P.info? e).map (fun i => (i.zero, i.size, i.bytes)) = some (some z, size, bytes)) (hzs : z.cells.size = size) (hsz : 0 < size)
    (B : Nat) (v : Value) (n : Nat) (xs : List Value) (b c : Nat) (news : List Value) (hs : a.eval s = v) (hy : a.eval y = .slice (some ⟨b, 0, none⟩) 1 c) (hown : w.ownsRow B e size v n xs) (hB : B ≤ w.heap.size)
    (hl : news.length = size) (hnews : ∀ j u, news[j]? = some u → w.cell? ⟨b, j, none⟩ = some u) (h1 : ∀ u ∈ news, u.oneCell' = true) (hn : n + 1 ≤ maxLen) (hby : (n + 1) * bytes ≤ 140737488355328)
    (hK : ∀ v' w', w'.ownsRow B e size v' (n + 1) (xs ++ news) → w.grownBy w' v.ownBlock → (v'.ownBlock = v.ownBlock ∨ v'.ownBlock = some w.heap.size) → wpList P ops Q rest (a.put o.dst v') w') : wpList P ops Q (o :: rest) a w := by
  obtain ⟨i0, hi, hz0, hz1, hz2⟩ := info_parts hinfo
  obtain ⟨v', w', hr, h2, h3, h4⟩ := run_append_own_fresh (P := P) w B ty o.type e i0 z size bytes ht hi hz0 hz1 hz2 hzs hsz v n xs hown
    ⟨b, 0, none⟩ 1 c news (by omega) (by
      intro j u hu
      rw [Go.WideShapes.add_plain, Nat.zero_add]
      exact hnews j u hu) h1 hn hby hB (by omega)
  refine wpList_plain hgd fun K hK' => ?_
  unfold Oper.wp execOp
  simp only [ho, resolve, invoke, builtin, Sem.run_bind, Sem.run_pure, Result.andThen_ok, List.map_toArray, List.map_cons, List.map_nil, hs, hy, hr]
  exact hK' _ _ (hK v' w' h2 h3 h4)
end
end Go.Proofs.YtjdoflfdlhpbmaaGreat

namespace Go.Proofs.YtjdoflfdlhpbmaaGreat
open Go.RowKit

mutual
theorem Tm.On.and {S S' : Nat → Prop} : ∀ {t : Tm}, t.On S → t.On S' → t.On fun b => S b ∧ S' b
  | .mk _ _ _ _ _ l, h, h' => by
    rw [Tm.On] at h h' ⊢
    refine ⟨?_, Tm.OnL.and h.2 h'.2⟩
    rcases h.1 with h1 | ⟨b, o, h1, h2⟩
    · exact .inl h1
    · rcases h'.1 with h3 | ⟨b', o', h3, h4⟩
      · exact .inl h3
      · rw [h1] at h3
        cases h3
        exact .inr ⟨b, o, h1, h2, h4⟩
theorem Tm.OnL.and {S S' : Nat → Prop} : ∀ {l : List Tm}, Tm.OnL S l → Tm.OnL S' l → Tm.OnL (fun b => S b ∧ S' b) l
  | [], _, _ => by rw [Tm.OnL]; trivial
  | _ :: _, h, h' => by
    rw [Tm.OnL] at h h' ⊢
    exact ⟨Tm.On.and h.1 h'.1, Tm.OnL.and h.2 h'.2⟩
end

theorem cells_at : ∀ {l : List Tm} {i : Nat} {x : Tm}, l[i]? = some x → ∀ j, j < 4 → (l.flatMap Tm.cells)[i * 4 + j]? = x.cells[j]?
  | y :: ys, 0, x, h, j, hj => by
    simp only [List.getElem?_cons_zero, Option.some.injEq] at h
    subst h
    rw [List.flatMap_cons, Nat.zero_mul, Nat.zero_add, List.getElem?_append_left (by simp [Tm.cells]; omega)]
  | y :: ys, i + 1, x, h, j, hj => by
    simp only [List.getElem?_cons_succ] at h
    rw [List.flatMap_cons, List.getElem?_append_right (by simp [Tm.cells]; omega), ← cells_at h j hj]
    congr 1
    simp [Tm.cells]
    omega

/-- The slice v of the call's own (blocks from B on) holds the terms l; they lie on S or on what is new. -/
def Built (w : World) (B : Nat) (S : Nat → Prop) (v : Value) (l : List Tm) : Prop :=
  w.ownsRow B 24 4 v l.length (l.flatMap Tm.cells) ∧ Tm.InL w l ∧ Tm.OnL (fun b => (S b ∨ B ≤ b) ∧ b < w.heap.size ∧ v.ownBlock ≠ some b) l

theorem Built.nil (w : World) (B : Nat) (S : Nat → Prop) : Built w B S (.slice none 0 0) [] :=
  ⟨World.ownsRow_nil w B _ 4, by rw [Tm.InL]; trivial, by rw [Tm.OnL]; trivial⟩

theorem Built.gr {w w' : World} {B : Nat} {S : Nat → Prop} {v : Value} {l : List Tm} (h : Built w B S v l) (hg : Gr w w') : Built w' B S v l :=
  ⟨ownsRow_gr h.1 hg, Tm.InL_below hg h.2.1, h.2.2.mono fun _ hb => ⟨hb.1, Nat.lt_of_lt_of_le hb.2.1 hg.size, hb.2.2⟩⟩

theorem Built.block {w : World} {B : Nat} {S : Nat → Prop} {v : Value} {l : List Tm} (h : Built w B S v l) : ∀ k, v.ownBlock = some k → B ≤ k := fun k hk => (h.1.lt k hk).1

theorem Built.form {w : World} {B : Nat} {S : Nat → Prop} {v : Value} {l : List Tm} (h : Built w B S v l) : ∃ p c, v = .slice p l.length c ∧ l.length ≤ c ∧ c ≤ 9223372036854775807 := by
  rcases h.1.2 with ⟨rfl, h0⟩ | ⟨g, cap, cur, rfl, _, _, h1, h2, _⟩
  · exact ⟨none, 0, by rw [h0], by omega, by omega⟩
  · simp only [maxLen] at h2
    exact ⟨_, _, rfl, h1, by omega⟩

/-- What has been made is a slice of terms. -/
theorem Built.sl {w : World} {B : Nat} {S : Nat → Prop} {p : Option Addr} {n c : Nat} {l : List Tm} (h : Built w B S (.slice p n c) l) (hl : l.length * 56 ≤ 140737488351232) :
    n = l.length ∧ Tm.Sl w p c l ∧ Tm.SlOn (fun b => S b ∨ B ≤ b) p l := by
  have hO : Tm.OnL (fun b => S b ∨ B ≤ b) l := h.2.2.mono fun b hb => hb.1
  rcases h.1.2 with ⟨h0, h1⟩ | ⟨g, cap, cur, h0, hbg, hg, hnc, hcm, hcs, htake⟩
  · cases h0
    have hn : l = [] := List.eq_nil_of_length_eq_zero h1
    subst hn
    exact ⟨rfl, ⟨Nat.le_refl _, ⟨by simp, by omega⟩, .inl rfl, h.2.1⟩, .inl rfl, hO⟩
  · cases h0
    simp only [maxLen] at hcm
    refine ⟨rfl, ⟨hnc, ⟨hl, by omega⟩, .inr ⟨g, 0, rfl, ?_⟩, h.2.1⟩, .inr ⟨g, 0, rfl, .inr hbg⟩, hO⟩
    intro i x hx
    have hi : i < l.length := (List.getElem?_eq_some_iff.1 hx).1
    have hat : ∀ j, j < 4 → w.cell? ⟨g, 0 + i * 4 + j, none⟩ = x.cells[j]? := by
      intro j hj
      rw [Nat.zero_add, h.1.cellAt _ (by omega)]
      exact cells_at hx j hj
    exact ⟨hat 0 (by omega), hat 1 (by omega), hat 2 (by omega), hat 3 (by omega)⟩

theorem infoTerm : (Tryz.prog.info? 24).map (fun i => (i.zero, i.size, i.bytes)) = some (some (.agg #[.int .i64 0, .int .i64 0, .string ⟨#[]⟩, .slice none 0 0]), 4, 56) := by kernel_rfl

/-- append of one term. -/
theorem Built.snoc {w w' : World} {B : Nat} {S : Nat → Prop} {v v' : Value} {l : List Tm} {x : Tm} (h : Built w B S v l) (hx : x.In w) (hxo : x.On fun b => (S b ∨ B ≤ b) ∧ v.ownBlock ≠ some b)
    (ho : w'.ownsRow B 24 4 v' (l.length + 1) (l.flatMap Tm.cells ++ x.cells)) (hg : w.grownBy w' v.ownBlock) (hv : v'.ownBlock = v.ownBlock ∨ v'.ownBlock = some w.heap.size) : Built w' B S v' (l ++ [x]) := by
  have hxo' : x.On (fun b => (S b ∨ B ≤ b) ∧ b < w.heap.size ∧ v.ownBlock ≠ some b) := by
    exact Tm.On.and hxo (Tm.In.on hx) |>.mono fun b hb => ⟨hb.1.1, hb.2, hb.1.2⟩
  have hall : Tm.OnL (fun b => (S b ∨ B ≤ b) ∧ b < w.heap.size ∧ v.ownBlock ≠ some b) (l ++ [x]) := Tm.OnL_of fun y hy => by
    rcases List.mem_append.1 hy with hy | hy
    · exact Tm.OnL_mem h.2.2 y hy
    · simp only [List.mem_cons, List.mem_nil_iff, or_false] at hy
      rw [hy]; exact hxo'
  have hin : Tm.InL w (l ++ [x]) := Tm.InL_of fun y hy => by
    rcases List.mem_append.1 hy with hy | hy
    · exact Tm.InL_mem h.2.1 y hy
    · simp only [List.mem_cons, List.mem_nil_iff, or_false] at hy
      rw [hy]; exact hx
  refine ⟨by simpa using ho, Tm.InL.same (S := fun b => (S b ∨ B ≤ b) ∧ b < w.heap.size ∧ v.ownBlock ≠ some b) (fun b hb o => World.cell?_of_block (hg.block b hb.2.1 (Ne.symm hb.2.2))) hin hall, hall.mono fun b hb => ⟨hb.1, Nat.lt_of_lt_of_le hb.2.1 hg.size, ?_⟩⟩
  rcases hv with hv | hv
  · rw [hv]; exact hb.2.2
  · rw [hv]; intro e; have := Option.some.inj e; have := hb.2.1; omega

theorem wpList_append_term {P : Program} {w : World} {ops : Array Oper} {rest : List Oper} {o : Oper} {a : Act} {Q : Exit → Act → World → Prop} (hgd : o.guard = none) (s y : Operand)
    (ho : o.op = .call { callee := .builtin .append, args := #[s, y], argTypes := #[22, 22] }) (hP : P = Tryz.prog)
    (B : Nat) (S : Nat → Prop) (v : Value) (l : List Tm) (x : Tm) (b c : Nat) (hs : a.eval s = v) (hy : a.eval y = .slice (some ⟨b, 0, none⟩) 1 c) (h : Built w B S v l) (hB : B ≤ w.heap.size)
    (hx : x.In w) (hxo : x.On fun b => (S b ∨ B ≤ b) ∧ v.ownBlock ≠ some b) (hl : (l.length + 1) * 56 ≤ 140737488351232)
    (c0 : w.cell? ⟨b, 0, none⟩ = some (.int .i64 x.k)) (c1 : w.cell? ⟨b, 1, none⟩ = some (.int .i64 x.n)) (c2 : w.cell? ⟨b, 2, none⟩ = some (.string x.s)) (c3 : w.cell? ⟨b, 3, none⟩ = some (.slice x.p x.l.length x.c))
    (hK : ∀ v' w', Built w' B S v' (l ++ [x]) → Below B w w' → (∀ p : Addr, p.block < w.heap.size → v.ownBlock ≠ some p.block → w'.cell? p = w.cell? p) → wpList P ops Q rest (a.put o.dst v') w') : wpList P ops Q (o :: rest) a w := by
  subst hP
  obtain ⟨i0, hi, hz0, hz1, hz2⟩ := info_parts infoTerm
  obtain ⟨v', w', hr, h2, h3, h4⟩ := run_append_own_fresh (P := Tryz.prog) w B 22 o.type 24 i0 _ 4 56 Tryz.underlying22 hi hz0 hz1 hz2 rfl (by decide) v l.length (l.flatMap Tm.cells) h.1
    ⟨b, 0, none⟩ 1 c x.cells rfl (by
      intro j u hu
      match j, hu with
      | 0, hu => cases hu; exact c0
      | 1, hu => cases hu; exact c1
      | 2, hu => cases hu; exact c2
      | 3, hu => cases hu; exact c3
      | j + 4, hu => simp [Tm.cells] at hu) (by
      intro u hu
      simp only [Tm.cells, List.mem_cons, List.mem_nil_iff, or_false] at hu
      rcases hu with rfl | rfl | rfl | rfl <;> rfl) (by simp only [maxLen]; omega) (by omega) hB (by omega)
  refine wpList_plain hgd fun K hK' => ?_
  unfold Oper.wp execOp
  simp only [ho, resolve, invoke, builtin, Sem.run_bind, Sem.run_pure, Result.andThen_ok, List.map_toArray, List.map_cons, List.map_nil, hs, hy, hr]
  exact hK' _ _ (hK v' w' (h.snoc hx hxo h2 h3 h4) (grownBy_below h3 hB h.block) fun p hp hne => World.cell?_of_block (h3.block p.block hp (Ne.symm hne)))

end Go.Proofs.YtjdoflfdlhpbmaaGreat

namespace Go.Proofs.YtjdoflfdlhpbmaaGreat
open Go.RowKit

def compT (s : Str) (l : List T) : T := .mk 4 0 s l
def intTm (n : Int) : Tm := .mk 2 n ⟨#[]⟩ none 0 []
@[simp] theorem atomTm_k (s : ByteArray) : (atomTm s).k = 3 := rfl
@[simp] theorem atomTm_n (s : ByteArray) : (atomTm s).n = 0 := rfl
@[simp] theorem atomTm_s (s : ByteArray) : (atomTm s).s = s := rfl
@[simp] theorem atomTm_p (s : ByteArray) : (atomTm s).p = none := rfl
@[simp] theorem atomTm_c (s : ByteArray) : (atomTm s).c = 0 := rfl
@[simp] theorem atomTm_l (s : ByteArray) : (atomTm s).l = [] := rfl
@[simp] theorem intTm_k (n : Int) : (intTm n).k = 2 := rfl
@[simp] theorem intTm_n (n : Int) : (intTm n).n = n := rfl
@[simp] theorem intTm_s (n : Int) : (intTm n).s = ⟨#[]⟩ := rfl
@[simp] theorem intTm_p (n : Int) : (intTm n).p = none := rfl
@[simp] theorem intTm_c (n : Int) : (intTm n).c = 0 := rfl
@[simp] theorem intTm_l (n : Int) : (intTm n).l = [] := rfl
theorem one_row {t : Tm} {w : World} {b : Nat} (ht : t.In w)
    (c0 : w.cell? ⟨b, 0, none⟩ = some (.int .i64 t.k)) (c1 : w.cell? ⟨b, 1, none⟩ = some (.int .i64 t.n)) (c2 : w.cell? ⟨b, 2, none⟩ = some (.string t.s)) (c3 : w.cell? ⟨b, 3, none⟩ = some (.slice t.p t.l.length t.c)) :
    Tm.Sl w (some ⟨b, 0, none⟩) 1 [t] := by
  refine ⟨Nat.le_refl _, ⟨by simp, by simp⟩, .inr ⟨b, 0, rfl, ?_⟩, Tm.InL_of fun x hx => ?_⟩
  · intro i x hx
    match i, hx with
    | 0, hx => cases hx; exact ⟨c0, c1, c2, c3⟩
  · simp only [List.mem_cons, List.mem_nil_iff, or_false] at hx
    rw [hx]; exact ht

/-- A compound over a slice of terms. -/
def compTm (s : ByteArray) (p : Option Addr) (c : Nat) (l : List Tm) : Tm := .mk 4 0 s p c l
theorem compTm_in {s : ByteArray} {p : Option Addr} {c : Nat} {l : List Tm} {w : World} (hs : s.size ≤ 140737488351232) (h : Tm.Sl w p c l) : (compTm s p c l).In w := by
  rw [compTm, Tm.In]
  exact ⟨⟨by omega, by omega⟩, ⟨by omega, by omega⟩, hs, h.1, h.2.1, h.2.2.1, h.2.2.2⟩

set_option maxHeartbeats 400000 in
theorem comp_calls (s : ByteArray) (p : Option Addr) (n c : Nat) (w : World) : Calls Tryz.prog 47 #[.string s, .slice p n c] w (Ret (.agg #[.int .i64 4, .int .i64 0, .string s, .slice p n c]) w) := by
  go_enter Tryz.func47, Tryz.ntmps47
  go_wp2_with fail
  exact bodyPost_ret (v := .agg #[.int .i64 4, .int .i64 0, .string s, .slice p n c]) (by simp [results, Tryz.results47, go_sem]) rfl ⟨rfl, by go_grown⟩

/-- A block that is just the four cells of a term. -/
def Blk4 (w : World) (b : Nat) (v0 v1 v2 v3 : Value) : Prop := w.heap[b]? = some (.cells #[v0, v1, v2, v3] 24)
theorem Blk4.gr {w w' : World} {b : Nat} {v0 v1 v2 v3 : Value} (h : Blk4 w b v0 v1 v2 v3) (hg : Gr w w') : Blk4 w' b v0 v1 v2 v3 :=
  (hg.block b (Array.getElem?_eq_some_iff.1 h).1).trans h
theorem Blk4.below {w w' : World} {B b : Nat} {v0 v1 v2 v3 : Value} (h : Blk4 w b v0 v1 v2 v3) (hg : Below B w w') (hb : b < B) : Blk4 w' b v0 v1 v2 v3 := (hg.block b hb).trans h
theorem Blk4.parts {w : World} {b : Nat} {v0 v1 v2 v3 : Value} (h : Blk4 w b v0 v1 v2 v3) :
    (w.cell? ⟨b, 0, none⟩ = some v0 ∧ w.cell? ⟨b, 1, none⟩ = some v1 ∧ w.cell? ⟨b, 2, none⟩ = some v2 ∧ w.cell? ⟨b, 3, none⟩ = some v3) ∧
    (w.frozen? ⟨b, 0, none⟩ = false ∧ w.frozen? ⟨b, 1, none⟩ = false ∧ w.frozen? ⟨b, 2, none⟩ = false ∧ w.frozen? ⟨b, 3, none⟩ = false) ∧ b < w.heap.size :=
  ⟨⟨cell_of_row w b 0 _ _ _ h, cell_of_row w b 1 _ _ _ h, cell_of_row w b 2 _ _ _ h, cell_of_row w b 3 _ _ _ h⟩,
   ⟨frozen_of_row w b 0 _ _ h, frozen_of_row w b 1 _ _ h, frozen_of_row w b 2 _ _ h, frozen_of_row w b 3 _ _ h⟩, (Array.getElem?_eq_some_iff.1 h).1⟩
theorem Blk4.new (w : World) (v0 v1 v2 v3 : Value) : Blk4 (w.alloc (.cells #[v0, v1, v2, v3] 24)) w.heap.size v0 v1 v2 v3 := heap_alloc_new w _
theorem Blk4.old {w : World} {b : Nat} {v0 v1 v2 v3 : Value} (h : Blk4 w b v0 v1 v2 v3) (o : Obj) : Blk4 (w.alloc o) b v0 v1 v2 v3 :=
  (heap_alloc_old w o (Array.getElem?_eq_some_iff.1 h).1).trans h

def T.k : T → Int | .mk k _ _ _ => k
def T.n : T → Int | .mk _ n _ _ => n
def T.s : T → Str | .mk _ _ s _ => s
def T.l : T → List T | .mk _ _ _ l => l

def zeroT : T := .mk 0 0 [] []
def zeroTm : Tm := .mk 0 0 ⟨#[]⟩ none 0 []
theorem zeroTm_in (w : World) : zeroTm.In w := by
  rw [zeroTm, Tm.In, Tm.InL]
  exact ⟨⟨by omega, by omega⟩, ⟨by omega, by omega⟩, by decide, Nat.le_refl _, ⟨by simp, by omega⟩, .inl rfl, trivial⟩
theorem zeroTm_erase : zeroTm.erase = zeroT := by
  rw [zeroTm, Tm.erase, Tm.eraseL, ByteArray.toList_mk]; rfl

theorem sep_own {S : Nat → Prop} {v : Value} {B n m : Nat} (hS : ∀ b, S b → b < m) (hmB : m ≤ B) (hv : ∀ k, v.ownBlock = some k → B ≤ k ∧ k < n) {b : Nat} (hb : S b ∨ n ≤ b) (hBn : B ≤ n) : (S b ∨ B ≤ b) ∧ v.ownBlock ≠ some b := by
  refine ⟨hb.imp id fun h => by omega, fun h => ?_⟩
  have h1 := hv b h
  rcases hb with hb | hb
  · have := hS b hb; omega
  · omega


theorem rV_calls (n : Int) (w : World) (h : In64 n) : Calls Tryz.prog 37 #[.int .i64 n] w (Ret (.agg #[.int .i64 1, .int .i64 n, .string ⟨#[]⟩, .slice none 0 0]) w) := by
  have H := Lib.hid h
  clear h
  go_enter Tryz.func37, Tryz.ntmps37
  go_wp2_with fail
  exact bodyPost_ret (v := .agg #[.int .i64 1, .int .i64 n, .string ⟨#[]⟩, .slice none 0 0]) (by simp [results, Tryz.results37, go_sem]) rfl ⟨rfl, by go_grown⟩

end Go.Proofs.YtjdoflfdlhpbmaaGreat

namespace Go.Proofs.YtjdoflfdlhpbmaaGreat
open Go.ChangeShapes Go.WideShapes Go.ChangeAt Go.RowKit Go.Deep

/-- A slice of numbers. -/
structure Ints where
  p : Option Addr
  c : Nat
  l : List Int
def Ints.val (x : Ints) : Value := .slice x.p x.l.length x.c
def Ints.In (w : World) (x : Ints) : Prop :=
  x.l.length ≤ x.c ∧ (x.l.length * 8 ≤ 140737488351232 ∧ x.c ≤ 9223372036854775807) ∧ (x.l = [] ∨ ∃ b o, x.p = some ⟨b, o, none⟩ ∧ b < w.heap.size ∧ ∀ i n, x.l[i]? = some n → w.cell? ⟨b, o + i, none⟩ = some (.int .i64 n)) ∧ ∀ n ∈ x.l, In64 n
theorem Ints.In.mono {w w' : World} {x : Ints} (h : x.In w) (hg : Gr w w') : x.In w' :=
  ⟨h.1, h.2.1, h.2.2.1.imp id fun ⟨b, o, h1, h2, h3⟩ => ⟨b, o, h1, Nat.lt_of_lt_of_le h2 hg.size, fun i n hn => Gr.at hg (h3 i n hn)⟩, h.2.2.2⟩
/-- A slice of terms. -/
structure Tms where
  p : Option Addr
  c : Nat
  l : List Tm
def Tms.val (x : Tms) : Value := .slice x.p x.l.length x.c
def Tms.In (w : World) (x : Tms) : Prop := Tm.Sl w x.p x.c x.l

section
variable {H : Type} {enc : TypeId × Value → H} {W : World}

theorem bulk_pos (d : DataW H) : 1 ≤ Rows.uptoBulk d := by
  cases d with
  | lit x => cases x <;> simp [Rows.uptoBulk]
  | _ => simp [Rows.uptoBulk]
theorem bulkAll_len : ∀ ds : List (DataW H), ds.length ≤ Rows.uptoBulkAll ds
  | [] => Nat.zero_le _
  | d :: ds => by
    have := bulk_pos d
    have := bulkAll_len ds
    rw [Rows.uptoBulkAll, List.length_cons]
    omega
theorem bulk_slice {T E : TypeId} (ht : Tryz.prog.underlying T = some (.slice E)) {fuel : Nat} {q : Option Addr} {n c : Nat} {x : DataW H × List MemPlace} (h : DataW.trod enc Tryz.prog W 0 (fun _ => true) true fuel T [.slice q n c] = some x) : n ≤ Rows.uptoBulk x.1 := by
  rcases DataW.trod_slice ht h with ⟨hcs, _⟩ | ⟨a, len, cap, elems, rest, n', hm, hcs, hx, _, hlc, hcm, hle, _⟩
  · simp only [List.cons.injEq, Value.slice.injEq, and_true] at hcs
    omega
  · simp only [List.cons.injEq, Value.slice.injEq, and_true] at hcs
    subst hx
    have := bulkAll_len (elems.map (·.1))
    rw [List.length_map] at this
    simp only [Rows.uptoBulk]
    omega

theorem open_tm1 (fuel : Nat) (cs : List Value) (x : DataW H × List MemPlace) (h : DataW.trod enc Tryz.prog W 0 (fun _ => true) true fuel 24 cs = some x)
    (hw : ∀ n ∈ x.1.weights Tryz.prog 24, n ≤ reachBytes) : ∃ y : Tm, cs = y.cells ∧ y.In W := open_term fuel cs x h hw
set_option maxRecDepth 100000 in
theorem open_termsU_arg {r : Reach} {b0 : Nat} {v : Value} {d : DataW H} {p : List MemPlace} (hv : Value.okWide Tryz.prog W r b0 22 v)
    (h : DataW.Trod enc Tryz.prog W 0 (fun _ => true) true 22 v d p) (hw : ∀ n ∈ d.weights Tryz.prog 22, n ≤ reachBytes) : ∃ x : Tms, v = x.val ∧ x.In W ∧ x.l.length ≤ Rows.uptoBulk d := by
  obtain ⟨a0, len0, cap0, rfl⟩ := okWide_slice Tryz.underlying22 hv
  obtain ⟨fuel, hf⟩ := h
  have hbk := bulk_slice Tryz.underlying22 hf
  rcases open_slice_el Tm.cells (fun y => y.In W) Tryz.underlying22 cellsTerm bytesTerm open_tm1 hf hw with hcs | ⟨a, cap, l, hcs, h1, h2, h3, h4⟩
  · simp [Value.cells] at hcs
    obtain ⟨rfl, rfl, rfl⟩ := hcs
    exact ⟨⟨none, 0, []⟩, rfl, ⟨Nat.le_refl _, ⟨by simp, by simp⟩, .inl rfl, by rw [Tm.InL]; trivial⟩, Nat.zero_le _⟩
  · simp [Value.cells] at hcs
    obtain ⟨rfl, rfl, rfl⟩ := hcs
    refine ⟨⟨some a, cap0, l⟩, rfl, ⟨h1, ⟨by simp only; omega, h2⟩, ?_, Tm.InL_of fun y hy => ?_⟩, hbk⟩
    · by_cases hl0 : l = []
      · exact .inl hl0
      · right
        have h0 : 0 < l.length := List.length_pos_iff.2 hl0
        obtain ⟨h10, _⟩ := h4 0 l[0] (List.getElem?_eq_getElem h0)
        obtain ⟨_, _, hc⟩ := World.cells?_some h10
        have hc0 := hc 0 (by omega)
        obtain ⟨b, o, spot⟩ := a
        have hspot : spot = none := by
          have h13 : W.cell? ⟨b, o, spot⟩ = some (.int .i64 l[0].k) := by simpa [Addr.add, Tm.cells] using hc0
          exact World.cell?_spot h13
        subst hspot
        refine ⟨b, o, rfl, fun i x hx => ?_⟩
        obtain ⟨h10, _⟩ := h4 i x hx
        obtain ⟨_, _, hc⟩ := World.cells?_some h10
        have e0 := hc 0 (by omega)
        have e1 := hc 1 (by omega)
        have e2 := hc 2 (by omega)
        have e3 := hc 3 (by omega)
        rw [add_plain, add_plain] at e0 e1 e2 e3
        exact ⟨e0, e1, e2, e3⟩
    · obtain ⟨i, hi, rfl⟩ := List.getElem_of_mem hy
      exact (h4 i l[i] (List.getElem?_eq_getElem hi)).2

end
end Go.Proofs.YtjdoflfdlhpbmaaGreat

namespace Go.Proofs.YtjdoflfdlhpbmaaGreat
open Go.RowKit

/-- A variable. -/
def varTm (n : Int) : Tm := .mk 1 n ⟨#[]⟩ none 0 []
def varT (n : Int) : T := .mk 1 n [] []
theorem varTm_on {S : Nat → Prop} (n : Int) : (varTm n).On S := by rw [varTm, Tm.On, Tm.OnL]; exact ⟨.inl rfl, trivial⟩
theorem varTm_erase (n : Int) : (varTm n).erase = varT n := by rw [varTm, Tm.erase, Tm.eraseL, ByteArray.toList_mk]; rfl
theorem varTm_in {n : Int} (h : In64 n) (w : World) : (varTm n).In w := by
  rw [varTm, Tm.In, Tm.InL]
  exact ⟨⟨by omega, by omega⟩, h, by decide, Nat.le_refl _, ⟨by simp, by omega⟩, .inl rfl, trivial⟩

set_option maxHeartbeats 400000 in
theorem v_calls (n : Int) (w : World) (h : In64 n) : Calls Tryz.prog 45 #[.int .i64 n] w (RetTm (w.heap.size ≤ ·) (varT n) w) := by
  have H := Lib.hid h
  clear h
  go_enter Tryz.func45, Tryz.ntmps45
  go_wp2_with fail
  exact bodyPost_ret (v := (varTm n).val) (by simp [results, Tryz.results45, go_sem, varTm, Tm.val, Tm.k, Tm.n, Tm.s, Tm.p, Tm.c, Tm.l]) rfl ⟨varTm n, varTm_in H.out _, varTm_erase n, rfl, by go_grown, varTm_on n⟩

mutual
/-- The term whose variables are what a function says. -/
def T.map (f : Int → T) : T → T
  | .mk k n s l => if k = 1 then f n else if k = 4 then .mk k n s (T.mapL f l) else .mk k n s []
def T.mapL (f : Int → T) : List T → List T
  | [] => []
  | x :: xs => T.map f x :: T.mapL f xs
end

theorem T.mapL_length (f : Int → T) : ∀ l : List T, (T.mapL f l).length = l.length
  | [] => by simp [T.mapL]
  | x :: xs => by rw [T.mapL, List.length_cons, T.mapL_length f xs, List.length_cons]

theorem eraseL_append : ∀ (l l' : List Tm), Tm.eraseL (l ++ l') = Tm.eraseL l ++ Tm.eraseL l'
  | [], l' => by simp [Tm.eraseL]
  | x :: xs, l' => by rw [List.cons_append, Tm.eraseL, Tm.eraseL, eraseL_append xs l', List.cons_append]

theorem eraseL_getElem : ∀ (l : List Tm) (k : Nat) (hk : k < l.length), (Tm.eraseL l)[k]'(by rw [Tm.eraseL_length]; exact hk) = l[k].erase
  | x :: xs, 0, _ => by simp [Tm.eraseL]
  | x :: xs, k + 1, hk => by
    simp only [Tm.eraseL, List.getElem_cons_succ]
    exact eraseL_getElem xs k (by simpa using hk)

theorem T.mapL_erase (f : Int → T) : ∀ (l : List Tm) (k : Nat) (hk : k < l.length), T.mapL f (Tm.eraseL (l.take (k + 1))) = T.mapL f (Tm.eraseL (l.take k)) ++ [T.map f l[k].erase]
  | x :: xs, 0, _ => by simp [T.mapL, Tm.eraseL]
  | x :: xs, k + 1, hk => by
    simp only [List.take_succ_cons, Tm.eraseL, T.mapL, List.getElem_cons_succ, List.cons_append]
    rw [T.mapL_erase f xs k (by simpa using hk)]

theorem formed_elem {k n : Int} {s : ByteArray} {p : Option Addr} {c : Nat} {l : List Tm} (hk : k = 4) (h : (Tm.mk k n s p c l).erase.formed = true) : n = 0 ∧ s.size ≤ 100 ∧ 1 ≤ l.length ∧ l.length ≤ 50 ∧ ∀ x ∈ l, x.erase.formed = true := by
  subst hk
  simp only [Tm.erase, T.formed, Tm.eraseL_length, toList_length] at h
  simp at h
  obtain ⟨⟨⟨⟨h1, h2⟩, h3⟩, h4⟩, h5⟩ := h
  refine ⟨h1, h2, h3, h4, ?_⟩
  intro x hx
  cases hf : x.erase.formed with
  | true => rfl
  | false => rw [formedL_false hx hf] at h5; cases h5

/-- A row of n terms that is being filled: the first ones stand. -/
def Filling (w : World) (B : Nat) (S : Nat → Prop) (g n : Nat) (l : List Tm) : Prop :=
  B ≤ g ∧ l.length ≤ n ∧ (∃ cur : Array Value, w.heap[g]? = some (.cells cur 24) ∧ cur.size = n * 4 ∧ ∀ i x, l[i]? = some x → ∀ j, j < 4 → cur[i * 4 + j]? = x.cells[j]?) ∧
  Tm.InL w l ∧ Tm.OnL (fun b => (S b ∨ B ≤ b) ∧ b < w.heap.size ∧ b ≠ g) l

theorem Filling.gr {w w' : World} {B : Nat} {S : Nat → Prop} {g n : Nat} {l : List Tm} (h : Filling w B S g n l) (hg : Gr w w') : Filling w' B S g n l := by
  obtain ⟨h1, h2, ⟨cur, h3, h4⟩, h5, h6⟩ := h
  exact ⟨h1, h2, ⟨cur, (hg.block g (Array.getElem?_eq_some_iff.1 h3).1).trans h3, h4⟩, Tm.InL_below hg h5, h6.mono fun b hb => ⟨hb.1, Nat.lt_of_lt_of_le hb.2.1 hg.size, hb.2.2⟩⟩

theorem Filling.spot {w : World} {B : Nat} {S : Nat → Prop} {g n : Nat} {l : List Tm} (h : Filling w B S g n l) {j : Nat} (hj : j < n * 4) : (∃ v, w.cell? ⟨g, j, none⟩ = some v) ∧ w.frozen? ⟨g, j, none⟩ = false := by
  obtain ⟨h1, h2, ⟨cur, h3, h4, _⟩, _, _⟩ := h
  exact ⟨⟨cur[j]'(by omega), by rw [cell_of_row w g j _ _ _ h3]; exact Array.getElem?_eq_getElem (by omega)⟩, frozen_of_row w g j _ _ h3⟩

theorem Filling.lt {w : World} {B : Nat} {S : Nat → Prop} {g n : Nat} {l : List Tm} (h : Filling w B S g n l) : g < w.heap.size := by
  obtain ⟨_, _, ⟨cur, h3, _⟩, _, _⟩ := h
  exact (Array.getElem?_eq_some_iff.1 h3).1

theorem Filling.store {w : World} {B : Nat} {S : Nat → Prop} {g n : Nat} {l : List Tm} {x : Tm} (h : Filling w B S g n l) (hl : l.length < n) (hx : x.In w) (hxo : x.On fun b => (S b ∨ B ≤ b) ∧ b ≠ g) :
    Filling ((((w.setCell ⟨g, l.length * 4, none⟩ (.int .i64 x.k)).setCell ⟨g, l.length * 4 + 1, none⟩ (.int .i64 x.n)).setCell ⟨g, l.length * 4 + 2, none⟩ (.string x.s)).setCell ⟨g, l.length * 4 + 3, none⟩ (.slice x.p x.l.length x.c)) B S g n (l ++ [x]) := by
  obtain ⟨h1, h2, ⟨cur, h3, h4, h7⟩, h5, h6⟩ := h
  have hxo' : x.On (fun b => (S b ∨ B ≤ b) ∧ b < w.heap.size ∧ b ≠ g) := (Tm.On.and hxo (Tm.In.on hx)).mono fun b hb => ⟨hb.1.1, hb.2, hb.1.2⟩
  have hall : Tm.OnL (fun b => (S b ∨ B ≤ b) ∧ b < w.heap.size ∧ b ≠ g) (l ++ [x]) := Tm.OnL_of fun y hy => by
    rcases List.mem_append.1 hy with hy | hy
    · exact Tm.OnL_mem h6 y hy
    · simp only [List.mem_cons, List.mem_nil_iff, or_false] at hy
      rw [hy]; exact hxo'
  have hin : Tm.InL w (l ++ [x]) := Tm.InL_of fun y hy => by
    rcases List.mem_append.1 hy with hy | hy
    · exact Tm.InL_mem h5 y hy
    · simp only [List.mem_cons, List.mem_nil_iff, or_false] at hy
      rw [hy]; exact hx
  refine ⟨h1, by simp; omega, ⟨(((cur.setIfInBounds (l.length * 4) (.int .i64 x.k)).setIfInBounds (l.length * 4 + 1) (.int .i64 x.n)).setIfInBounds (l.length * 4 + 2) (.string x.s)).setIfInBounds (l.length * 4 + 3) (.slice x.p x.l.length x.c), ?_, by simpa using h4, ?_⟩,
    Tm.InL.same (S := fun b => (S b ∨ B ≤ b) ∧ b < w.heap.size ∧ b ≠ g) (fun b hb o => by rw [cell_set_ne hb.2.2, cell_set_ne hb.2.2, cell_set_ne hb.2.2, cell_set_ne hb.2.2]) hin hall, hall.mono fun b hb => ⟨hb.1, by simpa using hb.2.1, hb.2.2⟩⟩
  · exact heap_setCell_same _ g _ _ _ _ (heap_setCell_same _ g _ _ _ _ (heap_setCell_same _ g _ _ _ _ (heap_setCell_same _ g _ _ _ _ h3)))
  · intro i y hi j hj
    by_cases hil : i < l.length
    · rw [List.getElem?_append_left hil] at hi
      rw [← h7 i y hi j hj]
      simp only [Array.getElem?_setIfInBounds]
      rw [if_neg (by omega), if_neg (by omega), if_neg (by omega), if_neg (by omega)]
    · rw [List.getElem?_append_right (by omega)] at hi
      have hi0 : i = l.length := by
        have := (List.getElem?_eq_some_iff.1 hi).1
        simp at this
        omega
      subst hi0
      simp only [Nat.sub_self, List.getElem?_cons_zero, Option.some.injEq] at hi
      subst hi
      have hsz : ∀ j, j < 4 → l.length * 4 + j < cur.size := by intro j hj; omega
      have s0 := hsz 0 (by omega); have s1 := hsz 1 (by omega); have s2 := hsz 2 (by omega); have s3 := hsz 3 (by omega)
      simp only [Nat.add_zero] at s0
      match j, hj with
      | 0, _ => simp [s0, Tm.cells]
      | 1, _ => simp [s1, Tm.cells]
      | 2, _ => simp [s2, Tm.cells]
      | 3, _ => simp [s3, Tm.cells]

/-- A row that is filled is a slice of terms. -/
theorem Filling.sl {w : World} {B : Nat} {S : Nat → Prop} {g n : Nat} {l : List Tm} (h : Filling w B S g n l) (hl : l.length = n) (hb : n * 56 ≤ 140737488351232) : Tm.Sl w (some ⟨g, 0, none⟩) n l ∧ Tm.SlOn (fun b => S b ∨ B ≤ b) (some ⟨g, 0, none⟩) l := by
  obtain ⟨h1, h2, ⟨cur, h3, h4, h7⟩, h5, h6⟩ := h
  subst hl
  refine ⟨⟨Nat.le_refl _, ⟨hb, by omega⟩, .inr ⟨g, 0, rfl, ?_⟩, h5⟩, .inr ⟨g, 0, rfl, .inr h1⟩, h6.mono fun b hb => hb.1⟩
  intro i x hx
  have hat : ∀ j, j < 4 → w.cell? ⟨g, 0 + i * 4 + j, none⟩ = x.cells[j]? := fun j hj => by rw [Nat.zero_add, cell_of_row w g _ _ _ _ h3]; exact h7 i x hx j hj
  exact ⟨hat 0 (by omega), hat 1 (by omega), hat 2 (by omega), hat 3 (by omega)⟩

theorem Filling.new {w' : World} {B B0 : Nat} {S : Nat → Prop} {g n : Nat} {xs : List Value} (hB : B ≤ g) (h : w'.ownsRow B0 24 4 (.slice (some ⟨g, 0, none⟩) n n) n xs) : Filling w' B S g n [] := by
  rcases h.2 with ⟨h0, _⟩ | ⟨g', cap, cur, h0, hbg, hg, hnc, hcm, hcs, htake⟩
  · cases h0
  · cases h0
    exact ⟨hB, by simp, ⟨cur, hg, hcs, fun i x hx => by simp at hx⟩, by rw [Tm.InL]; trivial, by rw [Tm.OnL]; trivial⟩

end Go.Proofs.YtjdoflfdlhpbmaaGreat
