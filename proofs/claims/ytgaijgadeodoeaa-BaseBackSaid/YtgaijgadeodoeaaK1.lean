/-
  Terms in memory: more of what all walks want (small terms, blocks of four cells, the makers of terms).
-/
import Derived.Test.YtgaijgadeodoeaaA0
import Derived.Test.YtgaijgadeodoeaaS1
namespace Go.Proofs.Ytgaijgadeodoeaa
open Go.RowKit

def intT (n : Int) : T := .mk 2 n [] []
def compT (s : Str) (l : List T) : T := .mk 4 0 s l
def intTm (n : Int) : Tm := .mk 2 n ⟨#[]⟩ none 0 []
@[simp] theorem atomTm_k (s : ByteArray) : (atomTm s).k = 3 := rfl
@[simp] theorem atomTm_n (s : ByteArray) : (atomTm s).n = 0 := rfl
@[simp] theorem atomTm_s (s : ByteArray) : (atomTm s).s = s := rfl
@[simp] theorem atomTm_p (s : ByteArray) : (atomTm s).p = none := rfl
@[simp] theorem atomTm_c (s : ByteArray) : (atomTm s).c = 0 := rfl
@[simp] theorem atomTm_l (s : ByteArray) : (atomTm s).l = [] := rfl
@[simp] theorem intTm_k (n : Int) : (intTm n).k = 2 := rfl
@[simp] theorem intTm_n (n : Int) : (intTm n).n = n := rfl
@[simp] theorem intTm_s (n : Int) : (intTm n).s = ⟨#[]⟩ := rfl
@[simp] theorem intTm_p (n : Int) : (intTm n).p = none := rfl
@[simp] theorem intTm_c (n : Int) : (intTm n).c = 0 := rfl
@[simp] theorem intTm_l (n : Int) : (intTm n).l = [] := rfl
theorem intTm_on {S : Nat → Prop} (n : Int) : (intTm n).On S := by
  rw [intTm, Tm.On, Tm.OnL]; exact ⟨.inl rfl, trivial⟩
theorem atomTm_on {S : Nat → Prop} (s : ByteArray) : (atomTm s).On S := by
  rw [atomTm, Tm.On, Tm.OnL]; exact ⟨.inl rfl, trivial⟩
theorem intTm_erase (n : Int) : (intTm n).erase = intT n := by
  simp [intTm, intT, Tm.erase, Tm.eraseL]
theorem intTm_in {n : Int} (h : In64 n) (w : World) : (intTm n).In w := by
  rw [intTm, Tm.In, Tm.InL]
  exact ⟨⟨by omega, by omega⟩, h, by decide, Nat.le_refl _, ⟨by simp, by omega⟩, .inl rfl, trivial⟩

theorem one_row {t : Tm} {w : World} {b : Nat} (ht : t.In w)
    (c0 : w.cell? ⟨b, 0, none⟩ = some (.int .i64 t.k)) (c1 : w.cell? ⟨b, 1, none⟩ = some (.int .i64 t.n)) (c2 : w.cell? ⟨b, 2, none⟩ = some (.string t.s)) (c3 : w.cell? ⟨b, 3, none⟩ = some (.slice t.p t.l.length t.c)) :
    Tm.Sl w (some ⟨b, 0, none⟩) 1 [t] := by
  refine ⟨Nat.le_refl _, ⟨by simp, by simp⟩, .inr ⟨b, 0, rfl, ?_⟩, Tm.InL_of fun x hx => ?_⟩
  · intro i x hx
    match i, hx with
    | 0, hx => cases hx; exact ⟨c0, c1, c2, c3⟩
  · simp only [List.mem_cons, List.mem_nil_iff, or_false] at hx
    rw [hx]; exact ht

/-- A compound over a slice of terms. -/
def compTm (s : ByteArray) (p : Option Addr) (c : Nat) (l : List Tm) : Tm := .mk 4 0 s p c l
theorem compTm_in {s : ByteArray} {p : Option Addr} {c : Nat} {l : List Tm} {w : World} (hs : s.size ≤ 140737488351232) (h : Tm.Sl w p c l) : (compTm s p c l).In w := by
  rw [compTm, Tm.In]
  exact ⟨⟨by omega, by omega⟩, ⟨by omega, by omega⟩, hs, h.1, h.2.1, h.2.2.1, h.2.2.2⟩

set_option maxHeartbeats 400000 in
theorem comp_calls (s : ByteArray) (p : Option Addr) (n c : Nat) (w : World) : Calls Try.prog 73 #[.string s, .slice p n c] w (Ret (.agg #[.int .i64 4, .int .i64 0, .string s, .slice p n c]) w) := by
  go_enter Try.func73, Try.ntmps73
  go_wp2_with fail
  exact bodyPost_ret (v := .agg #[.int .i64 4, .int .i64 0, .string s, .slice p n c]) (by simp [results, Try.results73, go_sem]) rfl ⟨rfl, by go_grown⟩

/-- A block that is just the four cells of a term. -/
def Blk4 (w : World) (b : Nat) (v0 v1 v2 v3 : Value) : Prop := w.heap[b]? = some (.cells #[v0, v1, v2, v3] 28)
theorem Blk4.gr {w w' : World} {b : Nat} {v0 v1 v2 v3 : Value} (h : Blk4 w b v0 v1 v2 v3) (hg : Gr w w') : Blk4 w' b v0 v1 v2 v3 :=
  (hg.block b (Array.getElem?_eq_some_iff.1 h).1).trans h
theorem Blk4.below {w w' : World} {B b : Nat} {v0 v1 v2 v3 : Value} (h : Blk4 w b v0 v1 v2 v3) (hg : Below B w w') (hb : b < B) : Blk4 w' b v0 v1 v2 v3 := (hg.block b hb).trans h
theorem Blk4.parts {w : World} {b : Nat} {v0 v1 v2 v3 : Value} (h : Blk4 w b v0 v1 v2 v3) :
    (w.cell? ⟨b, 0, none⟩ = some v0 ∧ w.cell? ⟨b, 1, none⟩ = some v1 ∧ w.cell? ⟨b, 2, none⟩ = some v2 ∧ w.cell? ⟨b, 3, none⟩ = some v3) ∧
    (w.frozen? ⟨b, 0, none⟩ = false ∧ w.frozen? ⟨b, 1, none⟩ = false ∧ w.frozen? ⟨b, 2, none⟩ = false ∧ w.frozen? ⟨b, 3, none⟩ = false) ∧ b < w.heap.size :=
  ⟨⟨cell_of_row w b 0 _ _ _ h, cell_of_row w b 1 _ _ _ h, cell_of_row w b 2 _ _ _ h, cell_of_row w b 3 _ _ _ h⟩,
   ⟨frozen_of_row w b 0 _ _ h, frozen_of_row w b 1 _ _ h, frozen_of_row w b 2 _ _ h, frozen_of_row w b 3 _ _ h⟩, (Array.getElem?_eq_some_iff.1 h).1⟩
theorem Blk4.new (w : World) (v0 v1 v2 v3 : Value) : Blk4 (w.alloc (.cells #[v0, v1, v2, v3] 28)) w.heap.size v0 v1 v2 v3 := heap_alloc_new w _
theorem Blk4.old {w : World} {b : Nat} {v0 v1 v2 v3 : Value} (h : Blk4 w b v0 v1 v2 v3) (o : Obj) : Blk4 (w.alloc o) b v0 v1 v2 v3 :=
  (heap_alloc_old w o (Array.getElem?_eq_some_iff.1 h).1).trans h

def T.k : T → Int | .mk k _ _ _ => k
def T.n : T → Int | .mk _ n _ _ => n
def T.s : T → Str | .mk _ _ s _ => s
def T.l : T → List T | .mk _ _ _ l => l

def zeroT : T := .mk 0 0 [] []
def zeroTm : Tm := .mk 0 0 ⟨#[]⟩ none 0 []
theorem zeroTm_in (w : World) : zeroTm.In w := by
  rw [zeroTm, Tm.In, Tm.InL]
  exact ⟨⟨by omega, by omega⟩, ⟨by omega, by omega⟩, by decide, Nat.le_refl _, ⟨by simp, by omega⟩, .inl rfl, trivial⟩
theorem zeroTm_erase : zeroTm.erase = zeroT := by
  rw [zeroTm, Tm.erase, Tm.eraseL, ByteArray.toList_mk]; rfl

theorem in_after {w2 W : World} {tb : Tm} {B : Nat} (hin : tb.In w2) (hon : tb.On (B ≤ ·)) (hc : ∀ b, B ≤ b → b < w2.heap.size → ∀ o, W.cell? ⟨b, o, none⟩ = w2.cell? ⟨b, o, none⟩) : tb.In W :=
  Tm.In.same (S := fun b => B ≤ b ∧ b < w2.heap.size) (fun b hb o => hc b hb.1 hb.2 o) hin (Tm.On.and hon (Tm.In.on hin))

theorem sep_own {S : Nat → Prop} {v : Value} {B n m : Nat} (hS : ∀ b, S b → b < m) (hmB : m ≤ B) (hv : ∀ k, v.ownBlock = some k → B ≤ k ∧ k < n) {b : Nat} (hb : S b ∨ n ≤ b) (hBn : B ≤ n) : (S b ∨ B ≤ b) ∧ v.ownBlock ≠ some b := by
  refine ⟨hb.imp id fun h => by omega, fun h => ?_⟩
  have h1 := hv b h
  rcases hb with hb | hb
  · have := hS b hb; omega
  · omega

set_option maxHeartbeats 400000 in
theorem rC_calls (s : ByteArray) (p : Option Addr) (n c : Nat) (w : World) : Calls Try.prog 44 #[.string s, .slice p n c] w (Ret (.agg #[.int .i64 4, .int .i64 0, .string s, .slice p n c]) w) := by
  go_enter Try.func44, Try.ntmps44
  go_wp2_with fail
  exact bodyPost_ret (v := .agg #[.int .i64 4, .int .i64 0, .string s, .slice p n c]) (by simp [results, Try.results44, go_sem]) rfl ⟨rfl, by go_grown⟩

theorem rV_calls (n : Int) (w : World) (h : In64 n) : Calls Try.prog 103 #[.int .i64 n] w (Ret (.agg #[.int .i64 1, .int .i64 n, .string ⟨#[]⟩, .slice none 0 0]) w) := by
  have H := Lib.hid h
  clear h
  go_enter Try.func103, Try.ntmps103
  go_wp2_with fail
  exact bodyPost_ret (v := .agg #[.int .i64 1, .int .i64 n, .string ⟨#[]⟩, .slice none 0 0]) (by simp [results, Try.results103, go_sem]) rfl ⟨rfl, by go_grown⟩

end Go.Proofs.Ytgaijgadeodoeaa
