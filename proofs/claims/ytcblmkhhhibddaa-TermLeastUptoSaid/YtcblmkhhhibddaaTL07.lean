/-
  Blocks of any type; new slices of one term and of two; append of nothing.
  hornkeep's own: a term in new memory, with spare room in which marks stand.
  A clause, as a term, makes the same clause (no program here).
-/
import Derived.Test.YtcblmkhhhibddaaTL05
import Derived.Test.YtcblmkhhhibddaaTL06
import Derived.Test.YtcblmkhhhibddaaTL02
import Derived.Lib.AppendZeros
import Derived.Deep.LoopGhost
import Derived.Deep.CutRange
import Derived.Deep.CutBlock
import Derived.Deep.Light
namespace Go.Proofs.Ytcblmkhhhibddaa
open Go.RowKit Go.Maps Go.Lib

/-- A new slice of one term. -/
theorem one_new {t : Tm} {w w' : World} (ht : t.In w) (hg : Gr (w.alloc (.cells #[.int .i64 t.k, .int .i64 t.n, .string t.s, .slice t.p t.l.length t.c] 25)) w') : Tm.Sl w' (some ⟨w.heap.size, 0, none⟩) 1 [t] := by
  obtain ⟨⟨y0, y1, y2, y3⟩, _, _⟩ := ((Blk4.new w (.int .i64 t.k) (.int .i64 t.n) (.string t.s) (.slice t.p t.l.length t.c)).gr hg).parts
  exact one_row (Tm.In_below (below_step hg (by go_grown)) ht) y0 y1 y2 y3

theorem tm_val (k n : Int) (s : ByteArray) (p : Option Addr) (c : Nat) (l : List Tm) : (Tm.mk k n s p c l).val = .agg #[.int .i64 k, .int .i64 n, .string s, .slice p l.length c] := rfl

/-- A new slice of two terms. -/
theorem two_new {t u : Tm} {w w' : World} (ht : t.In w) (hu : u.In w)
    (hg : Gr (w.alloc (.cells #[.int .i64 t.k, .int .i64 t.n, .string t.s, .slice t.p t.l.length t.c, .int .i64 u.k, .int .i64 u.n, .string u.s, .slice u.p u.l.length u.c] 25)) w') : Tm.Sl w' (some ⟨w.heap.size, 0, none⟩) 2 [t, u] := by
  have hb : w'.heap[w.heap.size]? = some (.cells #[.int .i64 t.k, .int .i64 t.n, .string t.s, .slice t.p t.l.length t.c, .int .i64 u.k, .int .i64 u.n, .string u.s, .slice u.p u.l.length u.c] 25) :=
    (hg.block w.heap.size (by simp)).trans (heap_alloc_new w _)
  have hw : Gr w w' := below_step hg (by go_grown)
  exact two_row (Tm.In_below hw ht) (Tm.In_below hw hu) (cell_of_row _ _ 0 _ _ _ hb) (cell_of_row _ _ 1 _ _ _ hb) (cell_of_row _ _ 2 _ _ _ hb) (cell_of_row _ _ 3 _ _ _ hb) (cell_of_row _ _ 4 _ _ _ hb) (cell_of_row _ _ 5 _ _ _ hb) (cell_of_row _ _ 6 _ _ _ hb) (cell_of_row _ _ 7 _ _ _ hb)

theorem Blk4.set4 {w : World} {b : Nat} {v0 v1 v2 v3 : Value} (h : Blk4 w b v0 v1 v2 v3) (u0 u1 u2 u3 : Value) : Blk4 ((((w.setCell ⟨b, 0, none⟩ u0).setCell ⟨b, 1, none⟩ u1).setCell ⟨b, 2, none⟩ u2).setCell ⟨b, 3, none⟩ u3) b u0 u1 u2 u3 := by
  have h1 := heap_setCell_same _ b 0 _ _ u0 h
  have h2 := heap_setCell_same _ b 1 _ _ u1 h1
  have h3 := heap_setCell_same _ b 2 _ _ u2 h2
  have h4 := heap_setCell_same _ b 3 _ _ u3 h3
  exact h4

/-- A block that is just these cells. -/
def BlkT (w : World) (b : Nat) (t : TypeId) (vs : Array Value) : Prop := w.heap[b]? = some (.cells vs t)
section
variable {w w' : World} {b : Nat} {t : TypeId} {vs : Array Value}
theorem BlkT.lt (h : BlkT w b t vs) : b < w.heap.size := (Array.getElem?_eq_some_iff.1 h).1
theorem BlkT.gr (h : BlkT w b t vs) (hg : Gr w w') : BlkT w' b t vs := (hg.block b h.lt).trans h
theorem BlkT.kp {C : Nat → Prop} (h : BlkT w b t vs) (hg : Kp C w w') (hb : ¬ C b) : BlkT w' b t vs := (hg.block b h.lt hb).trans h
theorem BlkT.new (w : World) (t : TypeId) (vs : Array Value) : BlkT (w.alloc (.cells vs t)) w.heap.size t vs := heap_alloc_new w _
theorem BlkT.cell (h : BlkT w b t vs) (i : Nat) {v : Value} (hi : vs[i]? = some v) : w.cell? ⟨b, i, none⟩ = some v := by rw [cell_of_row w b i _ _ _ h, hi]
theorem BlkT.open_ (h : BlkT w b t vs) (i : Nat) : w.frozen? ⟨b, i, none⟩ = false := frozen_of_row w b i _ _ h
theorem BlkT.set (h : BlkT w b t vs) (i : Nat) (v : Value) : BlkT (w.setCell ⟨b, i, none⟩ v) b t (vs.setIfInBounds i v) := heap_setCell_same _ b i _ _ v h
end

/-- append of nothing. -/
theorem run_append_empty {P : Program} (w : World) (t ty e : TypeId) (i : TypeInfo) (ht : P.underlying t = some (.slice e)) (hi : P.info? e = some i) (q : Option Addr) (k cp : Nat) (p : Option Addr) (c : Nat) (hk : k ≤ cp) :
    (Builtin.append_ #[t, t] ty #[.slice q k cp, .slice p 0 c]).run P w = .ok (.slice q k cp) w := by
  have h0 : (Builtin.firstCells i.size 0 (.slice p 0 c)).run P w = .ok #[] w := by
    cases p with
    | none => exact run_firstCells_none w _ _ _ _
    | some a => exact run_firstCells_some w i.size 0 a 0 c [] (by simp) (by simp)
  cases q <;> simp [Builtin.append_, run_underlying ht, Go.sizeOf, typeInfo, hi, hk, h0, Builtin.lenOf, storeCells]
end Go.Proofs.Ytcblmkhhhibddaa

namespace Go.Proofs.Ytcblmkhhhibddaa
open Go.RowKit Go.Lib

mutual
/-- Behind all Args of the term there is room for three, in which marks stand. -/
def Tm.Roomy (w : World) : Tm → Prop
  | .mk _ _ _ p c l => (l = [] ∨ ∃ b, p = some ⟨b, 0, none⟩ ∧ c = l.length + 3 ∧ ∀ j, j < 12 → w.cell? ⟨b, l.length * 4 + j, none⟩ = marks[j]?) ∧ Tm.RoomyL w l
def Tm.RoomyL (w : World) : List Tm → Prop
  | [] => True
  | x :: xs => Tm.Roomy w x ∧ Tm.RoomyL w xs
end

mutual
theorem Tm.Roomy.same {w w' : World} {S : Nat → Prop} (hS : ∀ b, S b → ∀ o, w'.cell? ⟨b, o, none⟩ = w.cell? ⟨b, o, none⟩) : ∀ {t : Tm}, t.On S → t.Roomy w → t.Roomy w'
  | .mk k n s p c l, ho, h => by
    rw [Tm.On] at ho
    rw [Tm.Roomy] at h ⊢
    refine ⟨?_, Tm.RoomyL.same hS ho.2 h.2⟩
    rcases ho.1 with h1 | ⟨b, o, hp, hb⟩
    · exact .inl h1
    · refine h.1.imp id ?_
      rintro ⟨b', hp', hc, hm⟩
      rw [hp] at hp'
      cases hp'
      exact ⟨b, hp, hc, fun j hj => (hS b hb _).trans (hm j hj)⟩
theorem Tm.RoomyL.same {w w' : World} {S : Nat → Prop} (hS : ∀ b, S b → ∀ o, w'.cell? ⟨b, o, none⟩ = w.cell? ⟨b, o, none⟩) : ∀ {l : List Tm}, Tm.OnL S l → Tm.RoomyL w l → Tm.RoomyL w' l
  | [], _, _ => by rw [Tm.RoomyL]; trivial
  | x :: xs, ho, h => by
    rw [Tm.OnL] at ho
    rw [Tm.RoomyL] at h ⊢
    exact ⟨Tm.Roomy.same hS ho.1 h.1, Tm.RoomyL.same hS ho.2 h.2⟩
end
theorem Tm.RoomyL_append {w : World} : ∀ {l l' : List Tm}, Tm.RoomyL w l → Tm.RoomyL w l' → Tm.RoomyL w (l ++ l')
  | [], _, _, h => h
  | x :: xs, _, h, h' => by
    rw [Tm.RoomyL] at h
    rw [List.cons_append, Tm.RoomyL]
    exact ⟨h.1, Tm.RoomyL_append h.2 h'⟩
theorem Tm.RoomyL_mem {w : World} : ∀ {l : List Tm}, Tm.RoomyL w l → ∀ x ∈ l, Tm.Roomy w x
  | _ :: _, h, x, hx => by
    rw [Tm.RoomyL] at h
    rcases List.mem_cons.1 hx with rfl | hx
    · exact h.1
    · exact Tm.RoomyL_mem h.2 x hx
theorem Tm.Roomy.gr {w w' : World} {t : Tm} (h : t.Roomy w) (hi : t.In w) (hg : Gr w w') : t.Roomy w' :=
  Tm.Roomy.same (S := (· < w.heap.size)) (fun b hb _ => World.cell?_of_block (hg.block b hb)) hi.on h
theorem Tm.In.onL {w : World} : ∀ {l : List Tm}, Tm.InL w l → Tm.OnL (· < w.heap.size) l
  | [], _ => by rw [Tm.OnL]; trivial
  | x :: xs, h => by
    rw [Tm.InL] at h
    rw [Tm.OnL]
    exact ⟨h.1.on, Tm.In.onL h.2⟩

/-- A term of one's own is handed back. -/
def RetOwn (u : T) (w : World) (e : Ending) (w' : World) : Prop := ∃ x : Tm, e = .returned x.val ∧ x.In w' ∧ x.erase = u ∧ x.On (w.heap.size ≤ ·) ∧ x.Roomy w' ∧ Gr w w'
def ownOf (t : Tm) : Prop := ∀ w : World, t.In w → Calls Try.prog 17 #[t.val] w (RetOwn t.erase w)

theorem eraseL_take (l : List Tm) (k : Nat) (hk : k < l.length) : Tm.eraseL (l.take (k + 1)) = Tm.eraseL (l.take k) ++ [l[k].erase] := by
  rw [List.take_succ_eq_append_getElem hk, eraseL_append, Tm.eraseL, Tm.eraseL]

set_option maxHeartbeats 4000000 in
set_option maxRecDepth 100000 in
theorem own_step (k0 n : Int) (s : ByteArray) (p' : Option Addr) (c' : Nat) (l : List Tm) (ih : ∀ x ∈ l, ownOf x) (w : World) (hin : (Tm.mk k0 n s p' c' l).In w) :
    Calls Try.prog 17 #[(Tm.mk k0 n s p' c' l).val] w (RetOwn (Tm.mk k0 n s p' c' l).erase w) := by
  have HSl := Lib.hid hin.sl
  rw [Tm.In] at hin
  have hlc : l.length ≤ c' := hin.2.2.2.1
  have hc : c' ≤ 9223372036854775807 := hin.2.2.2.2.1.2
  have hl56 : l.length * 56 ≤ 140737488351232 := hin.2.2.2.2.1.1
  have Hk := Lib.hid hin.1
  have Hn := Lib.hid hin.2.1
  have Hs := Lib.hid hin.2.2.1
  have Hih := Lib.hid ih
  clear hin ih
  have hR : Hid (∀ (x : Tm) (w' : World), x.In w' → x.erase = (Tm.mk k0 n s p' c' l).erase → x.On (w.heap.size ≤ ·) → x.Roomy w' → Gr w w' → RetOwn (Tm.mk k0 n s p' c' l).erase w (.returned x.val) w') := fun x w' h1 h2 h3 h4 h5 => ⟨x, rfl, h1, h2, h3, h4, h5⟩
  generalize hQ : RetOwn (Tm.mk k0 n s p' c' l).erase w = Q at hR ⊢
  clear hQ
  simp only [tm_val]
  go_enter Try.func17, Try.ntmps17
  try simp only [List.append_eq, List.cons_append, List.nil_append]
  go_upto_region 1 with fail
  obtain ⟨HB, HR, gA⟩ := two_blocks w (.int .i64 k0) (.int .i64 n) (.string s) (.slice p' l.length c') (.int .i64 0) (.int .i64 0) (.string ⟨#[]⟩) (.slice none 0 0)
  have hszA : ((w.alloc (.cells #[.int .i64 k0, .int .i64 n, .string s, .slice p' l.length c'] 25)).alloc (.cells #[.int .i64 0, .int .i64 0, .string ⟨#[]⟩, .slice none 0 0] 25)).heap.size = w.heap.size + 2 := by simp
  generalize (w.alloc (.cells #[.int .i64 k0, .int .i64 n, .string s, .slice p' l.length c'] 25)).alloc (.cells #[.int .i64 0, .int .i64 0, .string ⟨#[]⟩, .slice none 0 0] 25) = wA at *
  obtain ⟨⟨b0, b1, b2, b3⟩, _, _⟩ := HB.out.parts
  go_wp2_with fail
  clear b0 b1 b2 b3
  go_loopg [3, 8] l.length (fun m u i wr => ∃ k : Nat, k ≤ l.length ∧ m = l.length - k ∧ i = .int .i64 k ∧
    Hid (∃ lm : List Tm, lm.length = k ∧ Tm.eraseL lm = Tm.eraseL (l.take k) ∧ Built wr (w.heap.size + 2) (fun _ => False) u lm ∧ Tm.RoomyL wr lm) ∧
    Hid (Blk4 wr w.heap.size (.int .i64 k0) (.int .i64 n) (.string s) (.slice p' l.length c') ∧ Blk4 wr (w.heap.size + 1) (.int .i64 0) (.int .i64 0) (.string ⟨#[]⟩) (.slice none 0 0)) ∧ Gr w wr ∧ w.heap.size + 2 ≤ wr.heap.size)
  case atStart => exact ⟨0, Nat.zero_le _, rfl, rfl, ⟨[], rfl, by simp [Tm.eraseL], Built.nil _ _ _, by rw [Tm.RoomyL]; trivial⟩, ⟨HB.out, HR.out⟩, gA, by omega⟩
  case round =>
    obtain ⟨k, hk, rfl, rfl, hlm, HBR, gr, hws⟩ := hrel
    obtain ⟨⟨b0, b1, b2, b3⟩, ⟨e0, e1, e2, e3⟩, _⟩ := HBR.out.1.parts
    by_cases hkl : k < l.length
    · obtain ⟨b, o, rfl⟩ := HSl.out.ptr (by omega)
      obtain ⟨⟨c0, c1, c2, c3⟩, hxi, _⟩ := (HSl.out.mono gr).elem k hkl
      have hmem : l[k] ∈ l := List.getElem_mem hkl
      have Hx := Lib.hid hxi
      have Hix := Lib.hid (Hih.out _ hmem)
      have Htk := Lib.hid (eraseL_take l k hkl)
      clear hmem hxi
      generalize l[k] = x at *
      have Hxv := Lib.hid (show x.val = .agg #[.int .i64 x.k, .int .i64 x.n, .string x.s, .slice x.p x.l.length x.c] from rfl)
      go_wp2_with fail
      clear b0 b1 b2 b3 e0 e1 e2 e3
      rw [← Hxv.out]
      refine (Hix.out wr Hx.out).mono ?_
      rintro e w2 ⟨xm, rfl, hin, he, hon, hro, hb2⟩
      obtain ⟨lm, hl0, he0, hF, hRo⟩ := hlm.out
      have hRo2 : Tm.RoomyL w2 lm := Tm.RoomyL.same (S := (· < wr.heap.size)) (fun b hb o => World.cell?_of_block (hb2.block b hb)) (hF.2.2.mono fun b hb => hb.2.1) hRo
      have HOn := Lib.hid hF.2.2
      have HF2 := Lib.hid (hF.gr hb2)
      have Hvf := Lib.hid hF.1.lt
      have hs2 := hb2.size
      have Hl0 := Lib.hid hl0
      have He0 := Lib.hid he0
      have Hin := Lib.hid hin
      have Hon := Lib.hid hon
      have He := Lib.hid he
      have Hro := Lib.hid hro
      have HRo2 := Lib.hid hRo2
      have HB2 := Lib.hid (And.intro (HBR.out.1.gr hb2) (HBR.out.2.gr hb2))
      have g2 : Gr w w2 := gr.trans hb2
      clear hF hl0 he0 hin hon he hb2 hlm c0 c1 c2 c3 hro hRo2 hRo
      obtain ⟨k', n', s', p2, c2, l2⟩ := xm
      simp only [Tm.val, Tm.k, Tm.n, Tm.s, Tm.p, Tm.c, Tm.l]
      go_wp2_with
        (at_builtin
         refine wpList_append_term rfl _ _ rfl rfl (w.heap.size + 2) (fun _ => False) _ lm (.mk k' n' s' p2 c2 l2) w2.heap.size 1 rfl rfl (HF2.out.gr (by go_grown)) (by simp; omega) (Tm.In_below (by go_grown) Hin.out) (Hon.out.mono fun b hb => ⟨.inr (by omega), fun e => by have := Hvf.out b e; omega⟩) (by have := Hl0.out; omega) (by show _ = some (Value.int .i64 k'); go_cell) (by show _ = some (Value.int .i64 n'); go_cell) (by show _ = some (Value.string s'); go_cell) (by show _ = some (Value.slice p2 l2.length c2); go_cell) ?_
         intro v' w4 hbt hbel hcl
         have hsame : ∀ b, b < w2.heap.size → ∀ o, (w2.alloc (.cells #[.int .i64 k', .int .i64 n', .string s', .slice p2 l2.length c2] 25)).cell? ⟨b, o, none⟩ = w2.cell? ⟨b, o, none⟩ := fun b hb o => World.cell?_of_block (heap_alloc_old w2 _ hb)
         have hro1 : Tm.RoomyL w4 lm := Tm.RoomyL.same (fun b hb o => (hcl ⟨b, o, none⟩ (by simp only [World.size_alloc]; have := hb.2.1; omega) hb.2.2).trans (hsame b (by have := hb.2.1; omega) o)) HOn.out HRo2.out
         have hro2 : (Tm.mk k' n' s' p2 c2 l2).Roomy w4 := Tm.Roomy.same (fun b hb o => (hcl ⟨b, o, none⟩ (by simp only [World.size_alloc]; have := hb.2; omega) (fun e => by have := Hvf.out b e; have := hb.1; omega)).trans (hsame b hb.2 o)) (Tm.On.and Hon.out Hin.out.on) Hro.out
         have HRo4 := Lib.hid (Tm.RoomyL_append hro1 (by rw [Tm.RoomyL, Tm.RoomyL]; exact ⟨hro2, trivial⟩ : Tm.RoomyL w4 [Tm.mk k' n' s' p2 c2 l2]))
         clear hcl hsame hro1 hro2)
      go_roundg (l.length - (k + 1))
      case measure => omega
      case rel =>
        have hg4 : Below (w.heap.size + 2) w2 w4 := Below.trans (show Below (w.heap.size + 2) w2 _ by go_grown) hbel
        exact ⟨k + 1, by omega, rfl, by go_num, ⟨_, by rw [List.length_append, Hl0.out]; rfl, by rw [eraseL_append, He0.out, Htk.out, ← He.out]; simp [Tm.eraseL], hbt, HRo4.out⟩, ⟨HB2.out.1.below hg4 (by omega), HB2.out.2.below hg4 (by omega)⟩, Below.trans g2 (hg4.mono (by omega)), by have := hg4.size; omega⟩
    · obtain rfl : k = l.length := by omega
      obtain ⟨lm, hl0, he0, hF, hRo⟩ := hlm.out
      rw [List.take_length] at he0
      obtain ⟨pv, cv, rfl, hcv1, hcv2⟩ := hF.form
      have HF := Lib.hid hF
      have Hl0 := Lib.hid hl0
      have He0 := Lib.hid he0
      have HRo := Lib.hid hRo
      have hll : (lm.length : Int) = l.length := by rw [hl0]
      clear hF hl0 he0 hlm hRo
      have Hsl := Lib.hid (HF.out.sl (by have := Hl0.out; omega))
      by_cases h0 : 0 < lm.length
      · go_upto_region 9 with (first
          | (go_at_call 78; refine (markY_calls _).mono ?_; rintro e w5 ⟨rfl, hb⟩; have g5 := gr.trans hb; have HS5 := Lib.hid (Hsl.out.2.1.mono hb); have HRo5 := Lib.hid (Tm.RoomyL.same (S := (· < wr.heap.size)) (fun b hb' o => World.cell?_of_block (hb.block b hb')) (Tm.In.onL Hsl.out.2.1.2.2.2) HRo.out); have HBR5 := Lib.hid (And.intro (HBR.out.1.gr hb) (HBR.out.2.gr hb)); have hs5 := hb.size; clear hb)
          | (go_at_call 77; refine (roomy_calls pv cv lm _ HS5.out h0).mono ?_; rintro e w6 ⟨g, rfl, hgs, hgc, hb⟩; have g6 := g5.trans hb; have HBR6 := Lib.hid (And.intro (HBR5.out.1.gr hb) (HBR5.out.2.gr hb)); have HS6 := Lib.hid (HS5.out.mono hb); have HRo6 := Lib.hid (Tm.RoomyL.same (S := (· < w5.heap.size)) (fun b hb' o => World.cell?_of_block (hb.block b hb')) (Tm.In.onL HS5.out.2.2.2) HRo5.out); have Hgc := Lib.hid hgc; have hs6 := hb.size; clear hb hgc b0 b1 b2 b3 e0 e1 e2 e3)
          | fail)
        obtain ⟨⟨b0, b1, b2, b3⟩, ⟨e0, e1, e2, e3⟩, hb6⟩ := HBR6.out.1.parts
        obtain ⟨⟨y0, y1, y2, y3⟩, ⟨f0, f1, f2, f3⟩, hbs2⟩ := HBR6.out.2.parts
        have hat : ∀ (i : Nat) (y : Tm), lm[i]? = some y → ∀ j, j < 4 → w6.cell? ⟨g, 0 + i * 4 + j, none⟩ = y.cells[j]? := by
          intro i y hy j hj
          have hi : i < lm.length := (List.getElem?_eq_some_iff.1 hy).1
          rw [Nat.zero_add, cell_of_row w6 g _ _ _ _ Hgc.out, List.getElem?_toArray, List.getElem?_append_left (by rw [cells_len]; omega)]
          exact cells_at hy j hj
        have hmk : ∀ j, j < 12 → w6.cell? ⟨g, lm.length * 4 + j, none⟩ = marks[j]? := by
          intro j hj
          rw [cell_of_row w6 g _ _ _ _ Hgc.out, List.getElem?_toArray, List.getElem?_append_right (by rw [cells_len]; omega), cells_len, Nat.add_sub_cancel_left]
        have hxin : (Tm.mk k0 n s (some ⟨g, 0, none⟩) (lm.length + 3) lm).In w6 := by
          rw [Tm.In]
          exact ⟨Hk.out, Hn.out, Hs.out, by omega, ⟨by omega, by omega⟩, .inr ⟨g, 0, rfl, fun i y hy => ⟨hat i y hy 0 (by omega), hat i y hy 1 (by omega), hat i y hy 2 (by omega), hat i y hy 3 (by omega)⟩⟩, HS6.out.2.2.2⟩
        have hxon : (Tm.mk k0 n s (some ⟨g, 0, none⟩) (lm.length + 3) lm).On (w.heap.size + 2 ≤ ·) := by
          rw [Tm.On]
          exact ⟨.inr ⟨g, 0, rfl, by omega⟩, Hsl.out.2.2.2.mono fun b hb => hb.elim (fun h => h.elim) id⟩
        have hxro : (Tm.mk k0 n s (some ⟨g, 0, none⟩) (lm.length + 3) lm).Roomy w6 := by
          rw [Tm.Roomy]
          exact ⟨.inr ⟨g, rfl, rfl, hmk⟩, HRo6.out⟩
        have hxe : (Tm.mk k0 n s (some ⟨g, 0, none⟩) (lm.length + 3) lm).erase = (Tm.mk k0 n s p' c' l).erase := by rw [Tm.erase, Tm.erase, He0.out]
        have hfin : Hid (∀ W, Kp (fun b => b = w.heap.size ∨ b = w.heap.size + 1) w6 W → Q (.returned (Tm.mk k0 n s (some ⟨g, 0, none⟩) (lm.length + 3) lm).val) W) := fun W hK =>
          hR.out _ W (in_after' hxin hxon fun b h1 h2 o => World.cell?_of_block (hK.block b h2 (by omega))) hxe (hxon.mono fun b hb => by omega)
            (Tm.Roomy.same (fun b hb o => World.cell?_of_block (hK.block b hb.2 (by have := hb.1; omega))) (Tm.On.and hxon hxin.on) hxro) (Below.trans g6 (hK.below (B := w.heap.size) (fun b hb => by omega) (by omega)))
        clear hat hmk hxin hxon hxro hxe
        go_wp2_with fail
        refine bodyPost_ret (v := (Tm.mk k0 n s (some ⟨g, 0, none⟩) (lm.length + 3) lm).val) (by simp (maxDischargeDepth := 9) [results, Try.results17, go_sem, Tm.val, Tm.k, Tm.n, Tm.s, Tm.p, Tm.c, Tm.l, y0, y1, y2, y3]) rfl ?_
        exact hfin.out _ ((Kp.set (C := fun b => b = w.heap.size ∨ b = w.heap.size + 1) (.inl rfl)).trans (Kp.set4 (C := fun b => b = w.heap.size ∨ b = w.heap.size + 1) (.inr rfl)))
      · obtain rfl : lm = [] := List.eq_nil_of_length_eq_zero (by omega)
        have hxe : (Tm.mk k0 n s pv cv []).erase = (Tm.mk k0 n s p' c' l).erase := by rw [Tm.erase, Tm.erase, He0.out]
        have hxin : ∀ W, (Tm.mk k0 n s pv cv []).In W := fun W => by
          rw [Tm.In]
          exact ⟨Hk.out, Hn.out, Hs.out, by simp, ⟨by simp, by simpa using hcv2⟩, .inl rfl, by rw [Tm.InL]; trivial⟩
        have hxon : ∀ S, (Tm.mk k0 n s pv cv []).On S := fun S => by rw [Tm.On, Tm.OnL]; exact ⟨.inl rfl, trivial⟩
        have hxro : ∀ W, (Tm.mk k0 n s pv cv []).Roomy W := fun W => by rw [Tm.Roomy, Tm.RoomyL]; exact ⟨.inl rfl, trivial⟩
        have hfin : Hid (∀ W, Kp (fun b => b = w.heap.size ∨ b = w.heap.size + 1) wr W → Q (.returned (Tm.mk k0 n s pv cv []).val) W) := fun W hK =>
          hR.out _ W (hxin _) hxe (hxon _) (hxro _) (Below.trans gr (hK.below (B := w.heap.size) (fun b hb => by omega) (by omega)))
        obtain ⟨⟨y0, y1, y2, y3⟩, ⟨f0, f1, f2, f3⟩, hbs2⟩ := HBR.out.2.parts
        clear hxe hxin hxon hxro
        simp only [List.length_nil] at *
        go_wp2_with fail
        refine bodyPost_ret (v := (Tm.mk k0 n s pv cv []).val) (by simp (maxDischargeDepth := 9) [results, Try.results17, go_sem, Tm.val, Tm.k, Tm.n, Tm.s, Tm.p, Tm.c, Tm.l, y0, y1, y2, y3]) rfl ?_
        exact hfin.out _ ((Kp.set (C := fun b => b = w.heap.size ∨ b = w.heap.size + 1) (.inl rfl)).trans (Kp.set4 (C := fun b => b = w.heap.size ∨ b = w.heap.size + 1) (.inr rfl)))

theorem own_any (N : Nat) : ∀ t : Tm, SizeOf.sizeOf t ≤ N → ownOf t := by
  induction N with
  | zero => intro t h; cases t; simp at h
  | succ N ih =>
    intro t h w hin
    obtain ⟨k, n, s, p, c, l⟩ := t
    exact own_step k n s p c l (fun x hx => ih x (by have := Tm.sizeOf_mem hx k n s p c; omega)) w hin
theorem own_calls {t : Tm} {w : World} (h : t.In w) : Calls Try.prog 17 #[t.val] w (RetOwn t.erase w) := own_any _ t (Nat.le_refl _) w h
end Go.Proofs.Ytcblmkhhhibddaa

namespace Go.Proofs.Ytcblmkhhhibddaa

/-- A renaming of variables. -/
def vf (g : Int → Int) (n : Int) : T := varT (g n)
/-- The place of a variable. -/
def placeOf (V : List Int) (n : Int) : Int := if n ∈ V then (V.idxOf n : Int) else n
theorem swapF_place (V : List Int) : swapF 0 V = vf (placeOf V) := by
  funext n
  rw [swapF, vf, placeOf]
  split
  · rw [Int.zero_add]
  · rfl

theorem isOf_same {k n n' : Int} {s : List UInt8} {l l' : List T} (h : l.length = l'.length) (q : List UInt8) (r : Int) : (T.mk k n s l).isOf q r = (T.mk k n' s l').isOf q r := by
  show ((decide (k = 4) || decide (k = 3)) && decide (s = q) && decide ((l.length : Int) = r)) = ((decide (k = 4) || decide (k = 3)) && decide (s = q) && decide ((l'.length : Int) = r))
  rw [h]
theorem joins_same {k n n' : Int} {s : List UInt8} {l l' : List T} (h : l.length = l'.length) : (T.mk k n s l).joins = (T.mk k n' s l').joins := by
  rw [T.joins, T.joins, isOf_same h, isOf_same h, isOf_same h]

theorem map_atom (f : Int → T) {k n : Int} {s : List UInt8} (h1 : k ≠ 1) (h4 : k ≠ 4) : T.map f (.mk k n s []) = .mk k n s [] := by rw [T.map, if_neg h1, if_neg h4]
theorem map_comp (f : Int → T) (n : Int) (s : List UInt8) (l : List T) : T.map f (.mk 4 n s l) = .mk 4 n s (T.mapL f l) := by rw [T.map, if_neg (by decide), if_pos rfl]

theorem body_mapped (f : Int → T) (N : Nat) : ∀ (t u : T), SizeOf.sizeOf t ≤ N → t.formed = true → T.body t = some u → T.body (T.map f u) = some (T.map f u) := by
  induction N with
  | zero => intro t u h; cases t; simp at h
  | succ N ih =>
    intro t u h hf hb
    obtain ⟨k, n, s, l⟩ := t
    by_cases h1 : k = 1
    · subst h1
      rw [body_var] at hb
      cases hb
      rw [compT, map_comp]
      exact body_plain (by decide) (by decide) (by simp [T.joins, T.isOf, T.k, T.s, T.l, sCallT])
    by_cases h2 : k = 2
    · subst h2
      rw [body_int] at hb
      cases hb
    cases hj : (T.mk k n s l).joins with
    | true =>
      obtain ⟨k', n', s', x, y, he⟩ := joins_two hj
      cases he
      rw [body_joins h1 h2 hj] at hb
      obtain ⟨rfl, rfl, hs, hx, hy⟩ := formed_two_inv hf
      simp only [T.mk.sizeOf_spec, List.cons.sizeOf_spec] at h
      cases ha : T.body x with
      | none => rw [ha] at hb; cases hb
      | some a =>
        cases hc : T.body y with
        | none => rw [ha, hc] at hb; cases hb
        | some c =>
          rw [ha, hc] at hb
          cases hb
          rw [compT, map_comp, T.mapL, T.mapL, T.mapL]
          rw [body_joins (by decide) (by decide) ((joins_same (l := [T.map f a, T.map f c]) (l' := [x, y]) (n := 0) (n' := 0) rfl).trans hj), ih x a (by omega) hx ha, ih y c (by omega) hy hc]
          rfl
    | false =>
      rw [body_plain h1 h2 hj] at hb
      cases hb
      rcases formed_args hf with ⟨rfl, _⟩ | ⟨h4, rfl⟩
      · rw [map_comp]
        exact body_plain h1 h2 ((joins_same (T.mapL_length f l)).trans hj)
      · rw [map_atom f h1 h4]
        exact body_plain h1 h2 hj

mutual
theorem vars_sub {V : List Int} : ∀ (t : T) (W : List Int), T.within V t → (∀ n ∈ W, n ∈ V) → ∀ n ∈ T.vars t W, n ∈ V
  | .mk k m s l, W, ht, hW => by
    rw [T.within] at ht
    rw [T.vars]
    by_cases h1 : k = 1
    · rw [if_pos h1]
      split
      · exact hW
      · intro n hn
        rcases List.mem_append.1 hn with h | h
        · exact hW n h
        · rw [List.mem_singleton.1 h]; exact ht.1 h1
    · rw [if_neg h1]; exact varsL_sub l W ht.2 hW
theorem varsL_sub {V : List Int} : ∀ (l : List T) (W : List Int), T.withinL V l → (∀ n ∈ W, n ∈ V) → ∀ n ∈ T.varsL l W, n ∈ V
  | [], W, _, hW => by rw [T.varsL]; exact hW
  | x :: xs, W, hl, hW => by
    rw [T.withinL] at hl
    rw [T.varsL]
    exact varsL_sub xs _ hl.2 (vars_sub x W hl.1 hW)
end

theorem mem_map_on {g : Int → Int} {V W : List Int} (hg : ∀ a ∈ V, ∀ b ∈ V, g a = g b → a = b) (hW : ∀ n ∈ W, n ∈ V) {n : Int} (hn : n ∈ V) : g n ∈ W.map g ↔ n ∈ W := by
  constructor
  · intro h
    obtain ⟨m, hm, e⟩ := List.mem_map.1 h
    rw [← hg m (hW m hm) n hn e]
    exact hm
  · exact List.mem_map_of_mem

mutual
theorem vars_mapped {g : Int → Int} {V : List Int} (hg : ∀ a ∈ V, ∀ b ∈ V, g a = g b → a = b) : ∀ (t : T) (W : List Int), t.formed = true → T.within V t → (∀ n ∈ W, n ∈ V) → T.vars (T.map (vf g) t) (W.map g) = (T.vars t W).map g
  | .mk k n s l, W, hf, ht, hW => by
    rw [T.within] at ht
    by_cases h1 : k = 1
    · subst h1
      rw [T.map, if_pos rfl, vf, varT, T.vars, if_pos rfl, T.vars, if_pos rfl]
      by_cases hn : n ∈ W
      · rw [if_pos hn, if_pos ((mem_map_on hg hW (ht.1 rfl)).2 hn)]
      · rw [if_neg hn, if_neg (fun h => hn ((mem_map_on hg hW (ht.1 rfl)).1 h)), List.map_append, List.map_cons, List.map_nil]
    · rcases formed_args hf with ⟨rfl, hl⟩ | ⟨h4, rfl⟩
      · rw [map_comp, T.vars, if_neg h1, T.vars, if_neg h1]
        exact varsL_mapped hg l W hl ht.2 hW
      · rw [map_atom _ h1 h4, T.vars, if_neg h1, T.vars, if_neg h1, T.varsL, T.varsL]
theorem varsL_mapped {g : Int → Int} {V : List Int} (hg : ∀ a ∈ V, ∀ b ∈ V, g a = g b → a = b) : ∀ (l : List T) (W : List Int), T.formedL l = true → T.withinL V l → (∀ n ∈ W, n ∈ V) → T.varsL (T.mapL (vf g) l) (W.map g) = (T.varsL l W).map g
  | [], W, _, _, _ => by rw [T.mapL, T.varsL, T.varsL]
  | x :: xs, W, hf, hl, hW => by
    rw [T.withinL] at hl
    rw [T.formedL, Bool.and_eq_true] at hf
    rw [T.mapL, T.varsL, T.varsL, vars_mapped hg x W hf.1 hl.1 hW]
    exact varsL_mapped hg xs _ hf.2 hl.2 (vars_sub x W hl.1 hW)
end

mutual
theorem map_again {f : Int → T} {g : Int → Int} {V : List Int} (hfg : ∀ n ∈ V, f (g n) = varT (g n)) : ∀ (t : T), t.formed = true → T.within V t → T.map f (T.map (vf g) t) = T.map (vf g) t
  | .mk k n s l, hf, ht => by
    rw [T.within] at ht
    by_cases h1 : k = 1
    · subst h1
      rw [T.map, if_pos rfl, vf, varT, T.map, if_pos rfl, hfg n (ht.1 rfl), varT]
    · rcases formed_args hf with ⟨rfl, hl⟩ | ⟨h4, rfl⟩
      · rw [map_comp, map_comp, mapL_again hfg l hl ht.2]
      · rw [map_atom _ h1 h4, map_atom _ h1 h4]
theorem mapL_again {f : Int → T} {g : Int → Int} {V : List Int} (hfg : ∀ n ∈ V, f (g n) = varT (g n)) : ∀ (l : List T), T.formedL l = true → T.withinL V l → T.mapL f (T.mapL (vf g) l) = T.mapL (vf g) l
  | [], _, _ => by rw [T.mapL, T.mapL]
  | x :: xs, hf, hl => by
    rw [T.withinL] at hl
    rw [T.formedL, Bool.and_eq_true] at hf
    rw [T.mapL, T.mapL, map_again hfg x hf.1 hl.1, mapL_again hfg xs hf.2 hl.2]
end

theorem place_inj (V : List Int) : ∀ a ∈ V, ∀ b ∈ V, placeOf V a = placeOf V b → a = b := by
  intro a ha b hb h
  rw [placeOf, placeOf, if_pos ha, if_pos hb] at h
  have h2 : V.idxOf a = V.idxOf b := Int.ofNat_inj.1 h
  have e1 := List.getElem_idxOf (List.idxOf_lt_length_of_mem ha)
  have e2 := List.getElem_idxOf (List.idxOf_lt_length_of_mem hb)
  rw [← e1, ← e2]
  simp only [h2]

theorem idxOf_map_on {g : Int → Int} : ∀ (V W : List Int), (∀ a ∈ W, ∀ b ∈ W, g a = g b → a = b) → (∀ n ∈ V, n ∈ W) → ∀ n ∈ W, (V.map g).idxOf (g n) = V.idxOf n
  | [], _, _, _, _, _ => rfl
  | x :: xs, W, hg, hs, n, hn => by
    rw [List.map_cons, List.idxOf_cons, List.idxOf_cons]
    by_cases h : x = n
    · subst h; simp
    · have h2 : ¬ g x = g n := fun e => h (hg x (hs x (by simp)) n hn e)
      simp only [beq_eq_false_iff_ne.2 h, beq_eq_false_iff_ne.2 h2, cond_false]
      rw [idxOf_map_on xs W hg (fun m hm => hs m (by simp [hm])) n hn]

theorem place_again (V : List Int) : ∀ n ∈ V, swapF 0 (V.map (placeOf V)) (placeOf V n) = varT (placeOf V n) := by
  intro n hn
  rw [swapF, if_pos (List.mem_map_of_mem hn), idxOf_map_on V V (place_inj V) (fun _ h => h) n hn, Int.zero_add]
  conv => rhs; rw [placeOf, if_pos hn]

theorem map_head (f : Int → T) {p : T} (hf : p.formed = true) (hc : p.callable = true) : (T.map f p).k = p.k ∧ (T.map f p).s = p.s ∧ (T.map f p).l.length = p.l.length := by
  obtain ⟨k, n, s, l⟩ := p
  rcases formed_args hf with ⟨rfl, _⟩ | ⟨h4, rfl⟩
  · rw [map_comp]
    exact ⟨rfl, rfl, T.mapL_length f l⟩
  · have h1 : k ≠ 1 := by rintro rfl; simp [T.callable, T.k] at hc
    rw [map_atom f h1 h4]
    exact ⟨rfl, rfl, rfl⟩

theorem isOf_true {b : T} (hf : b.formed = true) (h : b.isOf sTrue 0 = true) : b = atomT sTrue := by
  obtain ⟨k, n, s, l⟩ := b
  simp only [T.isOf, T.k, T.s, T.l, Bool.and_eq_true, Bool.or_eq_true] at h
  obtain ⟨⟨hk, hs⟩, hl⟩ := h
  obtain rfl : s = sTrue := of_decide_eq_true hs
  replace hl : (l.length : Int) = 0 := of_decide_eq_true hl
  replace hk : k = 4 ∨ k = 3 := hk.imp of_decide_eq_true of_decide_eq_true
  obtain rfl : l = [] := List.eq_nil_of_length_eq_zero (by omega)
  rw [T.formed] at hf
  rcases hk with rfl | rfl
  · simp at hf
  · simp at hf
    obtain ⟨rfl, _⟩ := hf
    rfl

theorem make_again {res : List UInt8 → Int → Bool} (hres : res sNeck 2 = true) {t h b : T} (hf : t.formed = true) (hm : T.make res t = some (h, b)) : T.make res (clauseT h b) = some (h, b) := by
  have hff := make_formed hf hm
  obtain ⟨p1, p2⟩ := parts_formed hf
  rw [T.make] at hm
  cases hb : T.body t.parts.2 with
  | none => rw [hb] at hm; cases hm
  | some u =>
    have hu := body_formed _ _ _ (Nat.le_refl _) p2 hb
    have hab := body_mapped (swapF 0 (T.varsL [t.parts.1, u] [])) _ _ _ (Nat.le_refl _) p2 hb
    rw [hb] at hm
    simp only at hm
    split at hm
    · rename_i hcr
      rw [Bool.and_eq_true] at hcr
      generalize hp : t.parts.1 = p at *
      generalize hV : T.varsL [p, u] [] = V at *
      have hw : T.withinL V [p, u] := by rw [← hV]; exact T.varsL_within _ _ (by rw [T.formedL, T.formedL, T.formedL, p1, hu]; rfl)
      rw [T.withinL, T.withinL] at hw
      rw [swapF_place] at hm hab
      simp only [Option.some.injEq, Prod.mk.injEq] at hm
      obtain ⟨rfl, rfl⟩ := hm
      obtain ⟨hk, hs, hl⟩ := map_head (vf (placeOf V)) p1 hcr.1
      have hparts : (clauseT (T.map (vf (placeOf V)) p) (T.map (vf (placeOf V)) u)).parts = (T.map (vf (placeOf V)) p, T.map (vf (placeOf V)) u) := by
        rw [clauseT]
        split
        · rename_i ht
          rw [T.parts]
          rw [if_neg, ← isOf_true hff.2 ht]
          intro hn
          obtain ⟨k', n', x, y, he⟩ := isOf_two hn
          have h1 : p.s = sNeck := by rw [← hs, he]; rfl
          have h2 : p.l.length = 2 := by rw [← hl, he]; rfl
          rw [h1, h2] at hcr
          have := hcr.2
          rw [show ((2 : Nat) : Int) = 2 from rfl, hres] at this
          cases this
        · rw [T.parts, if_pos (by simp [T.isOf, compT, T.k, T.s, T.l])]
          rfl
      have hvars : T.varsL [T.map (vf (placeOf V)) p, T.map (vf (placeOf V)) u] [] = V.map (placeOf V) := by
        have := varsL_mapped (place_inj V) [p, u] [] (by rw [T.formedL, T.formedL, T.formedL, p1, hu]; rfl) (by rw [T.withinL, T.withinL]; exact hw) (fun _ h => by cases h)
        rw [T.mapL, T.mapL, T.mapL, List.map_nil, hV] at this
        exact this
      rw [T.make, hparts]
      simp only
      rw [hab]
      simp only
      rw [hvars, map_again (place_again V) p p1 hw.1, map_again (place_again V) u hu hw.2.1, hs, hl]
      have hcal : (T.map (vf (placeOf V)) p).callable = true := by rw [T.callable, hk]; exact hcr.1
      rw [hcal, Bool.true_and, if_pos hcr.2]
    · cases hm

/-- What is made, as a term, makes itself: nothing is wrong with it. -/
theorem plainErr_made {res : List UInt8 → Int → Bool} (hres : res sNeck 2 = true) {t h b : T} (hf : t.formed = true) (hm : T.make res t = some (h, b)) (hrefl : ∀ x : T, T.same x x = true) : plainErr res h b = 0 := by
  have hff := make_formed hf hm
  rw [plainErr, hff.1, hff.2, make_again hres hf hm]
  simp [hrefl]

end Go.Proofs.Ytcblmkhhhibddaa
