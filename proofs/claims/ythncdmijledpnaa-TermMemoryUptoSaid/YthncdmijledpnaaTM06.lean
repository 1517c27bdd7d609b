/-
  hornkeep's own: a term in new memory, with spare room in which marks stand.
  A clause, as a term, makes the same clause (no program here).
  Which names are reserved, which builtins are allowed, which codes may run: plain.
  The order of terms: a total one (plain).
  Facts for the bases that the laws make (no program here).
  hornkeep.still: a term of one's own that is as it was.
-/
import Derived.Test.YthncdmijledpnaaTM04
import Derived.Test.YthncdmijledpnaaTM05
import Derived.Deep.LoopGhost
import Derived.Deep.CutRange
import Derived.Deep.CutBlock
import Derived.Deep.Light
import Derived.Test.YthncdmijledpnaaTM03
import Derived.Test.YthncdmijledpnaaTM02
namespace Go.Proofs.Ythncdmijledpnaa
open Go.RowKit Go.Lib

mutual
/-- Behind all Args of the term there is room for three, in which marks stand. -/
def Tm.Roomy (w : World) : Tm → Prop
  | .mk _ _ _ p c l => (l = [] ∨ ∃ b, p = some ⟨b, 0, none⟩ ∧ c = l.length + 3 ∧ ∀ j, j < 12 → w.cell? ⟨b, l.length * 4 + j, none⟩ = marks[j]?) ∧ Tm.RoomyL w l
def Tm.RoomyL (w : World) : List Tm → Prop
  | [] => True
  | x :: xs => Tm.Roomy w x ∧ Tm.RoomyL w xs
end

mutual
theorem Tm.Roomy.same {w w' : World} {S : Nat → Prop} (hS : ∀ b, S b → ∀ o, w'.cell? ⟨b, o, none⟩ = w.cell? ⟨b, o, none⟩) : ∀ {t : Tm}, t.On S → t.Roomy w → t.Roomy w'
  | .mk k n s p c l, ho, h => by
    rw [Tm.On] at ho
    rw [Tm.Roomy] at h ⊢
    refine ⟨?_, Tm.RoomyL.same hS ho.2 h.2⟩
    rcases ho.1 with h1 | ⟨b, o, hp, hb⟩
    · exact .inl h1
    · refine h.1.imp id ?_
      rintro ⟨b', hp', hc, hm⟩
      rw [hp] at hp'
      cases hp'
      exact ⟨b, hp, hc, fun j hj => (hS b hb _).trans (hm j hj)⟩
theorem Tm.RoomyL.same {w w' : World} {S : Nat → Prop} (hS : ∀ b, S b → ∀ o, w'.cell? ⟨b, o, none⟩ = w.cell? ⟨b, o, none⟩) : ∀ {l : List Tm}, Tm.OnL S l → Tm.RoomyL w l → Tm.RoomyL w' l
  | [], _, _ => by rw [Tm.RoomyL]; trivial
  | x :: xs, ho, h => by
    rw [Tm.OnL] at ho
    rw [Tm.RoomyL] at h ⊢
    exact ⟨Tm.Roomy.same hS ho.1 h.1, Tm.RoomyL.same hS ho.2 h.2⟩
end
theorem Tm.RoomyL_append {w : World} : ∀ {l l' : List Tm}, Tm.RoomyL w l → Tm.RoomyL w l' → Tm.RoomyL w (l ++ l')
  | [], _, _, h => h
  | x :: xs, _, h, h' => by
    rw [Tm.RoomyL] at h
    rw [List.cons_append, Tm.RoomyL]
    exact ⟨h.1, Tm.RoomyL_append h.2 h'⟩
theorem Tm.RoomyL_mem {w : World} : ∀ {l : List Tm}, Tm.RoomyL w l → ∀ x ∈ l, Tm.Roomy w x
  | _ :: _, h, x, hx => by
    rw [Tm.RoomyL] at h
    rcases List.mem_cons.1 hx with rfl | hx
    · exact h.1
    · exact Tm.RoomyL_mem h.2 x hx
theorem Tm.Roomy.gr {w w' : World} {t : Tm} (h : t.Roomy w) (hi : t.In w) (hg : Gr w w') : t.Roomy w' :=
  Tm.Roomy.same (S := (· < w.heap.size)) (fun b hb _ => World.cell?_of_block (hg.block b hb)) hi.on h
theorem Tm.In.onL {w : World} : ∀ {l : List Tm}, Tm.InL w l → Tm.OnL (· < w.heap.size) l
  | [], _ => by rw [Tm.OnL]; trivial
  | x :: xs, h => by
    rw [Tm.InL] at h
    rw [Tm.OnL]
    exact ⟨h.1.on, Tm.In.onL h.2⟩

/-- A term of one's own is handed back. -/
def RetOwn (u : T) (w : World) (e : Ending) (w' : World) : Prop := ∃ x : Tm, e = .returned x.val ∧ x.In w' ∧ x.erase = u ∧ x.On (w.heap.size ≤ ·) ∧ x.Roomy w' ∧ Gr w w'
def ownOf (t : Tm) : Prop := ∀ w : World, t.In w → Calls Try.prog 14 #[t.val] w (RetOwn t.erase w)

theorem eraseL_take (l : List Tm) (k : Nat) (hk : k < l.length) : Tm.eraseL (l.take (k + 1)) = Tm.eraseL (l.take k) ++ [l[k].erase] := by
  rw [List.take_succ_eq_append_getElem hk, eraseL_append, Tm.eraseL, Tm.eraseL]

set_option maxHeartbeats 4000000 in
set_option maxRecDepth 100000 in
theorem own_step (k0 n : Int) (s : ByteArray) (p' : Option Addr) (c' : Nat) (l : List Tm) (ih : ∀ x ∈ l, ownOf x) (w : World) (hin : (Tm.mk k0 n s p' c' l).In w) :
    Calls Try.prog 14 #[(Tm.mk k0 n s p' c' l).val] w (RetOwn (Tm.mk k0 n s p' c' l).erase w) := by
  have HSl := Lib.hid hin.sl
  rw [Tm.In] at hin
  have hlc : l.length ≤ c' := hin.2.2.2.1
  have hc : c' ≤ 9223372036854775807 := hin.2.2.2.2.1.2
  have hl56 : l.length * 56 ≤ 140737488351232 := hin.2.2.2.2.1.1
  have Hk := Lib.hid hin.1
  have Hn := Lib.hid hin.2.1
  have Hs := Lib.hid hin.2.2.1
  have Hih := Lib.hid ih
  clear hin ih
  have hR : Hid (∀ (x : Tm) (w' : World), x.In w' → x.erase = (Tm.mk k0 n s p' c' l).erase → x.On (w.heap.size ≤ ·) → x.Roomy w' → Gr w w' → RetOwn (Tm.mk k0 n s p' c' l).erase w (.returned x.val) w') := fun x w' h1 h2 h3 h4 h5 => ⟨x, rfl, h1, h2, h3, h4, h5⟩
  generalize hQ : RetOwn (Tm.mk k0 n s p' c' l).erase w = Q at hR ⊢
  clear hQ
  simp only [tm_val]
  go_enter Try.func14, Try.ntmps14
  try simp only [List.append_eq, List.cons_append, List.nil_append]
  go_upto_region 1 with fail
  obtain ⟨HB, HR, gA⟩ := two_blocks w (.int .i64 k0) (.int .i64 n) (.string s) (.slice p' l.length c') (.int .i64 0) (.int .i64 0) (.string ⟨#[]⟩) (.slice none 0 0)
  have hszA : ((w.alloc (.cells #[.int .i64 k0, .int .i64 n, .string s, .slice p' l.length c'] 25)).alloc (.cells #[.int .i64 0, .int .i64 0, .string ⟨#[]⟩, .slice none 0 0] 25)).heap.size = w.heap.size + 2 := by simp
  generalize (w.alloc (.cells #[.int .i64 k0, .int .i64 n, .string s, .slice p' l.length c'] 25)).alloc (.cells #[.int .i64 0, .int .i64 0, .string ⟨#[]⟩, .slice none 0 0] 25) = wA at *
  obtain ⟨⟨b0, b1, b2, b3⟩, _, _⟩ := HB.out.parts
  go_wp2_with fail
  clear b0 b1 b2 b3
  go_loopg [3, 8] l.length (fun m u i wr => ∃ k : Nat, k ≤ l.length ∧ m = l.length - k ∧ i = .int .i64 k ∧
    Hid (∃ lm : List Tm, lm.length = k ∧ Tm.eraseL lm = Tm.eraseL (l.take k) ∧ Built wr (w.heap.size + 2) (fun _ => False) u lm ∧ Tm.RoomyL wr lm) ∧
    Hid (Blk4 wr w.heap.size (.int .i64 k0) (.int .i64 n) (.string s) (.slice p' l.length c') ∧ Blk4 wr (w.heap.size + 1) (.int .i64 0) (.int .i64 0) (.string ⟨#[]⟩) (.slice none 0 0)) ∧ Gr w wr ∧ w.heap.size + 2 ≤ wr.heap.size)
  case atStart => exact ⟨0, Nat.zero_le _, rfl, rfl, ⟨[], rfl, by simp [Tm.eraseL], Built.nil _ _ _, by rw [Tm.RoomyL]; trivial⟩, ⟨HB.out, HR.out⟩, gA, by omega⟩
  case round =>
    obtain ⟨k, hk, rfl, rfl, hlm, HBR, gr, hws⟩ := hrel
    obtain ⟨⟨b0, b1, b2, b3⟩, ⟨e0, e1, e2, e3⟩, _⟩ := HBR.out.1.parts
    by_cases hkl : k < l.length
    · obtain ⟨b, o, rfl⟩ := HSl.out.ptr (by omega)
      obtain ⟨⟨c0, c1, c2, c3⟩, hxi, _⟩ := (HSl.out.mono gr).elem k hkl
      have hmem : l[k] ∈ l := List.getElem_mem hkl
      have Hx := Lib.hid hxi
      have Hix := Lib.hid (Hih.out _ hmem)
      have Htk := Lib.hid (eraseL_take l k hkl)
      clear hmem hxi
      generalize l[k] = x at *
      have Hxv := Lib.hid (show x.val = .agg #[.int .i64 x.k, .int .i64 x.n, .string x.s, .slice x.p x.l.length x.c] from rfl)
      go_wp2_with fail
      clear b0 b1 b2 b3 e0 e1 e2 e3
      rw [← Hxv.out]
      refine (Hix.out wr Hx.out).mono ?_
      rintro e w2 ⟨xm, rfl, hin, he, hon, hro, hb2⟩
      obtain ⟨lm, hl0, he0, hF, hRo⟩ := hlm.out
      have hRo2 : Tm.RoomyL w2 lm := Tm.RoomyL.same (S := (· < wr.heap.size)) (fun b hb o => World.cell?_of_block (hb2.block b hb)) (hF.2.2.mono fun b hb => hb.2.1) hRo
      have HOn := Lib.hid hF.2.2
      have HF2 := Lib.hid (hF.gr hb2)
      have Hvf := Lib.hid hF.1.lt
      have hs2 := hb2.size
      have Hl0 := Lib.hid hl0
      have He0 := Lib.hid he0
      have Hin := Lib.hid hin
      have Hon := Lib.hid hon
      have He := Lib.hid he
      have Hro := Lib.hid hro
      have HRo2 := Lib.hid hRo2
      have HB2 := Lib.hid (And.intro (HBR.out.1.gr hb2) (HBR.out.2.gr hb2))
      have g2 : Gr w w2 := gr.trans hb2
      clear hF hl0 he0 hin hon he hb2 hlm c0 c1 c2 c3 hro hRo2 hRo
      obtain ⟨k', n', s', p2, c2, l2⟩ := xm
      simp only [Tm.val, Tm.k, Tm.n, Tm.s, Tm.p, Tm.c, Tm.l]
      go_wp2_with
        (at_builtin
         refine wpList_append_term rfl _ _ rfl rfl (w.heap.size + 2) (fun _ => False) _ lm (.mk k' n' s' p2 c2 l2) w2.heap.size 1 rfl rfl (HF2.out.gr (by go_grown)) (by simp; omega) (Tm.In_below (by go_grown) Hin.out) (Hon.out.mono fun b hb => ⟨.inr (by omega), fun e => by have := Hvf.out b e; omega⟩) (by have := Hl0.out; omega) (by show _ = some (Value.int .i64 k'); go_cell) (by show _ = some (Value.int .i64 n'); go_cell) (by show _ = some (Value.string s'); go_cell) (by show _ = some (Value.slice p2 l2.length c2); go_cell) ?_
         intro v' w4 hbt hbel hcl
         have hsame : ∀ b, b < w2.heap.size → ∀ o, (w2.alloc (.cells #[.int .i64 k', .int .i64 n', .string s', .slice p2 l2.length c2] 25)).cell? ⟨b, o, none⟩ = w2.cell? ⟨b, o, none⟩ := fun b hb o => World.cell?_of_block (heap_alloc_old w2 _ hb)
         have hro1 : Tm.RoomyL w4 lm := Tm.RoomyL.same (fun b hb o => (hcl ⟨b, o, none⟩ (by simp only [World.size_alloc]; have := hb.2.1; omega) hb.2.2).trans (hsame b (by have := hb.2.1; omega) o)) HOn.out HRo2.out
         have hro2 : (Tm.mk k' n' s' p2 c2 l2).Roomy w4 := Tm.Roomy.same (fun b hb o => (hcl ⟨b, o, none⟩ (by simp only [World.size_alloc]; have := hb.2; omega) (fun e => by have := Hvf.out b e; have := hb.1; omega)).trans (hsame b hb.2 o)) (Tm.On.and Hon.out Hin.out.on) Hro.out
         have HRo4 := Lib.hid (Tm.RoomyL_append hro1 (by rw [Tm.RoomyL, Tm.RoomyL]; exact ⟨hro2, trivial⟩ : Tm.RoomyL w4 [Tm.mk k' n' s' p2 c2 l2]))
         clear hcl hsame hro1 hro2)
      go_roundg (l.length - (k + 1))
      case measure => omega
      case rel =>
        have hg4 : Below (w.heap.size + 2) w2 w4 := Below.trans (show Below (w.heap.size + 2) w2 _ by go_grown) hbel
        exact ⟨k + 1, by omega, rfl, by go_num, ⟨_, by rw [List.length_append, Hl0.out]; rfl, by rw [eraseL_append, He0.out, Htk.out, ← He.out]; simp [Tm.eraseL], hbt, HRo4.out⟩, ⟨HB2.out.1.below hg4 (by omega), HB2.out.2.below hg4 (by omega)⟩, Below.trans g2 (hg4.mono (by omega)), by have := hg4.size; omega⟩
    · obtain rfl : k = l.length := by omega
      obtain ⟨lm, hl0, he0, hF, hRo⟩ := hlm.out
      rw [List.take_length] at he0
      obtain ⟨pv, cv, rfl, hcv1, hcv2⟩ := hF.form
      have HF := Lib.hid hF
      have Hl0 := Lib.hid hl0
      have He0 := Lib.hid he0
      have HRo := Lib.hid hRo
      have hll : (lm.length : Int) = l.length := by rw [hl0]
      clear hF hl0 he0 hlm hRo
      have Hsl := Lib.hid (HF.out.sl (by have := Hl0.out; omega))
      by_cases h0 : 0 < lm.length
      · go_upto_region 9 with (first
          | (go_at_call 79; refine (markY_calls _).mono ?_; rintro e w5 ⟨rfl, hb⟩; have g5 := gr.trans hb; have HS5 := Lib.hid (Hsl.out.2.1.mono hb); have HRo5 := Lib.hid (Tm.RoomyL.same (S := (· < wr.heap.size)) (fun b hb' o => World.cell?_of_block (hb.block b hb')) (Tm.In.onL Hsl.out.2.1.2.2.2) HRo.out); have HBR5 := Lib.hid (And.intro (HBR.out.1.gr hb) (HBR.out.2.gr hb)); have hs5 := hb.size; clear hb)
          | (go_at_call 78; refine (roomy_calls pv cv lm _ HS5.out h0).mono ?_; rintro e w6 ⟨g, rfl, hgs, hgc, hb⟩; have g6 := g5.trans hb; have HBR6 := Lib.hid (And.intro (HBR5.out.1.gr hb) (HBR5.out.2.gr hb)); have HS6 := Lib.hid (HS5.out.mono hb); have HRo6 := Lib.hid (Tm.RoomyL.same (S := (· < w5.heap.size)) (fun b hb' o => World.cell?_of_block (hb.block b hb')) (Tm.In.onL HS5.out.2.2.2) HRo5.out); have Hgc := Lib.hid hgc; have hs6 := hb.size; clear hb hgc b0 b1 b2 b3 e0 e1 e2 e3)
          | fail)
        obtain ⟨⟨b0, b1, b2, b3⟩, ⟨e0, e1, e2, e3⟩, hb6⟩ := HBR6.out.1.parts
        obtain ⟨⟨y0, y1, y2, y3⟩, ⟨f0, f1, f2, f3⟩, hbs2⟩ := HBR6.out.2.parts
        have hat : ∀ (i : Nat) (y : Tm), lm[i]? = some y → ∀ j, j < 4 → w6.cell? ⟨g, 0 + i * 4 + j, none⟩ = y.cells[j]? := by
          intro i y hy j hj
          have hi : i < lm.length := (List.getElem?_eq_some_iff.1 hy).1
          rw [Nat.zero_add, cell_of_row w6 g _ _ _ _ Hgc.out, List.getElem?_toArray, List.getElem?_append_left (by rw [cells_len]; omega)]
          exact cells_at hy j hj
        have hmk : ∀ j, j < 12 → w6.cell? ⟨g, lm.length * 4 + j, none⟩ = marks[j]? := by
          intro j hj
          rw [cell_of_row w6 g _ _ _ _ Hgc.out, List.getElem?_toArray, List.getElem?_append_right (by rw [cells_len]; omega), cells_len, Nat.add_sub_cancel_left]
        have hxin : (Tm.mk k0 n s (some ⟨g, 0, none⟩) (lm.length + 3) lm).In w6 := by
          rw [Tm.In]
          exact ⟨Hk.out, Hn.out, Hs.out, by omega, ⟨by omega, by omega⟩, .inr ⟨g, 0, rfl, fun i y hy => ⟨hat i y hy 0 (by omega), hat i y hy 1 (by omega), hat i y hy 2 (by omega), hat i y hy 3 (by omega)⟩⟩, HS6.out.2.2.2⟩
        have hxon : (Tm.mk k0 n s (some ⟨g, 0, none⟩) (lm.length + 3) lm).On (w.heap.size + 2 ≤ ·) := by
          rw [Tm.On]
          exact ⟨.inr ⟨g, 0, rfl, by omega⟩, Hsl.out.2.2.2.mono fun b hb => hb.elim (fun h => h.elim) id⟩
        have hxro : (Tm.mk k0 n s (some ⟨g, 0, none⟩) (lm.length + 3) lm).Roomy w6 := by
          rw [Tm.Roomy]
          exact ⟨.inr ⟨g, rfl, rfl, hmk⟩, HRo6.out⟩
        have hxe : (Tm.mk k0 n s (some ⟨g, 0, none⟩) (lm.length + 3) lm).erase = (Tm.mk k0 n s p' c' l).erase := by rw [Tm.erase, Tm.erase, He0.out]
        have hfin : Hid (∀ W, Kp (fun b => b = w.heap.size ∨ b = w.heap.size + 1) w6 W → Q (.returned (Tm.mk k0 n s (some ⟨g, 0, none⟩) (lm.length + 3) lm).val) W) := fun W hK =>
          hR.out _ W (in_after' hxin hxon fun b h1 h2 o => World.cell?_of_block (hK.block b h2 (by omega))) hxe (hxon.mono fun b hb => by omega)
            (Tm.Roomy.same (fun b hb o => World.cell?_of_block (hK.block b hb.2 (by have := hb.1; omega))) (Tm.On.and hxon hxin.on) hxro) (Below.trans g6 (hK.below (B := w.heap.size) (fun b hb => by omega) (by omega)))
        clear hat hmk hxin hxon hxro hxe
        go_wp2_with fail
        refine bodyPost_ret (v := (Tm.mk k0 n s (some ⟨g, 0, none⟩) (lm.length + 3) lm).val) (by simp (maxDischargeDepth := 9) [results, Try.results14, go_sem, Tm.val, Tm.k, Tm.n, Tm.s, Tm.p, Tm.c, Tm.l, y0, y1, y2, y3]) rfl ?_
        exact hfin.out _ ((Kp.set (C := fun b => b = w.heap.size ∨ b = w.heap.size + 1) (.inl rfl)).trans (Kp.set4 (C := fun b => b = w.heap.size ∨ b = w.heap.size + 1) (.inr rfl)))
      · obtain rfl : lm = [] := List.eq_nil_of_length_eq_zero (by omega)
        have hxe : (Tm.mk k0 n s pv cv []).erase = (Tm.mk k0 n s p' c' l).erase := by rw [Tm.erase, Tm.erase, He0.out]
        have hxin : ∀ W, (Tm.mk k0 n s pv cv []).In W := fun W => by
          rw [Tm.In]
          exact ⟨Hk.out, Hn.out, Hs.out, by simp, ⟨by simp, by simpa using hcv2⟩, .inl rfl, by rw [Tm.InL]; trivial⟩
        have hxon : ∀ S, (Tm.mk k0 n s pv cv []).On S := fun S => by rw [Tm.On, Tm.OnL]; exact ⟨.inl rfl, trivial⟩
        have hxro : ∀ W, (Tm.mk k0 n s pv cv []).Roomy W := fun W => by rw [Tm.Roomy, Tm.RoomyL]; exact ⟨.inl rfl, trivial⟩
        have hfin : Hid (∀ W, Kp (fun b => b = w.heap.size ∨ b = w.heap.size + 1) wr W → Q (.returned (Tm.mk k0 n s pv cv []).val) W) := fun W hK =>
          hR.out _ W (hxin _) hxe (hxon _) (hxro _) (Below.trans gr (hK.below (B := w.heap.size) (fun b hb => by omega) (by omega)))
        obtain ⟨⟨y0, y1, y2, y3⟩, ⟨f0, f1, f2, f3⟩, hbs2⟩ := HBR.out.2.parts
        clear hxe hxin hxon hxro
        simp only [List.length_nil] at *
        go_wp2_with fail
        refine bodyPost_ret (v := (Tm.mk k0 n s pv cv []).val) (by simp (maxDischargeDepth := 9) [results, Try.results14, go_sem, Tm.val, Tm.k, Tm.n, Tm.s, Tm.p, Tm.c, Tm.l, y0, y1, y2, y3]) rfl ?_
        exact hfin.out _ ((Kp.set (C := fun b => b = w.heap.size ∨ b = w.heap.size + 1) (.inl rfl)).trans (Kp.set4 (C := fun b => b = w.heap.size ∨ b = w.heap.size + 1) (.inr rfl)))

theorem own_any (N : Nat) : ∀ t : Tm, SizeOf.sizeOf t ≤ N → ownOf t := by
  induction N with
  | zero => intro t h; cases t; simp at h
  | succ N ih =>
    intro t h w hin
    obtain ⟨k, n, s, p, c, l⟩ := t
    exact own_step k n s p c l (fun x hx => ih x (by have := Tm.sizeOf_mem hx k n s p c; omega)) w hin
theorem own_calls {t : Tm} {w : World} (h : t.In w) : Calls Try.prog 14 #[t.val] w (RetOwn t.erase w) := own_any _ t (Nat.le_refl _) w h
end Go.Proofs.Ythncdmijledpnaa

namespace Go.Proofs.Ythncdmijledpnaa




end Go.Proofs.Ythncdmijledpnaa

namespace Go.Proofs.Ythncdmijledpnaa
open Go.RowKit

def sCall : List UInt8 := [99, 97, 108, 108]
def resRow0 : List (List UInt8) := [[116, 114, 117, 101], [102, 97, 105, 108], [33], [110, 108]]
def resRow1 : List (List UInt8) := [[92, 43], [116, 104, 114, 111, 119], [118, 97, 114], [110, 111, 110, 118, 97, 114], [97, 116, 111, 109], [105, 110, 116, 101, 103, 101, 114], [97, 116, 111, 109, 105, 99], [99, 111, 109, 112, 111, 117, 110, 100], [99, 97, 108, 108, 97, 98, 108, 101], [103, 114, 111, 117, 110, 100], [97, 115, 115, 101, 114, 116, 122], [97, 115, 115, 101, 114, 116, 97], [114, 101, 116, 114, 97, 99, 116], [112, 114, 105, 110, 116], [58, 45]]
def resRow2 : List (List UInt8) := [[44], [59], [45, 62], [61], [92, 61], [61, 61], [92, 61, 61], [64, 60], [64, 62], [64, 61, 60], [64, 62, 61], [61, 46, 46], [99, 111, 112, 121, 95, 116, 101, 114, 109], [105, 115], [61, 58, 61], [61, 92, 61], [60], [62], [61, 60], [62, 61], [97, 116, 111, 109, 95, 108, 101, 110, 103, 116, 104], [97, 116, 111, 109, 95, 99, 104, 97, 114, 115], [108, 101, 110, 103, 116, 104], [115, 111, 114, 116], [58, 45], [45, 45, 62]]
def resRow3 : List (List UInt8) := [[99, 97, 116, 99, 104], [102, 105, 110, 100, 97, 108, 108], [99, 111, 109, 112, 97, 114, 101], [102, 117, 110, 99, 116, 111, 114], [97, 114, 103], [98, 101, 116, 119, 101, 101, 110]]
def notAllowed : List (List UInt8) := [[116, 114, 117, 101], [102, 97, 105, 108], [33], [44], [59], [45, 62], [92, 43], [99, 97, 108, 108], [99, 97, 116, 99, 104], [102, 105, 110, 100, 97, 108, 108], [98, 101, 116, 119, 101, 101, 110], [97, 115, 115, 101, 114, 116, 122], [97, 115, 115, 101, 114, 116, 97], [114, 101, 116, 114, 97, 99, 116], [58, 45], [45, 45, 62]]
def resRow : Nat → List (List UInt8)
  | 0 => resRow0
  | 1 => resRow1
  | 2 => resRow2
  | 3 => resRow3
  | _ => []

/-- Is a name with so many arguments reserved? -/
def reserved (s : List UInt8) (n : Int) : Bool :=
  if s = sCall then decide (1 ≤ n) && decide (n ≤ 8) else if n < 0 ∨ 3 < n then false else decide (s ∈ resRow n.toNat)

/-- Is a builtin allowed in code? -/
def allowed (s : List UInt8) (n : Int) : Bool := if s ∈ notAllowed then false else reserved s n
end Go.Proofs.Ythncdmijledpnaa

namespace Go.Proofs.Ythncdmijledpnaa

def lex (x y : Int) : Int := if x = 0 then y else x

/-- Three comparisons that fit. -/
structure Tri (x y z : Int) : Prop where
  le : x ≤ 0 → y ≤ 0 → z ≤ 0 ∧ (z = 0 → x = 0 ∧ y = 0)
  l : x = 0 → z = y
  r : y = 0 → z = x

theorem Tri.lex {x y z x' y' z' : Int} (h : Tri x y z) (h' : x = 0 → y = 0 → Tri x' y' z') : Tri (lex x x') (lex y y') (lex z z') := by
  unfold Go.Proofs.Ythncdmijledpnaa.lex
  by_cases hx : x = 0
  · have hz := h.l hx
    by_cases hy : y = 0
    · have hz0 : z = 0 := by omega
      rw [if_pos hx, if_pos hy, if_pos hz0]
      exact h' hx hy
    · rw [if_pos hx, if_neg hy, if_neg (by omega), hz]
      exact ⟨fun _ h2 => ⟨h2, fun h3 => absurd h3 hy⟩, fun _ => rfl, fun h2 => absurd h2 hy⟩
  · by_cases hy : y = 0
    · have hz := h.r hy
      rw [if_neg hx, if_pos hy, if_neg (by omega), hz]
      exact ⟨fun h1 _ => ⟨h1, fun h3 => absurd h3 hx⟩, fun h1 => absurd h1 hx, fun _ => rfl⟩
    · rw [if_neg hx, if_neg hy]
      refine ⟨fun h1 h2 => ?_, fun h1 => absurd h1 hx, fun h2 => absurd h2 hy⟩
      obtain ⟨h3, h4⟩ := h.le h1 h2
      have hz : z ≠ 0 := fun e => hx (h4 e).1
      rw [if_neg hz]
      exact ⟨h3, fun e => absurd e hz⟩

theorem cmpI_zero {a b : Int} : cmpI a b = 0 ↔ a = b := by
  unfold cmpI
  constructor
  · intro h; split at h <;> (try split at h) <;> omega
  · rintro rfl; simp

def cb1 (a b : UInt8) : Int := if a < b then -1 else if b < a then 1 else 0
theorem cb1_eq (a b : UInt8) : cb1 a b = cmpI a.toNat b.toNat := by
  unfold cb1 cmpI
  simp only [UInt8.lt_iff_toNat_lt]
  split <;> split <;> (try split) <;> (try split) <;> omega

theorem cb_cons (a b : UInt8) (x y : List UInt8) : Lib.compareBytes (a :: x) (b :: y) = lex (cb1 a b) (Lib.compareBytes x y) := by
  rw [Lib.compareBytes, lex, cb1]
  split
  · rfl
  · split <;> rfl

theorem lex_zero {x y : Int} : lex x y = 0 ↔ x = 0 ∧ y = 0 := by
  unfold lex
  split <;> constructor <;> omega

theorem cb_zero : ∀ a b : List UInt8, Lib.compareBytes a b = 0 ↔ a = b
  | [], [] => by simp [Lib.compareBytes]
  | [], _ :: _ => by simp [Lib.compareBytes]
  | _ :: _, [] => by simp [Lib.compareBytes]
  | a :: x, b :: y => by
    rw [cb_cons, lex_zero, cb1_eq, cmpI_zero, cb_zero x y, List.cons.injEq]
    constructor
    · rintro ⟨h1, h2⟩; exact ⟨by rw [← UInt8.toNat_inj]; omega, h2⟩
    · rintro ⟨h1, h2⟩; exact ⟨by rw [h1], h2⟩

theorem order_eq (k n : Int) (s : List UInt8) (l : List T) (k' n' : Int) (s' : List UInt8) (l' : List T) :
    T.order (.mk k n s l) (.mk k' n' s' l') = lex (cmpI k k') (if k = 3 then Lib.compareBytes s s' else if k = 4 then lex (lex (cmpI l.length l'.length) (Lib.compareBytes s s')) (T.orderL l l') else cmpI n n') := by
  rw [T.order]
  unfold lex
  by_cases h : k = k'
  · rw [if_pos h, if_pos (cmpI_zero.2 h)]
  · rw [if_neg h, if_neg (fun e => h (cmpI_zero.1 e))]




mutual
theorem same_iff : ∀ a b : T, T.same a b = true ↔ a = b
  | .mk k n s l, .mk k' n' s' l' => by
    rw [T.same]
    simp only [Bool.and_eq_true, decide_eq_true_eq, T.mk.injEq]
    constructor
    · rintro ⟨⟨⟨⟨h1, h2⟩, h3⟩, h4⟩, h5⟩; exact ⟨h1, h2, h3, (sameL_iff l l' h4).1 h5⟩
    · rintro ⟨h1, h2, h3, h4⟩; exact ⟨⟨⟨⟨h1, h2⟩, h3⟩, by rw [h4]⟩, (sameL_iff l l' (by rw [h4])).2 h4⟩
theorem sameL_iff : ∀ a b : List T, a.length = b.length → (T.sameL a b = true ↔ a = b)
  | [], [], _ => by simp [T.sameL]
  | [], _ :: _, h => by simp at h
  | _ :: _, [], h => by simp at h
  | a :: x, b :: y, h => by
    rw [T.sameL, Bool.and_eq_true, same_iff a b, sameL_iff x y (by simpa using h), List.cons.injEq]
end

mutual
theorem order_zero : ∀ a b : T, a.formed = true → b.formed = true → (T.order a b = 0 ↔ a = b)
  | .mk k n s l, .mk k' n' s' l', ha, hb => by
    rw [order_eq, lex_zero, cmpI_zero, T.mk.injEq]
    by_cases hk : k = k'
    · subst hk
      rw [T.formed] at ha hb
      by_cases h1 : k = 1
      · subst h1
        simp at ha hb
        simp [cmpI_zero, ha, hb]
      by_cases h2 : k = 2
      · subst h2
        simp at ha hb
        simp [cmpI_zero, ha, hb]
      by_cases h3 : k = 3
      · subst h3
        simp at ha hb
        simp [cb_zero, ha, hb]
      by_cases h4 : k = 4
      · subst h4
        simp at ha hb
        simp only [show ¬ (4 : Int) = 3 by decide, if_false, if_true, lex_zero, cmpI_zero, cb_zero, true_and]
        constructor
        · rintro ⟨⟨e1, e2⟩, e3⟩
          exact ⟨by rw [ha.1.1.1.1, hb.1.1.1.1], e2, (orderL_zero l l' ha.2 hb.2).1 e3⟩
        · rintro ⟨e1, e2, e3⟩
          exact ⟨⟨by rw [e3], e2⟩, (orderL_zero l l' ha.2 hb.2).2 e3⟩
      · simp [h1, h2, h3, h4] at ha
    · constructor
      · rintro ⟨e, _⟩; exact absurd e hk
      · rintro ⟨e, _⟩; exact absurd e hk
theorem orderL_zero : ∀ a b : List T, T.formedL a = true → T.formedL b = true → (T.orderL a b = 0 ↔ a = b)
  | [], [], _, _ => by simp [T.orderL]
  | [], _ :: _, _, _ => by simp [T.orderL]
  | _ :: _, [], _, _ => by simp [T.orderL]
  | a :: x, b :: y, ha, hb => by
    rw [T.formedL, Bool.and_eq_true] at ha hb
    have h1 := order_zero a b ha.1 hb.1
    have h2 := orderL_zero x y ha.2 hb.2
    have h : T.orderL (a :: x) (b :: y) = lex (T.order a b) (T.orderL x y) := by simp only [T.orderL]; rfl
    rw [h, lex_zero, h1, h2, List.cons.injEq]
end
end Go.Proofs.Ythncdmijledpnaa

namespace Go.Proofs.Ythncdmijledpnaa

theorem same_refl (x : T) : T.same x x = true := (same_iff x x).2 rfl

theorem eq_of_toList {a b : ByteArray} (h : a.toList = b.toList) : a = b := by
  rw [Go.ByteArray.toList_eq, Go.ByteArray.toList_eq] at h
  cases a
  cases b
  congr 1
  exact Array.toList_inj.1 h

end Go.Proofs.Ythncdmijledpnaa

namespace Go.Proofs.Ythncdmijledpnaa
open Go.RowKit Go.Lib

theorem marks_at (j r : Nat) (hj : j < 3) (hr : r < 4) : marks[j * 4 + r]? = markTm.cells[r]? := by
  match j, hj, r, hr with
  | 0, _, 0, _ | 0, _, 1, _ | 0, _, 2, _ | 0, _, 3, _ => rfl
  | 1, _, 0, _ | 1, _, 1, _ | 1, _, 2, _ | 1, _, 3, _ => rfl
  | 2, _, 0, _ | 2, _, 1, _ | 2, _, 2, _ | 2, _, 3, _ => rfl
theorem mark_in (w : World) : markTm.In w := by
  rw [markTm, Tm.In, Tm.InL]
  exact ⟨by omega, by omega, by decide, Nat.le_refl _, ⟨by simp, by omega⟩, .inl rfl, trivial⟩

theorem erase_at : ∀ {l l' : List Tm}, Tm.eraseL l = Tm.eraseL l' → ∀ (i : Nat) (h1 : i < l.length) (h2 : i < l'.length), l[i].erase = l'[i].erase
  | x :: xs, y :: ys, h, 0, _, _ => by
    rw [Tm.eraseL, Tm.eraseL] at h
    injection h
  | x :: xs, y :: ys, h, i + 1, h1, h2 => by
    rw [Tm.eraseL, Tm.eraseL] at h
    injection h with _ h
    exact erase_at h i (by simpa using h1) (by simpa using h2)

def stillOf (x : Tm) : Prop := ∀ (t : Tm) (w : World), x.In w → t.In w → x.erase = t.erase → x.Roomy w → Calls Try.prog 16 #[x.val, t.val] w (Ret (.bool true) w)

set_option maxHeartbeats 4000000 in
set_option maxRecDepth 100000 in
theorem still_step (k n : Int) (s : ByteArray) (px pt : Option Addr) (cx ct : Nat) (lx lt : List Tm) (ih : ∀ x ∈ lx, stillOf x) (w : World) (hx : (Tm.mk k n s px cx lx).In w) (ht : (Tm.mk k n s pt ct lt).In w) (hle : Tm.eraseL lx = Tm.eraseL lt) (hro : (Tm.mk k n s px cx lx).Roomy w) :
    Calls Try.prog 16 #[(Tm.mk k n s px cx lx).val, (Tm.mk k n s pt ct lt).val] w (Ret (.bool true) w) := by
  have hll : lt.length = lx.length := by rw [← Tm.eraseL_length lt, ← hle, Tm.eraseL_length]
  have HSx := Lib.hid hx.sl
  have HSt := Lib.hid ht.sl
  have hcx : cx ≤ 9223372036854775807 := hx.sl.2.1.2
  have hlx : lx.length * 56 ≤ 140737488351232 := hx.sl.2.1.1
  have hct : lx.length ≤ ct := by have := ht.sl.1; omega
  have hcxl : lx.length ≤ cx := hx.sl.1
  rw [Tm.Roomy] at hro
  have Hro := Lib.hid hro
  have Hih := Lib.hid ih
  have HE : Hid (∀ (i : Nat) (h1 : i < lx.length) (h2 : i < lt.length), lx[i].erase = lt[i].erase) := fun i h1 h2 => erase_at hle i h1 h2
  clear hx ht hle hro ih
  have hR : Hid (∀ b, true = b → ∀ w', Gr w w' → Ret (.bool true) w (.returned (.bool b)) w') := fun b hb w' hg => ⟨by rw [hb], hg⟩
  generalize hQ : Ret (.bool true) w = Q at hR ⊢
  clear hQ
  simp only [tm_val]
  rw [hll]
  go_enter Try.func16, Try.ntmps16
  try simp only [List.append_eq, List.cons_append, List.nil_append]
  go_upto_region 1 with fail
  obtain ⟨HX, HT, gA⟩ := two_blocks w (.int .i64 k) (.int .i64 n) (.string s) (.slice px lx.length cx) (.int .i64 k) (.int .i64 n) (.string s) (.slice pt lx.length ct)
  generalize (w.alloc (.cells #[.int .i64 k, .int .i64 n, .string s, .slice px lx.length cx] 25)).alloc (.cells #[.int .i64 k, .int .i64 n, .string s, .slice pt lx.length ct] 25) = wA at *
  obtain ⟨⟨x0, x1, x2, x3⟩, _, _⟩ := HX.out.parts
  obtain ⟨⟨t0, t1, t2, t3⟩, _, _⟩ := HT.out.parts
  go_upto_region 3 with fail
  go_wp2_with fail
  clear x0 x1 x2 x3 t0 t1 t2 t3
  go_loopg [39] lx.length (fun m i wr => ∃ j : Nat, j ≤ lx.length ∧ m = lx.length - j ∧ i = .int .i64 j ∧ Gr wA wr)
  case atStart => exact ⟨0, Nat.zero_le _, rfl, rfl, Gr.rfl' _⟩
  case round =>
    obtain ⟨j, hj, rfl, rfl, hgr⟩ := hrel
    have gr : Gr w wr := gA.trans hgr
    have HXr := Lib.hid (HX.out.gr hgr)
    have HTr := Lib.hid (HT.out.gr hgr)
    obtain ⟨⟨x0, x1, x2, x3⟩, _, _⟩ := HXr.out.parts
    obtain ⟨⟨t0, t1, t2, t3⟩, _, _⟩ := HTr.out.parts
    by_cases hlt : j < lx.length
    · obtain ⟨bx, ox, hpx⟩ := HSx.out.ptr (by omega)
      obtain ⟨bt, ot, hpt⟩ := HSt.out.ptr (by omega)
      subst hpx hpt
      obtain ⟨⟨c0, c1, c2, c3⟩, hxi, _⟩ := (HSx.out.mono gr).elem j hlt
      obtain ⟨⟨d0, d1, d2, d3⟩, hti, _⟩ := (HSt.out.mono gr).elem j (by omega)
      have hmem : lx[j] ∈ lx := List.getElem_mem hlt
      have Hix := Lib.hid (Hih.out _ hmem)
      have Hrx := Lib.hid (Tm.RoomyL_mem Hro.out.2 _ hmem)
      have Hxw := Lib.hid (Tm.InL_mem HSx.out.2.2.2 _ hmem)
      have HEj := Lib.hid (HE.out j hlt (by omega))
      have Hxi := Lib.hid hxi
      have Hti := Lib.hid hti
      clear hmem hxi hti
      generalize lx[j] = x at *
      have hjt : j < lt.length := by omega
      generalize lt[j] = y at *
      have Hxv := Lib.hid (show x.val = .agg #[.int .i64 x.k, .int .i64 x.n, .string x.s, .slice x.p x.l.length x.c] from rfl)
      have Hyv := Lib.hid (show y.val = .agg #[.int .i64 y.k, .int .i64 y.n, .string y.s, .slice y.p y.l.length y.c] from rfl)
      go_upto_region 6 with fail
      refine wp_region_rely [fx (.pointer (some ⟨w.heap.size, 3, none⟩)), fx (.slice (some ⟨bx, ox, none⟩) lx.length cx), fx (.int .i64 j), fx (.pointer (some ⟨bx, ox + j * 4, none⟩)), fx x.val, fx (.pointer (some ⟨w.heap.size + 1, 3, none⟩)), fx (.slice (some ⟨bt, ot, none⟩) lx.length ct), fx (.int .i64 j), fx (.pointer (some ⟨bt, ot + j * 4, none⟩)), fx y.val, fx (.bool true), fx (.bool false)]
        (by kernel_rfl) (by kernel_rfl) (by repeat (first | exact Stable.nil | refine Stable.fix ?_)) ?_ ?_
      · refine ⟨?_, ?_, ?_, ?_, ?_, ?_, ?_, ?_, ?_, ?_, ?a10, ?_, trivial⟩
        all_goals
          intro a wq hg hold
          have h2 : a.tmps[2]?.getD undef = .pointer (some ⟨w.heap.size, 0, none⟩) := hold 2 rfl
          have h3 : a.tmps[3]?.getD undef = .pointer (some ⟨w.heap.size + 1, 0, none⟩) := hold 3 rfl
          have h5 : a.tmps[5]?.getD undef = .int .i64 j := hold 5 rfl
          clear hold
          have X3 := Gr.at hg x3
          have T3 := Gr.at hg t3
          have C0 := Gr.at hg c0
          have C1 := Gr.at hg c1
          have C2 := Gr.at hg c2
          have C3 := Gr.at hg c3
          have D0 := Gr.at hg d0
          have D1 := Gr.at hg d1
          have D2 := Gr.at hg d2
          have D3 := Gr.at hg d3
          clear x0 x1 x2 x3 t0 t1 t2 t3 c0 c1 c2 c3 d0 d1 d2 d3
          simp [predsImp, Region.binds, dstAt, fx]
          intros
          first
            | (rw [if_pos (by simp [*])]
               intro K hK)
            | (rename_i K hK)
          go_simp
        case a10 =>
          refine (Hix.out y _ (Tm.In_below hg Hxi.out) (Tm.In_below hg Hti.out) HEj.out (Hrx.out.gr Hxw.out (gr.trans hg))).mono ?_
          rintro e w10 ⟨rfl, hg2⟩
          exact hK _ _ rfl hg2
        all_goals exact hK _ _ rfl (Gr.rfl' _)
      · intro wq hg
        rintro _ rfl _ rfl _ rfl _ rfl _ rfl _ rfl _ rfl _ rfl _ rfl _ rfl _ rfl _ rfl
        clear x0 x1 x2 x3 t0 t1 t2 t3 c0 c1 c2 c3 d0 d1 d2 d3
        simp only [finAll, Act.put, List.setIfInBounds_toArray, List.set_cons_succ, List.set_cons_zero]
        go_wp2_with fail
        go_roundg (lx.length - (j + 1))
        case measure => omega
        case rel => exact ⟨j + 1, by omega, rfl, by go_num, hgr.trans hg⟩
    · obtain rfl : j = lx.length := by omega
      by_cases h0 : lx = []
      · subst h0
        simp only [List.length_nil] at *
        go_wp2_with fail
        exact hR.out _ rfl _ gr
      · obtain ⟨bx, hpx, hcx3, hmk⟩ : ∃ b, px = some ⟨b, 0, none⟩ ∧ cx = lx.length + 3 ∧ ∀ j, j < 12 → w.cell? ⟨b, lx.length * 4 + j, none⟩ = marks[j]? := Hro.out.1.resolve_left h0
        subst hpx hcx3
        have Hmk := Lib.hid hmk
        have hpos : 0 < lx.length := List.length_pos_iff.2 h0
        clear hmk h0
        go_upto_region 12 with fail
        rw [show lx.length + 3 - lx.length = 3 by omega]
        clear x0 x1 x2 x3 t0 t1 t2 t3
        go_wp2_with fail
        go_loopg [71] 3 (fun m i wq => ∃ j : Nat, j ≤ 3 ∧ m = 3 - j ∧ i = .int .i64 j ∧ Gr wr wq)
        case atStart => exact ⟨0, by omega, rfl, rfl, Gr.rfl' _⟩
        case round =>
          obtain ⟨j, hj, rfl, rfl, hgq⟩ := hrel
          by_cases h3 : j < 3
          · have hq : ∀ r, r < 4 → wr.cell? ⟨bx, lx.length * 4 + j * 4 + r, none⟩ = markTm.cells[r]? := by
              intro r hr
              have h := Hmk.out (j * 4 + r) (by omega)
              rw [← Nat.add_assoc, marks_at j r h3 hr] at h
              match r, hr, h with
              | 0, _, h => exact Gr.at (gr.trans hgq) h
              | 1, _, h => exact Gr.at (gr.trans hgq) h
              | 2, _, h => exact Gr.at (gr.trans hgq) h
              | 3, _, h => exact Gr.at (gr.trans hgq) h
            have c0 : wr.cell? ⟨bx, lx.length * 4 + j * 4, none⟩ = some (.int .i64 9) := hq 0 (by omega)
            have c1 : wr.cell? ⟨bx, lx.length * 4 + j * 4 + 1, none⟩ = some (.int .i64 (-77)) := hq 1 (by omega)
            have c2 : wr.cell? ⟨bx, lx.length * 4 + j * 4 + 2, none⟩ = some (.string spoiltB) := hq 2 (by omega)
            have c3 : wr.cell? ⟨bx, lx.length * 4 + j * 4 + 3, none⟩ = some (.slice none 0 0) := hq 3 (by omega)
            clear hq
            go_upto_region 15 with fail
            refine wp_region_rely [fx (.slice (some ⟨bx, lx.length * 4, none⟩) 3 3), fx (.int .i64 j), fx (.pointer (some ⟨bx, lx.length * 4 + j * 4, none⟩)), fx markTm.val, fx markTm.val, fx (.bool true), fx (.bool false)]
              (by kernel_rfl) (by kernel_rfl) (by repeat (first | exact Stable.nil | refine Stable.fix ?_)) ?_ ?_
            · refine ⟨?_, ?_, ?_, ?_, ?a4, ?a5, ?_, trivial⟩
              all_goals
                intro a wp hg hold
                have h6 : a.tmps[6]?.getD undef = .slice (some ⟨bx, lx.length * 4, none⟩) 3 3 := hold 6 rfl
                have h7 : a.tmps[7]?.getD undef = .int .i64 j := hold 7 rfl
                clear hold
                have C0 := Gr.at hg c0
                have C1 := Gr.at hg c1
                have C2 := Gr.at hg c2
                have C3 := Gr.at hg c3
                clear c0 c1 c2 c3
                simp [predsImp, Region.binds, dstAt, fx]
                intros
                first
                  | (rw [if_pos (by simp [*])]
                     intro K hK)
                  | (rename_i K hK)
                go_simp
              case a4 =>
                refine (markY_calls _).mono ?_
                rintro e w10 ⟨rfl, hg2⟩
                exact hK _ _ rfl hg2
              case a5 =>
                refine (same_calls (t := markTm) (u := markTm) (mark_in _) (mark_in _)).mono ?_
                rw [same_refl]
                rintro e w10 ⟨rfl, hg2⟩
                exact hK _ _ rfl hg2
              all_goals exact hK _ _ rfl (Gr.rfl' _)
            · intro wp hg
              rintro _ rfl _ rfl _ rfl _ rfl _ rfl _ rfl _ rfl
              clear c0 c1 c2 c3
              simp only [finAll, Act.put, List.setIfInBounds_toArray, List.set_cons_succ, List.set_cons_zero]
              go_wp2_with fail
              go_roundg (3 - (j + 1))
              case measure => omega
              case rel => exact ⟨j + 1, by omega, rfl, by go_num, hgq.trans hg⟩
          · obtain rfl : j = 3 := by omega
            go_wp2_with fail
            exact hR.out _ rfl _ (gr.trans hgq)

theorem still_any (N : Nat) : ∀ x : Tm, SizeOf.sizeOf x ≤ N → stillOf x := by
  induction N with
  | zero => intro x h; cases x; simp at h
  | succ N ih =>
    intro x h t w hx ht he hr
    obtain ⟨k, n, s, p, c, l⟩ := x
    obtain ⟨k', n', s', p', c', l'⟩ := t
    rw [Tm.erase, Tm.erase] at he
    injection he with h1 h2 h3 h4
    subst h1
    subst h2
    obtain rfl := eq_of_toList h3
    exact still_step k n s p p' c c' l l' (fun x hx => ih x (by have := Tm.sizeOf_mem hx k n s p c; omega)) w hx ht h4 hr
/-- What is one's own and as it was, is still. -/
theorem still_calls {x t : Tm} {w : World} (hx : x.In w) (ht : t.In w) (he : x.erase = t.erase) (hr : x.Roomy w) : Calls Try.prog 16 #[x.val, t.val] w (Ret (.bool true) w) := still_any _ x (Nat.le_refl _) t w hx ht he hr
end Go.Proofs.Ythncdmijledpnaa
