/-
  hornref.Find, hornref.Apply
-/
import Derived.Test.YtgaijgadeodoeaaO2
import Derived.Test.YtgaijgadeodoeaaF4
import Derived.Test.YtgaijgadeodoeaaG1
namespace Go.Proofs.Ytgaijgadeodoeaa
open Go.RowKit

/-- What a substitution makes of a variable. -/
def lookupT : List Bd → Int → T
  | [], n => varT n
  | x :: xs, n => if x.v = n then x.t.erase else lookupT xs n

theorem lookupT_drop (l : List Bd) (n : Int) (k : Nat) (hk : k < l.length) (h : l[k].v ≠ n) : lookupT (l.drop k) n = lookupT (l.drop (k + 1)) n := by
  rw [List.drop_eq_getElem_cons hk, lookupT, if_neg h]
theorem lookupT_here (l : List Bd) (n : Int) (k : Nat) (hk : k < l.length) (h : l[k].v = n) : lookupT (l.drop k) n = l[k].t.erase := by
  rw [List.drop_eq_getElem_cons hk, lookupT, if_pos h]

def RetFind (S : Nat → Prop) (t : T) (w : World) (e : Ending) (w' : World) : Prop :=
  ∃ (b : Tm) (x : Bool), b.In w' ∧ b.erase = t ∧ e = .returned (.tuple #[b.val, .bool x]) ∧ Gr w w' ∧ b.On S

theorem rV_calls (n : Int) (w : World) (h : In64 n) : Calls Try.prog 103 #[.int .i64 n] w (Ret (.agg #[.int .i64 1, .int .i64 n, .string ⟨#[]⟩, .slice none 0 0]) w) := by
  have H := Lib.hid h
  clear h
  go_enter Try.func103, Try.ntmps103
  go_wp2_with fail
  exact bodyPost_ret (v := .agg #[.int .i64 1, .int .i64 n, .string ⟨#[]⟩, .slice none 0 0]) (by simp [results, Try.results103, go_sem]) rfl ⟨rfl, by go_grown⟩

set_option maxHeartbeats 2000000 in
set_option maxRecDepth 100000 in
theorem rfind_calls (S : Nat → Prop) (p : Option Addr) (c : Nat) (l : List Bd) (n : Int) (w : World) (hx : (Bds.mk p c l).In w) (hn : In64 n) (hS : ∀ b, S b → b < w.heap.size) (hO : ∀ y ∈ l, y.t.On S) :
    Calls Try.prog 55 #[.slice p l.length c, .int .i64 n] w (RetFind (fun b => S b ∨ w.heap.size ≤ b) (lookupT l n) w) := by
  have HX := Lib.hid hx
  have Hn := Lib.hid hn
  have HS := Lib.hid hS
  have HO := Lib.hid hO
  obtain ⟨hlc, ⟨hl64, hc⟩, _, _⟩ := hx
  simp only at hlc hl64 hc
  obtain ⟨hn1, hn2⟩ := hn
  generalize hr : lookupT l n = r
  have Hr := Lib.hid hr
  clear hr hS hO
  go_enter Try.func55, Try.ntmps55
  go_wp2_with fail
  go_loop [6] (fun i => ∃ k : Nat, k ≤ l.length ∧ i = .int .i64 k ∧ Hid (lookupT (l.drop k) n = r)) (fun i => l.length - (intOf i).toNat)
  case atStart => exact ⟨0, Nat.zero_le _, rfl, Hr.out⟩
  case round =>
    obtain ⟨k, hk, rfl, hpre⟩ := hrel
    by_cases hlt : k < l.length
    · obtain ⟨b, o, rfl⟩ := HX.out.ptr (by omega)
      obtain ⟨⟨c0, c1, c2, c3, c4⟩, hti, ⟨hv1, hv2⟩, hbl⟩ := HX.out.elem k hlt
      have Hti := Lib.hid hti
      have HyO := Lib.hid (HO.out _ (List.getElem_mem hlt))
      by_cases hv : l[k].v = n
      · have Hh : Hid (l[k].t.erase = r) := (lookupT_here l n k hlt hv).symm.trans hpre.out
        clear hti
        generalize hye : l[k] = y at *
        obtain ⟨yv, yt⟩ := y
        simp only at *
        have hvb : (yv == n) = true := by simp [hv]
        clear hv
        go_wp2_with fail
        refine bodyPost_ret (v := .tuple #[yt.val, .bool true]) (by simp (maxDischargeDepth := 9) [results, Try.results55, go_sem, Tm.val]) rfl ⟨yt, true, Tm.In_below (by go_grown) Hti.out, Hh.out, rfl, by go_grown, HyO.out.mono fun b hb => .inl hb⟩
      · have Hh : Hid (lookupT (l.drop (k + 1)) n = r) := (lookupT_drop l n k hlt hv).symm.trans hpre.out
        have hvb : (l[k].v == n) = false := beq_eq_false_iff_ne.2 hv
        clear hti hv
        generalize hye : l[k] = y at *
        go_wp2_with fail
        go_round
        case rel => exact ⟨k + 1, by omega, by go_num, Hh.out⟩
        case measure => simp [intOf]; omega
    · obtain rfl : k = l.length := by omega
      have Hh : Hid (varT n = r) := by
        show _ = _
        rw [← hpre.out, List.drop_length, lookupT]
      go_wp2_with fail
      refine (rV_calls n _ Hn.out).mono ?_
      rintro e w1 ⟨rfl, hb1⟩
      obtain ⟨⟨y0, y1, y2, y3⟩, ⟨f0, f1, f2, f3⟩, hlt1⟩ := (Blk4.gr (Blk4.new _ _ _ _ _) hb1).parts
      have g1 : Gr w w1 := below_step hb1 (by go_grown)
      clear hb1
      go_wp2_with fail
      refine bodyPost_ret (v := .tuple #[(varTm n).val, .bool false]) (by simp (maxDischargeDepth := 9) [results, Try.results55, go_sem, varTm, Tm.val, Tm.k, Tm.n, Tm.s, Tm.p, Tm.c, Tm.l, y0, y1, y2, y3]) rfl ⟨varTm n, false, varTm_in Hn.out _, by rw [varTm_erase, Hh.out], rfl, by go_grown, varTm_on n⟩

def applyOf (t : Tm) : Prop := ∀ (S : Nat → Prop) (p : Option Addr) (c : Nat) (l : List Bd) (w : World), t.In w → t.erase.formed = true → (Bds.mk p c l).In w → (∀ b, S b → b < w.heap.size) → (∀ y ∈ l, y.t.On S) →
  Calls Try.prog 23 #[t.val, .slice p l.length c] w (RetTm (fun b => S b ∨ w.heap.size ≤ b) (T.map (lookupT l) t.erase) w)

set_option maxHeartbeats 2000000 in
set_option maxRecDepth 100000 in
theorem apply_var (n : Int) (s : ByteArray) (p' : Option Addr) (c' : Nat) (l' : List Tm) : applyOf (.mk 1 n s p' c' l') := by
  intro S p c l w h hfm hx hS hO
  have HX := Lib.hid hx
  have HS := Lib.hid hS
  have HO := Lib.hid hO
  rw [Tm.In] at h
  obtain ⟨hk0, hn, hs, hlc, hc, hp, hIn⟩ := h
  have Hn := Lib.hid hn
  obtain ⟨hxl, ⟨hl64, hxc⟩, _, _⟩ := hx
  simp only at hxl hl64 hxc
  clear hp hIn hfm hS hO hn
  rw [Tm.erase, T.map, if_pos rfl]
  simp only [Tm.val, Tm.k, Tm.n, Tm.s, Tm.p, Tm.c, Tm.l]
  go_enter Try.func23, Try.ntmps23
  go_wp2_with fail
  refine (rfind_calls S p c l n _ (HX.out.mono (by go_grown)) Hn.out (fun b hb => by have := HS.out b hb; simp; omega) HO.out).mono ?_
  rintro e w1 ⟨bm, x, hin, he, rfl, hb1, hon⟩
  obtain ⟨⟨y0, y1, y2, y3⟩, ⟨f0, f1, f2, f3⟩, hlt⟩ := (Blk4.gr (Blk4.new _ _ _ _ _) hb1).parts
  simp only [World.size_alloc] at y0 y1 y2 y3 f0 f1 f2 f3 hlt hon
  have g1 : Gr w w1 := below_step hb1 (by go_grown)
  have Hin := Lib.hid hin
  have Hon := Lib.hid hon
  have He := Lib.hid he
  clear hin hon he hb1
  simp only [Tm.val]
  go_wp2_with fail
  refine bodyPost_ret (v := bm.val) (by simp (maxDischargeDepth := 9) [results, Try.results23, go_sem, Tm.val, hlt, y0, y1, y2, y3]) rfl ⟨bm, ?_, He.out, rfl, by go_grown, Hon.out.mono fun b hb => hb.imp id fun h => by omega⟩
  exact in_after' Hin.out Hon.out fun b h1 h2 o => by
    have h3 : b ≠ w.heap.size + 1 := by
      rcases h1 with h1 | h1
      · have := HS.out b h1; omega
      · omega
    rw [World.cell?_alloc_past _ _ _ (by simpa using h2), cell_set_ne h3, cell_set_ne h3, cell_set_ne h3, cell_set_ne h3]

set_option maxHeartbeats 4000000 in
set_option maxRecDepth 100000 in
theorem apply_comp (k0 n : Int) (s : ByteArray) (p' : Option Addr) (c' : Nat) (l' : List Tm) (hk1 : k0 ≠ 1) (hl50 : l'.length ≤ 50) (hfl : ∀ x ∈ l', x.erase.formed = true) (ih : ∀ x ∈ l', applyOf x)
    (S : Nat → Prop) (p : Option Addr) (c : Nat) (l : List Bd) (w : World) (h : (Tm.mk k0 n s p' c' l').In w) (hx : (Bds.mk p c l).In w) (hS : ∀ b, S b → b < w.heap.size) (hO : ∀ y ∈ l, y.t.On S) :
    Calls Try.prog 23 #[(Tm.mk k0 n s p' c' l').val, .slice p l.length c] w (RetTm (fun b => S b ∨ w.heap.size ≤ b) (.mk k0 n s.toList (T.mapL (lookupT l) (Tm.eraseL l'))) w) := by
  have HX := Lib.hid hx
  have HSl := Lib.hid h.sl
  have HS := Lib.hid hS
  have HO := Lib.hid hO
  rw [Tm.In] at h
  obtain ⟨hk0, hn, hs, hlc, hc, hp, hIn⟩ := h
  obtain ⟨hxl, ⟨hl64, hxc⟩, _, _⟩ := hx
  simp only at hxl hl64 hxc
  have Hih := Lib.hid ih
  have Hfl := Lib.hid hfl
  have Hs := Lib.hid hs
  have Hn := Lib.hid hn
  have Hk := Lib.hid hk0
  have hk1' : (k0 == 1) = false := beq_eq_false_iff_ne.2 hk1
  clear hp hIn ih hfl hS hO hk1
  simp only [Tm.val, Tm.k, Tm.n, Tm.s, Tm.p, Tm.c, Tm.l]
  go_enter Try.func23, Try.ntmps23
  go_wp2_with fail
  go_loopw [7, 8] (fun v i wr => ∃ k : Nat, k ≤ l'.length ∧ i = .int .i64 k ∧ Hid (∃ lm : List Tm, lm.length = k ∧ Tm.eraseL lm = T.mapL (lookupT l) (Tm.eraseL (l'.take k)) ∧ Built wr (w.heap.size + 1 + 1) S v lm) ∧
      Hid (Blk4 wr w.heap.size (.int .i64 k0) (.int .i64 n) (.string s) (.slice p' l'.length c') ∧ Blk4 wr (w.heap.size + 1) (.int .i64 0) (.int .i64 0) (.string ⟨#[]⟩) (.slice none 0 0)) ∧ Gr w wr ∧ w.heap.size + 1 + 1 ≤ wr.heap.size)
    (fun _ i _ => l'.length - (intOf i).toNat)
  case atStart => exact ⟨0, Nat.zero_le _, rfl, ⟨[], rfl, by simp [T.mapL, Tm.eraseL], Built.nil _ _ _⟩, ⟨Blk4.old (Blk4.new w _ _ _ _) _, by have := Blk4.new (w.alloc (.cells #[.int .i64 k0, .int .i64 n, .string s, .slice p' l'.length c'] 28)) (.int .i64 0) (.int .i64 0) (.string ⟨#[]⟩) (.slice none 0 0); simpa only [World.size_alloc] using this⟩, by go_grown, by simp⟩
  case round =>
    obtain ⟨k, hk, rfl, hlm, HBR, gr, hws⟩ := hrel
    obtain ⟨HB, HR⟩ := HBR.out
    replace HB := Lib.hid HB
    replace HR := Lib.hid HR
    obtain ⟨⟨b0, b1, b2, b3⟩, ⟨ff0, ff1, ff2, ff3⟩, hbs1⟩ := HB.out.parts
    by_cases hlt : k < l'.length
    · obtain ⟨b, o, rfl⟩ := HSl.out.ptr (by omega)
      obtain ⟨⟨c0, c1, c2, c3⟩, hxi, _⟩ := (HSl.out.mono gr).elem k hlt
      have Hx := Lib.hid hxi
      have hmem : l'[k] ∈ l' := List.getElem_mem hlt
      have Hix := Lib.hid (Hih.out _ hmem)
      have Hfx := Lib.hid (Hfl.out _ hmem)
      have Htk : Hid (T.mapL (lookupT l) (Tm.eraseL (l'.take (k + 1))) = T.mapL (lookupT l) (Tm.eraseL (l'.take k)) ++ [T.map (lookupT l) l'[k].erase]) := T.mapL_erase (lookupT l) l' k hlt
      clear hxi hmem
      generalize hxe : l'[k] = x at *
      go_wp2_with fail
      clear b0 b1 b2 b3 ff0 ff1 ff2 ff3
      refine (Hix.out S p c l _ (Tm.In_below (by go_grown) Hx.out) Hfx.out (HX.out.mono (by go_grown)) (fun b hb => Nat.lt_of_lt_of_le (HS.out b hb) gr.size) HO.out).mono ?_
      rintro e w2 ⟨xm, hin, he, rfl, hb2, hon⟩
      obtain ⟨lm, hl0, he0, hF⟩ := hlm.out
      have HF2 := Lib.hid (hF.gr hb2)
      have Hvl := Lib.hid hF.1.lt
      have hs2 := hb2.size
      have HB2 := Lib.hid (And.intro (HB.out.gr hb2) (HR.out.gr hb2))
      have Hl0 := Lib.hid hl0
      have He0 := Lib.hid he0
      have Hin := Lib.hid hin
      have Hon := Lib.hid hon
      have He := Lib.hid he
      have g2 : Gr w w2 := gr.trans hb2
      clear hF hl0 he0 hin hon he hb2 hlm
      obtain ⟨k', n', s', p2, c2, l2⟩ := xm
      simp only [Tm.val, Tm.k, Tm.n, Tm.s, Tm.p, Tm.c, Tm.l]
      go_wp2_with
        (at_builtin
         refine wpList_append_term rfl _ _ rfl rfl (w.heap.size + 1 + 1) S _ lm (.mk k' n' s' p2 c2 l2) w2.heap.size 1 rfl rfl (HF2.out.gr (by go_grown)) (by simp; omega) (Tm.In_below (by go_grown) Hin.out) (Hon.out.mono fun b hb => sep_own HS.out (by omega) Hvl.out hb hws) (by have := Hl0.out; omega) (by show _ = some (Value.int .i64 k'); go_cell) (by show _ = some (Value.int .i64 n'); go_cell) (by show _ = some (Value.string s'); go_cell) (by show _ = some (Value.slice p2 l2.length c2); go_cell) ?_
         intro v' w4 hbt hbel _)
      go_roundw
      case rel =>
        have hg4 : Below (w.heap.size + 1 + 1) w2 w4 := Below.trans (show Below (w.heap.size + 1 + 1) w2 _ by go_grown) hbel
        exact ⟨k + 1, by omega, by go_num, ⟨_, by rw [List.length_append, Hl0.out]; rfl, by rw [eraseL_append, He0.out, Htk.out, ← He.out]; simp [Tm.eraseL], hbt⟩, ⟨HB2.out.1.below hg4 (by omega), HB2.out.2.below hg4 (by omega)⟩, Below.trans g2 (hg4.mono (by omega)), by have := hg4.size; omega⟩
      case measure => simp [intOf]; omega
    · obtain rfl : k = l'.length := by omega
      obtain ⟨lm, hl0, he0, hF⟩ := hlm.out
      obtain ⟨⟨y0, y1, y2, y3⟩, ⟨f0, f1, f2, f3⟩, hbs2⟩ := HR.out.parts
      obtain ⟨pv, cv, rfl, hcv1, hcv2⟩ := hF.form
      have HF := Lib.hid hF
      have Hl0 := Lib.hid hl0
      have He0 := Lib.hid he0
      clear hF hl0 he0 hlm
      go_wp2_with fail
      have hsl := HF.out.sl (by have := Hl0.out; omega)
      refine bodyPost_ret (v := (Tm.mk k0 n s pv cv lm).val) (by simp [results, Try.results23, go_sem, Tm.val, Tm.k, Tm.n, Tm.s, Tm.p, Tm.c, Tm.l, y0, y1, y2, y3]) rfl ⟨_, ?_, ?_, rfl, by go_grown, ?_⟩
      · have hin : (Tm.mk k0 n s pv cv lm).In wr := by
          rw [Tm.In]
          exact ⟨Hk.out, Hn.out, Hs.out, hsl.2.1.1, hsl.2.1.2.1, hsl.2.1.2.2.1, hsl.2.1.2.2.2⟩
        have hon : (Tm.mk k0 n s pv cv lm).On (fun b => S b ∨ w.heap.size + 1 + 1 ≤ b) := by rw [Tm.On]; exact hsl.2.2
        exact in_after' hin hon fun b h1 h2 o => by
          have : b ≠ w.heap.size + 1 ∧ b ≠ w.heap.size := by
            rcases h1 with h1 | h1
            · have := HS.out b h1; omega
            · omega
          rw [cell_set_ne this.1, cell_set_ne this.1, cell_set_ne this.1, cell_set_ne this.1, cell_set_ne this.2]
      · rw [Tm.erase, He0.out, List.take_length]
      · rw [Tm.On]
        exact ⟨hsl.2.2.1.imp id fun ⟨b, o, h1, h2⟩ => ⟨b, o, h1, h2.imp id fun h => by omega⟩, hsl.2.2.2.mono fun b hb => hb.imp id fun h => by omega⟩

theorem apply_any (N : Nat) : ∀ (t : Tm), SizeOf.sizeOf t ≤ N → applyOf t := by
  induction N with
  | zero => intro t h; cases t; simp at h
  | succ N ih =>
    intro t hN
    obtain ⟨k0, n, s, p', c', l'⟩ := t
    by_cases hk : k0 = 1
    · subst hk; exact apply_var n s p' c' l'
    intro S p c l w h hfm hx hS hO
    have hih : ∀ x ∈ l', applyOf x := fun x hx => ih x (by have := Tm.sizeOf_mem hx k0 n s p' c'; omega)
    by_cases hk4 : k0 = 4
    · subst hk4
      obtain ⟨_, _, _, h50, hfl⟩ := formed_elem rfl hfm
      rw [Tm.erase, T.map, if_neg (by decide), if_pos rfl]
      exact apply_comp 4 n s p' c' l' (by decide) h50 hfl hih S p c l w h hx hS hO
    · have hl : l' = [] := by
        have h9 := Tm.eraseL_length l'
        rcases T.formed_cases hfm with ⟨m, he, _⟩ | ⟨m, he⟩ | ⟨s2, he, _⟩ | ⟨s2, l2, he, _⟩ <;> rw [Tm.erase] at he <;> injection he with e1 e2 e3 e4
        · rw [e4] at h9; exact List.eq_nil_of_length_eq_zero h9.symm
        · rw [e4] at h9; exact List.eq_nil_of_length_eq_zero h9.symm
        · rw [e4] at h9; exact List.eq_nil_of_length_eq_zero h9.symm
        · exact absurd e1 hk4
      subst hl
      have := apply_comp k0 n s p' c' [] hk (by simp) (by simp) hih S p c l w h hx hS hO
      rw [Tm.erase, T.map, if_neg hk, if_neg hk4]
      simpa [Tm.eraseL, T.mapL] using this

/-- hornref.Apply, of a term. -/
theorem rapply_calls {t : Tm} {x : Bds} {w : World} (h : t.In w) (hf : t.erase.formed = true) (hx : x.In w) : Calls Try.prog 23 #[t.val, x.val] w (RetTm (fun _ => True) (T.map (lookupT x.l) t.erase) w) :=
  (apply_any _ t (Nat.le_refl _) (· < w.heap.size) x.p x.c x.l w h hf hx (fun _ h => h) (fun y hy => Tm.In.on (hx.2.2.2 y hy).1)).mono fun e w' ⟨b, h1, h2, h3, h4, h5⟩ => ⟨b, h1, h2, h3, h4, h5.mono fun _ _ => trivial⟩

end Go.Proofs.Ytgaijgadeodoeaa
