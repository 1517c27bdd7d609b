/-
  hornref.Fold
-/
import Derived.Test.YtgaijgadeodoeaaF3
import Derived.Test.YtgaijgadeodoeaaBD
namespace Go.Proofs.Ytgaijgadeodoeaa
open Go.RowKit

theorem rI_calls' (n : Int) (w : World) : Calls Try.prog 45 #[.int .i64 n] w (Ret (.agg #[.int .i64 2, .int .i64 n, .string ⟨#[]⟩, .slice none 0 0]) w) := rI_calls n w

theorem sep_own {S : Nat → Prop} {v : Value} {B n m : Nat} (hS : ∀ b, S b → b < m) (hmB : m ≤ B) (hv : ∀ k, v.ownBlock = some k → B ≤ k ∧ k < n) {b : Nat} (hb : S b ∨ n ≤ b) (hBn : B ≤ n) : (S b ∨ B ≤ b) ∧ v.ownBlock ≠ some b := by
  refine ⟨hb.imp id fun h => by omega, fun h => ?_⟩
  have h1 := hv b h
  rcases hb with hb | hb
  · have := hS b hb; omega
  · omega

def rfoldOf (t : Tm) : Prop := ∀ (S : Nat → Prop) (w : World), t.In w → t.erase.formed = true → (∀ b, S b → b < w.heap.size) → t.On S → Calls Try.prog 25 #[t.val] w (RetTm (fun b => S b ∨ w.heap.size ≤ b) (T.fold t.erase) w)

set_option maxHeartbeats 1000000 in
set_option maxRecDepth 100000 in
theorem rfold_leaf (k n : Int) (s : ByteArray) (p : Option Addr) (c : Nat) (l : List Tm) (hk : k ≠ 4) : rfoldOf (.mk k n s p c l) := by
  intro S w h hfm hS hO
  have H := Lib.hid h
  have HO := Lib.hid hO
  have HS := Lib.hid hS
  have hk' : (k == 4) = false := beq_eq_false_iff_ne.2 hk
  have He : Hid (T.fold (Tm.mk k n s p c l).erase = (Tm.mk k n s p c l).erase) := by show _ = _; rw [Tm.erase, T.fold, if_neg hk]
  rw [Tm.In] at h
  obtain ⟨hk0, hn, hs, hlc, hc, hp, hIn⟩ := h
  clear hp hIn hfm hk hO hS
  rw [He.out]
  simp only [Tm.val, Tm.k, Tm.n, Tm.s, Tm.p, Tm.c, Tm.l]
  go_enter Try.func25, Try.ntmps25
  go_wp2_with fail
  refine bodyPost_ret (v := (Tm.mk k n s p c l).val) (by simp [results, Try.results25, go_sem, Tm.val, Tm.k, Tm.n, Tm.s, Tm.p, Tm.c, Tm.l]) rfl ⟨Tm.mk k n s p c l, Tm.In_below (by go_grown) H.out, rfl, rfl, by go_grown, HO.out.mono fun b hb => .inl hb⟩

set_option maxHeartbeats 4000000 in
set_option maxRecDepth 100000 in
theorem rfold_comp (S : Nat → Prop) (s : ByteArray) (p : Option Addr) (c : Nat) (l : List Tm) (w : World) (h : (Tm.mk 4 0 s p c l).In w) (hfm : (Tm.mk 4 0 s p c l).erase.formed = true) (hS : ∀ b, S b → b < w.heap.size) (hO : (Tm.mk 4 0 s p c l).On S) (ih : ∀ x ∈ l, rfoldOf x) :
    Calls Try.prog 25 #[(Tm.mk 4 0 s p c l).val] w (RetTm (fun b => S b ∨ w.heap.size ≤ b) (T.fold (Tm.mk 4 0 s p c l).erase) w) := by
  obtain ⟨_, h100, hl1, hl50, hfl⟩ := formed_elem rfl hfm
  have HT := Lib.hid h
  have HSl := Lib.hid h.sl
  rw [Tm.In] at h
  obtain ⟨hk, hn, hs, hlc, hc, hp, hIn⟩ := h
  obtain ⟨b, o, rfl⟩ := HSl.out.ptr (by omega)
  have hbl : b < w.heap.size := Tm.row_lt (by rcases hp with rfl | ⟨b', o', he, hr⟩; · simp at hl1
                                              · cases he; exact hr) (by rintro rfl; simp at hl1)
  have Hih := Lib.hid ih
  have Hfl := Lib.hid hfl
  have Hs := Lib.hid hs
  have HOL := Lib.hid (show Tm.OnL S l by rw [Tm.On] at hO; exact hO.2)
  have HS := Lib.hid hS
  clear hp hIn ih hfl hk hn hfm hs hO hS
  have hr : T.fold (Tm.mk 4 0 s (some ⟨b, o, none⟩) c l).erase = match evalT (Tm.mk 4 0 s (some ⟨b, o, none⟩) c l).erase with | .ok m => intT m | .bad _ => .mk 4 0 s.toList (T.foldL (Tm.eraseL l)) := by rw [Tm.erase, T.fold, if_pos rfl]; cases evalT (T.mk 4 0 s.toList (Tm.eraseL l)) <;> rfl
  generalize hre : T.fold (Tm.mk 4 0 s (some ⟨b, o, none⟩) c l).erase = r at *
  have Hr := Lib.hid hr
  clear hre hr
  simp only [Tm.val, Tm.k, Tm.n, Tm.s, Tm.p, Tm.c, Tm.l]
  go_enter Try.func25, Try.ntmps25
  go_wp2_with fail
  refine (reval_calls (t := .mk 4 0 s (some ⟨b, o, none⟩) c l) (Tm.In_below (by go_grown) HT.out)).mono ?_
  have HBB : ∀ w1 : World, Below _ _ w1 → Hid (Blk4 w1 w.heap.size (.int .i64 4) (.int .i64 0) (.string s) (.slice (some ⟨b, o, none⟩) l.length c) ∧ Blk4 w1 (w.heap.size + 1) (.int .i64 0) (.int .i64 0) (.string ⟨#[]⟩) (.slice none 0 0)) := fun w1 hb1 =>
    ⟨Blk4.gr (Blk4.old (Blk4.new w (.int .i64 4) (.int .i64 0) (.string s) (.slice (some ⟨b, o, none⟩) l.length c)) (.cells #[.int .i64 0, .int .i64 0, .string ⟨#[]⟩, .slice none 0 0] 28)) hb1,
     Blk4.gr (by have := Blk4.new (w.alloc (.cells #[.int .i64 4, .int .i64 0, .string s, .slice (some ⟨b, o, none⟩) l.length c] 28)) (.int .i64 0) (.int .i64 0) (.string ⟨#[]⟩) (.slice none 0 0); simpa only [World.size_alloc] using this) hb1⟩
  cases hev : evalT (Tm.mk 4 0 s (some ⟨b, o, none⟩) c l).erase with
  | ok m =>
    rintro e w1 ⟨rfl, hb1, hm⟩
    have HBR := HBB w1 hb1
    have g1 : Gr w w1 := below_step hb1 (by go_grown)
    have Hm := Lib.hid hm
    have e0 : Hid (r = intT m) := by show r = _; rw [Hr.out, hev]
    clear hb1 hev hm HBB
    have HR : Hid _ := Lib.hid HBR.out.2
    simp only [zeroTm, List.length_nil, Tm.val, Tm.k, Tm.n, Tm.s, Tm.p, Tm.c, Tm.l]
    go_wp2_with fail
    refine (rI_calls' _ _).mono ?_
    rintro e w2 ⟨rfl, hb2⟩
    obtain ⟨⟨y0, y1, y2, y3⟩, ⟨f0, f1, f2, f3⟩, hlt⟩ := (HR.out.gr (show Gr w1 w2 from below_step hb2 (by go_grown))).parts
    have g2 : Gr w w2 := g1.trans (below_step hb2 (by go_grown))
    clear hb2
    go_wp2_with fail
    refine bodyPost_ret (v := (intTm m).val) (by simp [results, Try.results25, go_sem, intTm, Tm.val, Tm.k, Tm.n, Tm.s, Tm.p, Tm.c, Tm.l, y0, y1, y2, y3]) rfl ⟨intTm m, intTm_in Hm.out _, by rw [intTm_erase, e0.out], rfl, by go_grown, intTm_on _⟩
  | bad bb =>
    rintro e w1 ⟨zb, hzi, hze, hzo, rfl, hb1⟩
    have HBR := HBB w1 hb1
    have g1 : Gr w w1 := below_step hb1 (by go_grown)
    have e0 : Hid (r = .mk 4 0 s.toList (T.foldL (Tm.eraseL l))) := by show r = _; rw [Hr.out, hev]
    clear hb1 hev hzi hze hzo HBB
    obtain ⟨HB, HR⟩ := HBR.out
    replace HB := Lib.hid HB
    replace HR := Lib.hid HR
    obtain ⟨⟨b0, b1, b2, b3⟩, _, hlt0⟩ := HB.out.parts
    have hlt1 : w.heap.size + 1 < w1.heap.size := HR.out.parts.2.2
    obtain ⟨k', n', s', p', c', l'⟩ := zb
    simp only [Tm.val, Tm.k, Tm.n, Tm.s, Tm.p, Tm.c, Tm.l]
    go_wp2_with fail
    clear b0 b1 b2 b3
    go_loopw [6, 7] (fun v i wr => ∃ k : Nat, k ≤ l.length ∧ i = .int .i64 k ∧ Hid (∃ lm : List Tm, lm.length = k ∧ Tm.eraseL lm = T.foldL (Tm.eraseL (l.take k)) ∧ Built wr w1.heap.size S v lm) ∧ Below w1.heap.size w1 wr)
      (fun _ i _ => l.length - (intOf i).toNat)
    case atStart => exact ⟨0, Nat.zero_le _, rfl, ⟨[], rfl, by simp [T.foldL, Tm.eraseL], Built.nil _ _ _⟩, by go_grown⟩
    case round =>
      obtain ⟨k, hk, rfl, hlm, hb⟩ := hrel
      have hbs := hb.size
      have gr : Gr w wr := g1.trans hb
      have HB' : Hid _ := Lib.hid (HB.out.below hb (by omega))
      have HR' : Hid _ := Lib.hid (HR.out.below hb (by omega))
      obtain ⟨⟨b0, b1, b2, b3⟩, ⟨ff0, ff1, ff2, ff3⟩, hbs1⟩ := HB'.out.parts
      by_cases hlt : k < l.length
      · obtain ⟨⟨c0, c1, c2, c3⟩, hx, _⟩ := (HSl.out.mono gr).elem k hlt
        have Hx := Lib.hid hx
        have hmem : l[k] ∈ l := List.getElem_mem hlt
        have Hix := Lib.hid (Hih.out _ hmem)
        have Hfx := Lib.hid (Hfl.out _ hmem)
        have Hxo := Lib.hid (Tm.OnL_mem HOL.out _ hmem)
        have Htk : Hid (T.foldL (Tm.eraseL (l.take (k + 1))) = T.foldL (Tm.eraseL (l.take k)) ++ [T.fold l[k].erase]) := T.foldL_erase l k hlt
        clear hx hmem
        generalize hxe : l[k] = x at *
        go_wp2_with fail
        clear b0 b1 b2 b3 ff0 ff1 ff2 ff3
        refine (Hix.out S _ (Tm.In_below (by go_grown) Hx.out) Hfx.out (fun b hb => Nat.lt_of_lt_of_le (HS.out b hb) gr.size) Hxo.out).mono ?_
        rintro e w2 ⟨xm, hin, he, rfl, hb2, hon⟩
        obtain ⟨lm, hl0, he0, hF⟩ := hlm.out
        have g2 : Gr wr w2 := below_step hb2 (by go_grown)
        have HF2 := Lib.hid (hF.gr g2)
        have Hvl := Lib.hid hF.1.lt
        have hb3 : Below w1.heap.size w1 w2 := Below.trans hb (g2.mono hbs)
        have hs2 := hb2.size
        have Hl0 := Lib.hid hl0
        have He0 := Lib.hid he0
        have Hin := Lib.hid hin
        have Hon := Lib.hid hon
        have He := Lib.hid he
        clear hF hl0 he0 hin hon he hb2 hlm g2
        obtain ⟨k', n', s', p', c', l'⟩ := xm
        simp only [Tm.val, Tm.k, Tm.n, Tm.s, Tm.p, Tm.c, Tm.l]
        go_wp2_with
          (at_builtin
           refine wpList_append_term rfl _ _ rfl rfl w1.heap.size S _ lm (.mk k' n' s' p' c' l') w2.heap.size 1 rfl rfl (HF2.out.gr (by go_grown)) (by simp; omega) (Tm.In_below (by go_grown) Hin.out) (Hon.out.mono fun b hb => sep_own HS.out (by omega) Hvl.out hb hbs) (by have := Hl0.out; omega) (by show _ = some (Value.int .i64 k'); go_cell) (by show _ = some (Value.int .i64 n'); go_cell) (by show _ = some (Value.string s'); go_cell) (by show _ = some (Value.slice p' l'.length c'); go_cell) ?_
           intro v' w4 hbt hbel _)
        go_roundw
        case rel =>
          exact ⟨k + 1, by omega, by go_num, ⟨_, by rw [List.length_append, Hl0.out]; rfl, by rw [eraseL_append, He0.out, Htk.out, ← He.out]; simp [Tm.eraseL], hbt⟩, Below.trans hb3 (Below.trans (show Below w1.heap.size w2 _ by go_grown) hbel)⟩
        case measure => simp [intOf]; omega
      · obtain rfl : k = l.length := by omega
        obtain ⟨lm, hl0, he0, hF⟩ := hlm.out
        obtain ⟨⟨y0, y1, y2, y3⟩, ⟨f0, f1, f2, f3⟩, hbs2⟩ := HR'.out.parts
        obtain ⟨pv, cv, rfl, hcv1, hcv2⟩ := hF.form
        have HF := Lib.hid hF
        have Hl0 := Lib.hid hl0
        have He0 := Lib.hid he0
        clear hF hl0 he0 hlm
        go_wp2_with fail
        have hsl := HF.out.sl (by have := Hl0.out; omega)
        refine bodyPost_ret (v := (Tm.mk 4 0 s pv cv lm).val) (by simp [results, Try.results25, go_sem, Tm.val, Tm.k, Tm.n, Tm.s, Tm.p, Tm.c, Tm.l, y0, y1, y2, y3]) rfl ⟨_, ?_, ?_, rfl, by go_grown, ?_⟩
        · have hin : (Tm.mk 4 0 s pv cv lm).In wr := compTm_in Hs.out hsl.2.1
          have hon : (Tm.mk 4 0 s pv cv lm).On (fun b => S b ∨ w1.heap.size ≤ b) := by rw [Tm.On]; exact hsl.2.2
          exact in_after' hin hon fun b h1 h2 o => by
            have : b ≠ w.heap.size + 1 ∧ b ≠ w.heap.size := by rcases h1 with h1 | h1; · have := HS.out b h1; omega
                                                               · omega
            rw [cell_set_ne this.1, cell_set_ne this.1, cell_set_ne this.1, cell_set_ne this.1, cell_set_ne this.2]
        · rw [Tm.erase, He0.out, List.take_length, e0.out]
        · rw [Tm.On]
          exact ⟨hsl.2.2.1.imp id fun ⟨b, o, h1, h2⟩ => ⟨b, o, h1, h2.imp id fun h => by omega⟩, hsl.2.2.2.mono fun b hb => hb.imp id fun h => by omega⟩

theorem rfold_any (N : Nat) : ∀ (t : Tm), SizeOf.sizeOf t ≤ N → rfoldOf t := by
  induction N with
  | zero => intro t h; cases t; simp at h
  | succ N ih =>
    intro t hN
    obtain ⟨k, n, s, p, c, l⟩ := t
    by_cases hk : k = 4
    · subst hk
      intro S w h hfm hS hO
      obtain ⟨rfl, _⟩ := formed_elem rfl hfm
      exact rfold_comp S s p c l w h hfm hS hO fun x hx => ih x (by have := Tm.sizeOf_mem hx 4 0 s p c; omega)
    · exact rfold_leaf k n s p c l hk

theorem rfold_calls {t : Tm} {w : World} (h : t.In w) (hf : t.erase.formed = true) : Calls Try.prog 25 #[t.val] w (RetTm (fun _ => True) (T.fold t.erase) w) :=
  (rfold_any _ t (Nat.le_refl _) (· < w.heap.size) w h hf (fun _ h => h) (Tm.In.on h)).mono fun e w' ⟨b, h1, h2, h3, h4, h5⟩ => ⟨b, h1, h2, h3, h4, h5.mono fun _ _ => trivial⟩

end Go.Proofs.Ytgaijgadeodoeaa
