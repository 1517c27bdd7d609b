/-
  term.Map with a function that keeps nothing: what it makes is a tree: no two of its rows share a block; term.Copy.
  A store in memory.
  term.Map with a function of which something is known at the term's own variables.
-/
import Derived.Test.YtcblmkhhhibddaaTS08
import Derived.Test.YtcblmkhhhibddaaTS19
import Derived.Test.YtcblmkhhhibddaaTS15
import Derived.Test.YtcblmkhhhibddaaTS09
import Derived.Test.YtcblmkhhhibddaaTS10
namespace Go.Proofs.Ytcblmkhhhibddaa
open Go.RowKit

mutual
/-- The rows of a term lie each on a block of its own, between lo and hi, a row ahead of what is in it. -/
def Tm.Tree (lo hi : Nat) : Tm → Prop
  | .mk _ _ _ p _ l => l = [] ∨ ∃ b, p = some ⟨b, 0, none⟩ ∧ lo ≤ b ∧ b < hi ∧ Tm.TreeL (b + 1) hi l
def Tm.TreeL (lo hi : Nat) : List Tm → Prop
  | [] => True
  | x :: xs => ∃ mid, lo ≤ mid ∧ mid ≤ hi ∧ Tm.Tree lo mid x ∧ Tm.TreeL mid hi xs
end
mutual
theorem Tm.Tree.mono : ∀ {t : Tm} {lo hi lo' hi' : Nat}, lo' ≤ lo → hi ≤ hi' → t.Tree lo hi → t.Tree lo' hi'
  | .mk _ _ _ p _ l, lo, hi, lo', hi', h1, h2, h => by
    rw [Tm.Tree] at h ⊢
    refine h.imp id ?_
    rintro ⟨b, hp, h3, h4, h5⟩
    exact ⟨b, hp, by omega, by omega, Tm.TreeL.mono (Nat.le_refl _) h2 h5⟩
theorem Tm.TreeL.mono : ∀ {l : List Tm} {lo hi lo' hi' : Nat}, lo' ≤ lo → hi ≤ hi' → Tm.TreeL lo hi l → Tm.TreeL lo' hi' l
  | [], _, _, _, _, _, _, _ => by rw [Tm.TreeL]; trivial
  | x :: xs, lo, hi, lo', hi', h1, h2, h => by
    rw [Tm.TreeL] at h ⊢
    obtain ⟨mid, h3, h4, h5, h6⟩ := h
    exact ⟨mid, by omega, by omega, Tm.Tree.mono h1 (Nat.le_refl _) h5, Tm.TreeL.mono (Nat.le_refl _) h2 h6⟩
end
theorem Tm.TreeL.snoc : ∀ {l : List Tm} {x : Tm} {lo mid hi : Nat}, lo ≤ mid → mid ≤ hi → Tm.TreeL lo mid l → x.Tree mid hi → Tm.TreeL lo hi (l ++ [x])
  | [], x, lo, mid, hi, h1, h2, _, h => by
    rw [List.nil_append, Tm.TreeL]
    exact ⟨hi, by omega, Nat.le_refl _, Tm.Tree.mono h1 (Nat.le_refl _) h, by rw [Tm.TreeL]; trivial⟩
  | y :: ys, x, lo, mid, hi, h1, h2, h3, h => by
    rw [Tm.TreeL] at h3
    obtain ⟨m, h4, h5, h6, h7⟩ := h3
    rw [List.cons_append, Tm.TreeL]
    exact ⟨m, h4, by omega, h6, Tm.TreeL.snoc h5 h2 h7 h⟩
theorem Tm.tree_nil {k n : Int} {s : ByteArray} {p : Option Addr} {c lo hi : Nat} : (Tm.mk k n s p c []).Tree lo hi := by rw [Tm.Tree]; exact .inl rfl

/-- A term in memory is handed back, that lies whole. -/
def RetTmT (S : Nat → Prop) (t : T) (w : World) (e : Ending) (w' : World) : Prop := ∃ b : Tm, b.In w' ∧ b.erase = t ∧ e = .returned b.val ∧ Gr w w' ∧ b.On S ∧ b.Whole w' ∧ b.Tree w.heap.size w'.heap.size
/-- A function value that may be called: what it makes of a variable, whatever has grown since. -/
def MapFnT (fv : Value) (f : Int → T) (w0 : World) : Prop :=
  ∃ (fid : FuncId) (cap : Array Value), fv = .func (.func fid) #[] cap ∧ (∀ (n : Int) (w : World), (callFunc fid (#[.int .i64 n] ++ cap)).run Try.prog w = .ok (.enter fid (#[.int .i64 n] ++ cap)) w) ∧
    ∀ (n : Int) (w : World), Gr w0 w → In64 n → Calls Try.prog fid (#[.int .i64 n] ++ cap) w (RetTmT (w.heap.size ≤ ·) (f n) w)
theorem MapFnT.gr {fv : Value} {f : Int → T} {w0 w1 : World} (h : MapFnT fv f w0) (hg : Gr w0 w1) : MapFnT fv f w1 := by
  obtain ⟨fid, cap, h1, h2, h3⟩ := h
  exact ⟨fid, cap, h1, h2, fun n w hw hn => h3 n w (hg.trans hw) hn⟩

set_option maxHeartbeats 2000000 in
set_option maxRecDepth 100000 in
theorem mapT_var (n : Int) (s : ByteArray) (p : Option Addr) (c : Nat) (l : List Tm) (fv : Value) (f : Int → T) (w : World) (h : (Tm.mk 1 n s p c l).In w) (hf : MapFnT fv f w) :
    Calls Try.prog 136 #[(Tm.mk 1 n s p c l).val, fv] w (RetTmT (w.heap.size ≤ ·) (f n) w) := by
  rw [Tm.In] at h
  obtain ⟨hk, hn, hs, hlc, hc, hp, hIn⟩ := h
  clear hp hIn
  obtain ⟨fid, cap, rfl, hq, hcall⟩ := hf
  have Hcall := Lib.hid hcall
  have Hn := Lib.hid hn
  clear hcall
  simp only [Tm.val, Tm.k, Tm.n, Tm.s, Tm.p, Tm.c, Tm.l]
  go_enter Try.func136, Try.ntmps136
  go_wp2_with fail
  refine (Hcall.out n _ (by go_grown) Hn.out).mono ?_
  rintro e w1 ⟨bm, hin, he, rfl, hb1, hon, hwh, htr⟩
  obtain ⟨⟨y0, y1, y2, y3⟩, ⟨f0, f1, f2, f3⟩, hlt⟩ := (Blk4.gr (Blk4.new _ _ _ _ _) hb1).parts
  simp only [World.size_alloc] at y0 y1 y2 y3 f0 f1 f2 f3 hlt hon
  have g1 : Gr w w1 := below_step hb1 (by go_grown)
  have hs0 : w.heap.size + 1 < w1.heap.size := hlt
  have Htr := Lib.hid (htr.mono (lo' := w.heap.size) (by simp; omega) (Nat.le_refl _))
  have Hin := Lib.hid hin
  have Hon := Lib.hid hon
  have He := Lib.hid he
  have Hwh := Lib.hid hwh
  clear hin hon he hb1 hwh htr
  obtain ⟨k', n', s', p', c', l'⟩ := bm
  simp only [Tm.val, Tm.k, Tm.n, Tm.s, Tm.p, Tm.c, Tm.l]
  go_wp2_with fail
  refine bodyPost_ret (v := (Tm.mk k' n' s' p' c' l').val) (by simp [results, Try.results136, go_sem, Tm.val, Tm.k, Tm.n, Tm.s, Tm.p, Tm.c, Tm.l, y0, y1, y2, y3]) rfl ?_
  have hfin : ∀ W, Kp (fun b => b = w.heap.size + 1) w1 W → RetTmT (w.heap.size ≤ ·) (f n) w (.returned (Tm.mk k' n' s' p' c' l').val) W := fun W hK =>
    ⟨Tm.mk k' n' s' p' c' l', in_after' Hin.out Hon.out (fun b h1 h2 o => World.cell?_of_block (hK.block b h2 (by omega))), He.out, rfl, Below.trans g1 (hK.below (B := w.heap.size) (fun b hb => by omega) g1.size), Hon.out.mono fun b hb => by omega,
      Tm.Whole.same (fun b hb => hK.block b hb.2 (by have := hb.1; omega)) (Tm.On.and Hon.out Hin.out.on) Hwh.out, Htr.out.mono (Nat.le_refl _) hK.size⟩
  exact hfin _ (Kp.set4 rfl)

set_option maxHeartbeats 2000000 in
set_option maxRecDepth 100000 in
theorem mapT_leaf (k n : Int) (s : ByteArray) (p : Option Addr) (c : Nat) (l : List Tm) (fv : Value) (w : World) (h : (Tm.mk k n s p c l).In w) (hk1 : k ≠ 1) (hk4 : k ≠ 4) :
    Calls Try.prog 136 #[(Tm.mk k n s p c l).val, fv] w (RetTmT (w.heap.size ≤ ·) (.mk k n s.toList []) w) := by
  rw [Tm.In] at h
  obtain ⟨hk, hn, hs, hlc, hc, hp, hIn⟩ := h
  clear hp hIn
  have hk1' : (k == 1) = false := beq_eq_false_iff_ne.2 hk1
  have hk4' : (k == 4) = false := beq_eq_false_iff_ne.2 hk4
  have Hk := Lib.hid hk
  have Hn := Lib.hid hn
  have Hs := Lib.hid hs
  clear hk1 hk4 hk hn hs
  simp only [Tm.val, Tm.k, Tm.n, Tm.s, Tm.p, Tm.c, Tm.l]
  go_enter Try.func136, Try.ntmps136
  go_wp2_with fail
  refine bodyPost_ret (v := (Tm.mk k n s none 0 []).val) (by simp [results, Try.results136, go_sem, Tm.val, Tm.k, Tm.n, Tm.s, Tm.p, Tm.c, Tm.l]) rfl ⟨Tm.mk k n s none 0 [], ?_, by simp [Tm.erase, Tm.eraseL], rfl, by go_grown, ?_, ?_, Tm.tree_nil⟩
  · rw [Tm.In, Tm.InL]
    exact ⟨Hk.out, Hn.out, Hs.out, Nat.le_refl _, ⟨by simp, by omega⟩, .inl rfl, trivial⟩
  · rw [Tm.On, Tm.OnL]; exact ⟨.inl rfl, trivial⟩
  · rw [Tm.Whole, Tm.WholeL]; exact ⟨.inl ⟨rfl, rfl, rfl⟩, trivial⟩

set_option maxHeartbeats 4000000 in
set_option maxRecDepth 100000 in
theorem mapT_any (N : Nat) : ∀ (t : Tm) (fv : Value) (f : Int → T) (w : World), SizeOf.sizeOf t ≤ N → t.In w → t.erase.formed = true → MapFnT fv f w →
    Calls Try.prog 136 #[t.val, fv] w (RetTmT (w.heap.size ≤ ·) (T.map f t.erase) w) := by
  induction N with
  | zero => intro t fv f w h; cases t; simp at h
  | succ N ih =>
    intro t fv f w hN h hfm hf
    obtain ⟨k, n, s, p, c, l⟩ := t
    by_cases hk1 : k = 1
    · subst hk1
      rw [Tm.erase, T.map, if_pos rfl]
      exact mapT_var n s p c l fv f w h hf
    by_cases hk4 : k = 4
    · subst hk4
      obtain ⟨rfl, h100, hl1, hl50, hfl⟩ := formed_elem rfl hfm
      have hsz := fun x (hx : x ∈ l) => Tm.sizeOf_mem hx 4 0 s p c
      have HT := Lib.hid h
      have HSl := Lib.hid h.sl
      rw [Tm.In] at h
      obtain ⟨hk, hn, hs, hlc, hc, hp, hIn⟩ := h
      obtain ⟨b, o, rfl⟩ := HSl.out.ptr (by omega)
      have hbl : b < w.heap.size := Tm.row_lt (by rcases hp with rfl | ⟨b', o', he, hr⟩; · simp at hl1
                                                  · cases he; exact hr) (by rintro rfl; simp at hl1)
      obtain ⟨fid, cap, rfl, hq, hcall⟩ := hf
      have Hf : Hid (MapFnT (.func (.func fid) #[] cap) f w) := ⟨fid, cap, rfl, hq, hcall⟩
      have Hih := Lib.hid ih
      have Hsz := Lib.hid hsz
      have Hfl := Lib.hid hfl
      have Hs := Lib.hid hs
      clear hp hIn hcall hq ih hsz hfl hk hn hfm
      obtain ⟨i0, hi, hz0, hz1, hz2⟩ := info_parts infoTermM
      have Hi := Lib.hid hi
      clear hi
      rw [Tm.erase, T.map, if_neg (by decide), if_pos rfl]
      simp only [Tm.val, Tm.k, Tm.n, Tm.s, Tm.p, Tm.c, Tm.l]
      go_enter Try.func136, Try.ntmps136
      go_wp2_with
        (refine wpList_make_full _ rfl _ _ 23 rfl (w.heap.size) 25 i0 _ 4 Try.underlying23 Hi.out hz0 hz1 .i64 .i64 _ _ l.length rfl rfl rfl rfl (by rw [hz2]; omega) (by simp only [maxLen]; omega) (by simp; omega) ?_
         intro w1 hown hgrow
         have HF := fill_made (S := fun _ => False) hown
         have HA := (after_make hgrow).2
         obtain ⟨⟨b0, b1, b2, b3⟩, _, _⟩ := (after_make hgrow).1.parts
         clear hown hgrow)
      obtain ⟨HB, HR, g1⟩ := HA.out
      replace HB := Lib.hid HB
      replace HR := Lib.hid HR
      have hg2 : w.heap.size + 1 + 1 < w1.heap.size := HF.out.lt
      clear b0 b1 b2 b3 HA
      go_loopw [25] (fun i wr => ∃ k : Nat, k ≤ l.length ∧ i = .int .i64 k ∧ Hid (∃ lm : List Tm, lm.length = k ∧ Tm.eraseL lm = T.mapL f (Tm.eraseL (l.take k)) ∧ Filling wr (w.heap.size + 1 + 1) (fun _ => False) (w.heap.size + 1 + 1) l.length lm ∧ Tm.WholeL wr lm ∧ Tm.TreeL (w.heap.size + 1 + 1 + 1) wr.heap.size lm) ∧ Below (w.heap.size + 1 + 1) w1 wr)
        (fun i _ => l.length - (intOf i).toNat)
      case atStart => exact ⟨0, Nat.zero_le _, rfl, ⟨[], rfl, by simp [T.mapL, Tm.eraseL], HF.out, by rw [Tm.WholeL]; trivial, by rw [Tm.TreeL]; trivial⟩, Below.refl _ _⟩
      case round =>
        obtain ⟨k, hk, rfl, hlm, hb⟩ := hrel
        have hbs := hb.size
        have gr : Gr w wr := Below.trans g1 (hb.mono (by omega))
        have HB' : Hid _ := Lib.hid (HB.out.below hb (by omega))
        have HR' : Hid _ := Lib.hid (HR.out.below hb (by omega))
        by_cases hlt : k < l.length
        · obtain ⟨⟨c0, c1, c2, c3⟩, hx, _⟩ := (HSl.out.mono gr).elem k hlt
          have Hx := Lib.hid hx
          have hmem : l[k] ∈ l := List.getElem_mem hlt
          have Hz := Hsz.out _ hmem
          have Hfx := Lib.hid (Hfl.out _ hmem)
          have Htk : Hid (T.mapL f (Tm.eraseL (l.take (k + 1))) = T.mapL f (Tm.eraseL (l.take k)) ++ [T.map f l[k].erase]) := T.mapL_erase f l k hlt
          clear hx hmem
          generalize hxe : l[k] = x at *
          go_wp2_with fail
          refine (Hih.out x _ f _ (by omega) (Tm.In_below (by go_grown) Hx.out) Hfx.out (Hf.out.gr (by go_grown))).mono ?_
          rintro e w2 ⟨xm, hin, he, rfl, hb2, hon, hwh, htr⟩
          obtain ⟨lm, hl0, he0, hF, hWL, hTL⟩ := hlm.out
          have hg12 : Gr wr w2 := below_step hb2 (by go_grown)
          have HWL := Lib.hid (Tm.WholeL.same (S := (· < wr.heap.size)) (fun b hb => hg12.block b hb) (hF.2.2.2.2.mono fun b hb => hb.2.1) hWL)
          have HLon := Lib.hid (hF.2.2.2.2.mono (S' := fun b => b < w2.heap.size ∧ b ≠ w.heap.size + 1 + 1) fun b hb => ⟨Nat.lt_of_lt_of_le hb.2.1 hg12.size, hb.2.2⟩)
          have Hwh := Lib.hid hwh
          have HTL := Lib.hid (Tm.TreeL.snoc (hi := w2.heap.size) (by omega) hg12.size hTL (Tm.Tree.mono (lo' := wr.heap.size) (by simp) (Nat.le_refl _) htr))
          have hF2 : Filling w2 (w.heap.size + 1 + 1) (fun _ => False) (w.heap.size + 1 + 1) l.length lm := Filling.gr (w := wr) hF (below_step hb2 (by go_grown))
          have HF2 := Lib.hid hF2
          have g2 : Below (w.heap.size + 1 + 1) w1 w2 := Below.trans hb ((show Gr wr w2 from below_step hb2 (by go_grown)).mono (by omega))
          obtain ⟨⟨q0, r0⟩, fr0⟩ := hF2.spot (j := k * 4) (by omega)
          obtain ⟨⟨q1, r1⟩, fr1⟩ := hF2.spot (j := k * 4 + 1) (by omega)
          obtain ⟨⟨q2, r2⟩, fr2⟩ := hF2.spot (j := k * 4 + 2) (by omega)
          obtain ⟨⟨q3, r3⟩, fr3⟩ := hF2.spot (j := k * 4 + 3) (by omega)
          have hs2 := hb2.size
          simp only [World.size_alloc] at hs2 hon
          have Hl0 := Lib.hid hl0
          have He0 := Lib.hid he0
          have Hin := Lib.hid hin
          have Hon := Lib.hid hon
          have He := Lib.hid he
          clear hF hF2 hl0 he0 hin hon he hb2 hlm hwh hWL hg12 htr hTL
          obtain ⟨k', n', s', p', c', l'⟩ := xm
          simp only [Tm.val, Tm.k, Tm.n, Tm.s, Tm.p, Tm.c, Tm.l]
          go_wp2_with fail
          go_roundw
          case rel =>
            refine ⟨k + 1, by omega, by go_num, ⟨lm ++ [.mk k' n' s' p' c' l'], by simp [Hl0.out], by rw [eraseL_append, He0.out, Htk.out]; simp [Tm.eraseL, He.out], ?_, ?_, Tm.TreeL.mono (Nat.le_refl _) (by simp) HTL.out⟩, by go_grown⟩
            rotate_left
            · exact Tm.WholeL_append (Tm.WholeL.same (fun b hb => (Kp.set4 (C := fun x => x = w.heap.size + 1 + 1) rfl).block b hb.1 hb.2) HLon.out HWL.out)
                (by rw [Tm.WholeL, Tm.WholeL]; exact ⟨Tm.Whole.same (fun b hb => (Kp.set4 (C := fun x => x = w.heap.size + 1 + 1) rfl).block b hb.2 (by have := hb.1; omega)) (Tm.On.and Hon.out Hin.out.on) Hwh.out, trivial⟩)
            have := HF2.out.store (x := .mk k' n' s' p' c' l') (by rw [Hl0.out]; exact hlt) Hin.out (Hon.out.mono fun b hb => ?_)
            · rw [Hl0.out] at this
              simpa only [Tm.k, Tm.n, Tm.s, Tm.p, Tm.c, Tm.l] using this
            · exact ⟨.inr (by omega), by omega⟩
          case measure => simp [intOf]; omega
        · obtain rfl : k = l.length := by omega
          obtain ⟨lm, hl0, he0, hF, hWL, hTL⟩ := hlm.out
          have HTL := Lib.hid hTL
          have HWL := Lib.hid hWL
          have HLon := Lib.hid hF.2.2.2.2
          obtain ⟨⟨b0, b1, b2, b3⟩, ⟨e0, e1, e2, e3⟩, hbs1⟩ := HB'.out.parts
          obtain ⟨⟨y0, y1, y2, y3⟩, ⟨f0, f1, f2, f3⟩, hbs2⟩ := HR'.out.parts
          have HF := Lib.hid hF
          have Hl0 := Lib.hid hl0
          have He0 := Lib.hid he0
          clear hF hl0 he0 hlm hWL hTL
          go_wp2_with fail
          refine bodyPost_ret (v := (Tm.mk 4 0 s (some ⟨w.heap.size + 1 + 1, 0, none⟩) l.length lm).val) (by simp [results, Try.results136, go_sem, Tm.val, Tm.k, Tm.n, Tm.s, Tm.p, Tm.c, Tm.l, Hl0.out, y0, y1, y2, y3]) rfl ?_
          have hsl := HF.out.sl Hl0.out (by omega)
          have hin : (Tm.mk 4 0 s (some ⟨w.heap.size + 1 + 1, 0, none⟩) l.length lm).In wr := compTm_in Hs.out hsl.1
          have hon : (Tm.mk 4 0 s (some ⟨w.heap.size + 1 + 1, 0, none⟩) l.length lm).On (fun b => w.heap.size + 1 + 1 ≤ b) := by
            rw [Tm.On]
            exact ⟨hsl.2.1.imp id fun ⟨b, o, h1, h2⟩ => ⟨b, o, h1, h2.elim (fun h => h.elim) id⟩, hsl.2.2.mono fun b hb => hb.elim (fun h => h.elim) id⟩
          have hwhole : (Tm.mk 4 0 s (some ⟨w.heap.size + 1 + 1, 0, none⟩) l.length lm).Whole wr := by
            obtain ⟨_, _, ⟨cur, hc1, hc2, _⟩, _⟩ := HF.out
            rw [Tm.Whole]
            exact ⟨.inr ⟨by rintro rfl; have := Hl0.out; simp at this; omega, _, cur, rfl, Hl0.out.symm, hc1, by rw [hc2, Hl0.out]⟩, HWL.out⟩
          have hfin : ∀ W, Kp (fun b => b = w.heap.size ∨ b = w.heap.size + 1) wr W → RetTmT (w.heap.size ≤ ·) (.mk 4 0 s.toList (T.mapL f (Tm.eraseL l))) w (.returned (Tm.mk 4 0 s (some ⟨w.heap.size + 1 + 1, 0, none⟩) l.length lm).val) W := fun W hK =>
            ⟨_, in_after' hin hon (fun b h1 h2 o => World.cell?_of_block (hK.block b h2 (by omega))), by rw [Tm.erase, He0.out, List.take_length], rfl, Below.trans gr (hK.below (B := w.heap.size) (fun b hb => by omega) gr.size), hon.mono fun b hb => by omega,
              Tm.Whole.same (fun b hb => hK.block b hb.2 (by have := hb.1; omega)) (Tm.On.and hon hin.on) hwhole,
              by rw [Tm.Tree]; exact .inr ⟨_, rfl, by omega, by have := hK.size; omega, Tm.TreeL.mono (Nat.le_refl _) hK.size HTL.out⟩⟩
          exact hfin _ ((Kp.set (C := fun b => b = w.heap.size ∨ b = w.heap.size + 1) (.inl rfl)).trans (Kp.set4 (C := fun b => b = w.heap.size ∨ b = w.heap.size + 1) (.inr rfl)))
    · rw [Tm.erase, T.map, if_neg hk1, if_neg hk4]
      exact mapT_leaf k n s p c l fv w h hk1 hk4


theorem mapT_calls {t : Tm} {fv : Value} {f : Int → T} {w : World} (h : t.In w) (hf : t.erase.formed = true) (hm : MapFnT fv f w) :
    Calls Try.prog 136 #[t.val, fv] w (RetTmT (w.heap.size ≤ ·) (T.map f t.erase) w) := mapT_any _ t fv f w (Nat.le_refl _) h hf hm

theorem mapFnT_V (w : World) : MapFnT (.func (.func 86) #[] #[]) varT w :=
  ⟨86, #[], rfl, fun n w => by kernel_rfl, fun n w _ hn => (vV_calls n w).mono fun e w' ⟨he, hg⟩ =>
    ⟨varTm n, varTm_in hn w', varTm_erase n, he, hg, varTm_on n, by rw [varTm, Tm.Whole, Tm.WholeL]; exact ⟨.inl ⟨rfl, rfl, rfl⟩, trivial⟩, Tm.tree_nil⟩⟩

set_option maxHeartbeats 400000 in
/-- term.Copy: the same term in new memory, a tree. -/
theorem copyT_calls {t : Tm} {w : World} (h : t.In w) (hf : t.erase.formed = true) : Calls Try.prog 81 #[t.val] w (RetTmT (w.heap.size ≤ ·) t.erase w) := by
  have H := Lib.hid h
  have Hf := Lib.hid hf
  clear h hf
  simp only [Tm.val]
  go_enter Try.func81, Try.ntmps81
  go_wp2_with fail
  refine (mapT_calls (t := t) (Tm.In_below (by go_grown) H.out) Hf.out (mapFnT_V _)).mono ?_
  rw [T.map_varT Hf.out]
  rintro e w1 ⟨bm, hin, he, rfl, hb1, hon, hwh, htr⟩
  obtain ⟨⟨y0, y1, y2, y3⟩, ⟨f0, f1, f2, f3⟩, hlt⟩ := (Blk4.gr (Blk4.new _ _ _ _ _) hb1).parts
  simp only [World.size_alloc] at y0 y1 y2 y3 f0 f1 f2 f3 hlt hon
  have g1 : Gr w w1 := below_step hb1 (by go_grown)
  have Hin := Lib.hid hin
  have Hon := Lib.hid hon
  have He := Lib.hid he
  have Hwh := Lib.hid hwh
  have Htr := Lib.hid (htr.mono (lo' := w.heap.size) (by simp; omega) (Nat.le_refl _))
  clear hin hon he hb1 hwh htr
  obtain ⟨k', n', s', p', c', l'⟩ := bm
  simp only [Tm.val, Tm.k, Tm.n, Tm.s, Tm.p, Tm.c, Tm.l]
  go_wp2_with fail
  refine bodyPost_ret (v := (Tm.mk k' n' s' p' c' l').val) (by simp [results, Try.results81, go_sem, Tm.val, Tm.k, Tm.n, Tm.s, Tm.p, Tm.c, Tm.l, y0, y1, y2, y3]) rfl ?_
  have hfin : ∀ W, Kp (fun b => b = w.heap.size + 1) w1 W → RetTmT (w.heap.size ≤ ·) _ w (.returned (Tm.mk k' n' s' p' c' l').val) W := fun W hK =>
    ⟨Tm.mk k' n' s' p' c' l', in_after' Hin.out Hon.out (fun b h1 h2 o => World.cell?_of_block (hK.block b h2 (by omega))), He.out, rfl, Below.trans g1 (hK.below (B := w.heap.size) (fun b hb => by omega) g1.size), Hon.out.mono fun b hb => by omega,
      Tm.Whole.same (fun b hb => hK.block b hb.2 (by have := hb.1; omega)) (Tm.On.and Hon.out Hin.out.on) Hwh.out, Htr.out.mono (Nat.le_refl _) hK.size⟩
  exact hfin _ (Kp.set4 rfl)
end Go.Proofs.Ytcblmkhhhibddaa

namespace Go.Proofs.Ytcblmkhhhibddaa
open Go.RowKit Go.Maps Go.Lib

theorem zero_term (w : World) : (zeroValue 25).run Try.prog w = .ok zeroTm.val w := by kernel_rfl

/-- What a lookup gives, whatever has been made since. -/
theorem TMap.look {S : Nat → Prop} {w : World} {b : Nat} {f : Int → Option T} (h : TMap S w b f) {n : Int} (hn : In64 n) :
    ∃ (u : Tm) (x : Bool), (∀ (C : Nat → Prop) (ww : World), Kp C w ww → ¬ C b → (Instr.lookup 106 (.map (some b)) (.int .i64 n) true).run Try.prog ww = .ok (.tuple #[u.val, .bool x]) ww) ∧
      ((x = false ∧ f n = none ∧ u = zeroTm) ∨ (x = true ∧ ∃ t, f n = some t ∧ u.In w ∧ u.erase = t ∧ t.formed = true ∧ u.On S)) := by
  obtain ⟨⟨g, h1, h2⟩, h3, h4⟩ := h
  have hrun : ∀ (C : Nat → Prop) (ww : World), Kp C w ww → ¬ C b → (Instr.lookup 106 (.map (some b)) (.int .i64 n) true).run Try.prog ww = .ok (.tuple #[(g n).getD zeroTm.val, .bool (g n).isSome]) ww := fun C ww hk hb =>
    ((h1.kp hk hb).run (int_keyed Try.underlying2) Try.underlying106 (zero_term ww) (x := n) (keyOf_int_mk Try.underlying2 (wf_64 hn))).2
  have h5 := h2 n
  cases hf : f n with
  | none =>
    rw [hf] at h5
    simp only at h5
    refine ⟨zeroTm, false, fun C ww hk hb => ?_, .inl ⟨rfl, rfl, rfl⟩⟩
    rw [hrun C ww hk hb, h5]
    rfl
  | some t =>
    rw [hf] at h5
    obtain ⟨tm, i1, i2, i3, i4, i5⟩ := h5
    refine ⟨tm, true, fun C ww hk hb => ?_, .inr ⟨rfl, t, rfl, i2, i3, i4, i5⟩⟩
    rw [hrun C ww hk hb, i1]
    rfl

/-- A store: at P its three cells, at M the map; the trail; how long it was at each mark. -/
structure SM (S : Nat → Prop) (B : Nat) (w : World) (P M : Nat) (vt vm : Value) (σ : Int → Option T) (tr mk : List Int) : Prop where
  blk : BlkT w P 108 #[.map (some M), vt, vm]
  map : TMap S w M σ
  tro : IntsOwn w B vt tr
  mko : w.ownsRow B 3 1 vm mk.length (mk.map (Value.int .i64))
  trn : tr.Nodup
  tri : ∀ n, n ∈ tr ↔ σ n ≠ none
  sepS : ∀ b, S b → b < w.heap.size ∧ b ≠ P ∧ b ≠ M ∧ vt.ownBlock ≠ some b ∧ vm.ownBlock ≠ some b
  nPM : P ≠ M
  nt : vt.ownBlock ≠ some P ∧ vt.ownBlock ≠ some M
  nm : vm.ownBlock ≠ some P ∧ vm.ownBlock ≠ some M
  ntm : ∀ b, vt.ownBlock = some b → vm.ownBlock ≠ some b
  bnd : B ≤ w.heap.size

section
variable {S : Nat → Prop} {B : Nat} {w w' : World} {P M : Nat} {vt vm : Value} {σ : Int → Option T} {tr mk : List Int}
theorem TMap.lt (h : TMap S w M σ) : M < w.heap.size := by
  obtain ⟨⟨g, h1, _⟩, _, _⟩ := h
  exact h1.lt
theorem TMap.gr (h : TMap S w M σ) (hg : Gr w w') : TMap S w' M σ := h.kp (C := fun _ => False) (Kp.of_gr hg) id fun _ _ => id
theorem TMap.mono {S' : Nat → Prop} (h : TMap S w M σ) (hS : ∀ b, S b → S' b) : TMap S' w M σ := by
  obtain ⟨⟨g, h1, h2⟩, h3, h4⟩ := h
  refine ⟨⟨g, h1, fun n => ?_⟩, h3, h4⟩
  have := h2 n
  cases hf : σ n with
  | none => rw [hf] at this; exact this
  | some t =>
    rw [hf] at this
    obtain ⟨tm, i1, i2, i3, i4, i5⟩ := this
    exact ⟨tm, i1, i2, i3, i4, i5.mono hS⟩
theorem SM.gr (h : SM S B w P M vt vm σ tr mk) (hg : Gr w w') : SM S B w' P M vt vm σ tr mk where
  blk := h.blk.gr hg
  map := h.map.gr hg
  tro := h.tro.gr hg
  mko := ownsRow_gr h.mko hg
  trn := h.trn
  tri := h.tri
  sepS b hb := ⟨Nat.lt_of_lt_of_le (h.sepS b hb).1 hg.size, (h.sepS b hb).2⟩
  nPM := h.nPM
  nt := h.nt
  nm := h.nm
  ntm := h.ntm
  bnd := Nat.le_trans h.bnd hg.size
/-- More terms may be laid in it. -/
theorem SM.mono {S' : Nat → Prop} (h : SM S B w P M vt vm σ tr mk) (hS : ∀ b, S b → S' b) (hS' : ∀ b, S' b → b < w.heap.size ∧ b ≠ P ∧ b ≠ M ∧ vt.ownBlock ≠ some b ∧ vm.ownBlock ≠ some b) : SM S' B w P M vt vm σ tr mk :=
  { h with map := h.map.mono hS, sepS := hS' }
theorem SM.range (h : SM S B w P M vt vm σ tr mk) (n : Int) (hn : n ∈ tr) : 0 ≤ n ∧ n ≤ 1099511627776 := h.map.2.2 n ((h.tri n).1 hn)
theorem SM.len (h : SM S B w P M vt vm σ tr mk) : tr.length ≤ 1099511627777 := nodup_le 1099511627777 tr h.trn fun x hx => by
  have := h.range x hx
  omega
end
end Go.Proofs.Ytcblmkhhhibddaa

namespace Go.Proofs.Ytcblmkhhhibddaa
open Go.RowKit

/-- A function value that may be called of such variables. -/
def MapFnP (P : Int → Prop) (fv : Value) (S : Nat → Prop) (f : Int → T) (w0 : World) : Prop :=
  (∀ b, S b → b < w0.heap.size) ∧ ∃ (fid : FuncId) (cap : Array Value), fv = .func (.func fid) #[] cap ∧ (∀ (n : Int) (w : World), (callFunc fid (#[.int .i64 n] ++ cap)).run Try.prog w = .ok (.enter fid (#[.int .i64 n] ++ cap)) w) ∧
    ∀ (n : Int) (w : World), P n → Gr w0 w → In64 n → Calls Try.prog fid (#[.int .i64 n] ++ cap) w (RetTm (fun b => S b ∨ w.heap.size ≤ b) (f n) w)
theorem MapFnP.gr {P : Int → Prop} {fv : Value} {S : Nat → Prop} {f : Int → T} {w0 w1 : World} (h : MapFnP P fv S f w0) (hg : Gr w0 w1) : MapFnP P fv S f w1 := by
  obtain ⟨h0, fid, cap, h1, h2, h3⟩ := h
  exact ⟨fun b hb => Nat.lt_of_lt_of_le (h0 b hb) hg.size, fid, cap, h1, h2, fun n w hp hw hn => h3 n w hp (hg.trans hw) hn⟩

end Go.Proofs.Ytcblmkhhhibddaa
