/-
  term.Map with a function that keeps nothing: what it makes lies whole, in new memory.
  term.Map with the function of term.Renamed: any term.
  term.Renamed
-/
import Derived.Test.YthncdmijledpnaaTM07
import Derived.Test.YthncdmijledpnaaTM04
import Derived.Deep.QuietTactic
import Derived.BigQuiet
namespace Go.Proofs.Ythncdmijledpnaa
open Go.RowKit

/-- A term in memory is handed back, that lies whole. -/
def RetTmW (S : Nat → Prop) (t : T) (w : World) (e : Ending) (w' : World) : Prop := ∃ b : Tm, b.In w' ∧ b.erase = t ∧ e = .returned b.val ∧ Gr w w' ∧ b.On S ∧ b.Whole w'
/-- A function value that may be called: what it makes of a variable, whatever has grown since. -/
def MapFnW (fv : Value) (f : Int → T) (w0 : World) : Prop :=
  ∃ (fid : FuncId) (cap : Array Value), fv = .func (.func fid) #[] cap ∧ (∀ (n : Int) (w : World), (callFunc fid (#[.int .i64 n] ++ cap)).run Try.prog w = .ok (.enter fid (#[.int .i64 n] ++ cap)) w) ∧
    ∀ (n : Int) (w : World), Gr w0 w → In64 n → Calls Try.prog fid (#[.int .i64 n] ++ cap) w (RetTmW (w.heap.size ≤ ·) (f n) w)
theorem MapFnW.gr {fv : Value} {f : Int → T} {w0 w1 : World} (h : MapFnW fv f w0) (hg : Gr w0 w1) : MapFnW fv f w1 := by
  obtain ⟨fid, cap, h1, h2, h3⟩ := h
  exact ⟨fid, cap, h1, h2, fun n w hw hn => h3 n w (hg.trans hw) hn⟩

set_option maxHeartbeats 2000000 in
set_option maxRecDepth 100000 in
theorem mapW_var (n : Int) (s : ByteArray) (p : Option Addr) (c : Nat) (l : List Tm) (fv : Value) (f : Int → T) (w : World) (h : (Tm.mk 1 n s p c l).In w) (hf : MapFnW fv f w) :
    Calls Try.prog 126 #[(Tm.mk 1 n s p c l).val, fv] w (RetTmW (w.heap.size ≤ ·) (f n) w) := by
  rw [Tm.In] at h
  obtain ⟨hk, hn, hs, hlc, hc, hp, hIn⟩ := h
  clear hp hIn
  obtain ⟨fid, cap, rfl, hq, hcall⟩ := hf
  have Hcall := Lib.hid hcall
  have Hn := Lib.hid hn
  clear hcall
  simp only [Tm.val, Tm.k, Tm.n, Tm.s, Tm.p, Tm.c, Tm.l]
  go_enter Try.func126, Try.ntmps126
  go_wp2_with fail
  refine (Hcall.out n _ (by go_grown) Hn.out).mono ?_
  rintro e w1 ⟨bm, hin, he, rfl, hb1, hon, hwh⟩
  obtain ⟨⟨y0, y1, y2, y3⟩, ⟨f0, f1, f2, f3⟩, hlt⟩ := (Blk4.gr (Blk4.new _ _ _ _ _) hb1).parts
  simp only [World.size_alloc] at y0 y1 y2 y3 f0 f1 f2 f3 hlt hon
  have g1 : Gr w w1 := below_step hb1 (by go_grown)
  have hs0 : w.heap.size + 1 < w1.heap.size := hlt
  have Hin := Lib.hid hin
  have Hon := Lib.hid hon
  have He := Lib.hid he
  have Hwh := Lib.hid hwh
  clear hin hon he hb1 hwh
  obtain ⟨k', n', s', p', c', l'⟩ := bm
  simp only [Tm.val, Tm.k, Tm.n, Tm.s, Tm.p, Tm.c, Tm.l]
  go_wp2_with fail
  refine bodyPost_ret (v := (Tm.mk k' n' s' p' c' l').val) (by simp [results, Try.results126, go_sem, Tm.val, Tm.k, Tm.n, Tm.s, Tm.p, Tm.c, Tm.l, y0, y1, y2, y3]) rfl ?_
  have hfin : ∀ W, Kp (fun b => b = w.heap.size + 1) w1 W → RetTmW (w.heap.size ≤ ·) (f n) w (.returned (Tm.mk k' n' s' p' c' l').val) W := fun W hK =>
    ⟨Tm.mk k' n' s' p' c' l', in_after' Hin.out Hon.out (fun b h1 h2 o => World.cell?_of_block (hK.block b h2 (by omega))), He.out, rfl, Below.trans g1 (hK.below (B := w.heap.size) (fun b hb => by omega) g1.size), Hon.out.mono fun b hb => by omega,
      Tm.Whole.same (fun b hb => hK.block b hb.2 (by have := hb.1; omega)) (Tm.On.and Hon.out Hin.out.on) Hwh.out⟩
  exact hfin _ (Kp.set4 rfl)

set_option maxHeartbeats 2000000 in
set_option maxRecDepth 100000 in
theorem mapW_leaf (k n : Int) (s : ByteArray) (p : Option Addr) (c : Nat) (l : List Tm) (fv : Value) (w : World) (h : (Tm.mk k n s p c l).In w) (hk1 : k ≠ 1) (hk4 : k ≠ 4) :
    Calls Try.prog 126 #[(Tm.mk k n s p c l).val, fv] w (RetTmW (w.heap.size ≤ ·) (.mk k n s.toList []) w) := by
  rw [Tm.In] at h
  obtain ⟨hk, hn, hs, hlc, hc, hp, hIn⟩ := h
  clear hp hIn
  have hk1' : (k == 1) = false := beq_eq_false_iff_ne.2 hk1
  have hk4' : (k == 4) = false := beq_eq_false_iff_ne.2 hk4
  have Hk := Lib.hid hk
  have Hn := Lib.hid hn
  have Hs := Lib.hid hs
  clear hk1 hk4 hk hn hs
  simp only [Tm.val, Tm.k, Tm.n, Tm.s, Tm.p, Tm.c, Tm.l]
  go_enter Try.func126, Try.ntmps126
  go_wp2_with fail
  refine bodyPost_ret (v := (Tm.mk k n s none 0 []).val) (by simp [results, Try.results126, go_sem, Tm.val, Tm.k, Tm.n, Tm.s, Tm.p, Tm.c, Tm.l]) rfl ⟨Tm.mk k n s none 0 [], ?_, by simp [Tm.erase, Tm.eraseL], rfl, by go_grown, ?_, ?_⟩
  · rw [Tm.In, Tm.InL]
    exact ⟨Hk.out, Hn.out, Hs.out, Nat.le_refl _, ⟨by simp, by omega⟩, .inl rfl, trivial⟩
  · rw [Tm.On, Tm.OnL]; exact ⟨.inl rfl, trivial⟩
  · rw [Tm.Whole, Tm.WholeL]; exact ⟨.inl ⟨rfl, rfl, rfl⟩, trivial⟩

set_option maxHeartbeats 4000000 in
set_option maxRecDepth 100000 in
theorem mapW_any (N : Nat) : ∀ (t : Tm) (fv : Value) (f : Int → T) (w : World), SizeOf.sizeOf t ≤ N → t.In w → t.erase.formed = true → MapFnW fv f w →
    Calls Try.prog 126 #[t.val, fv] w (RetTmW (w.heap.size ≤ ·) (T.map f t.erase) w) := by
  induction N with
  | zero => intro t fv f w h; cases t; simp at h
  | succ N ih =>
    intro t fv f w hN h hfm hf
    obtain ⟨k, n, s, p, c, l⟩ := t
    by_cases hk1 : k = 1
    · subst hk1
      rw [Tm.erase, T.map, if_pos rfl]
      exact mapW_var n s p c l fv f w h hf
    by_cases hk4 : k = 4
    · subst hk4
      obtain ⟨rfl, h100, hl1, hl50, hfl⟩ := formed_elem rfl hfm
      have hsz := fun x (hx : x ∈ l) => Tm.sizeOf_mem hx 4 0 s p c
      have HT := Lib.hid h
      have HSl := Lib.hid h.sl
      rw [Tm.In] at h
      obtain ⟨hk, hn, hs, hlc, hc, hp, hIn⟩ := h
      obtain ⟨b, o, rfl⟩ := HSl.out.ptr (by omega)
      have hbl : b < w.heap.size := Tm.row_lt (by rcases hp with rfl | ⟨b', o', he, hr⟩; · simp at hl1
                                                  · cases he; exact hr) (by rintro rfl; simp at hl1)
      obtain ⟨fid, cap, rfl, hq, hcall⟩ := hf
      have Hf : Hid (MapFnW (.func (.func fid) #[] cap) f w) := ⟨fid, cap, rfl, hq, hcall⟩
      have Hih := Lib.hid ih
      have Hsz := Lib.hid hsz
      have Hfl := Lib.hid hfl
      have Hs := Lib.hid hs
      clear hp hIn hcall hq ih hsz hfl hk hn hfm
      obtain ⟨i0, hi, hz0, hz1, hz2⟩ := info_parts infoTermM
      have Hi := Lib.hid hi
      clear hi
      rw [Tm.erase, T.map, if_neg (by decide), if_pos rfl]
      simp only [Tm.val, Tm.k, Tm.n, Tm.s, Tm.p, Tm.c, Tm.l]
      go_enter Try.func126, Try.ntmps126
      go_wp2_with
        (refine wpList_make_full _ rfl _ _ 23 rfl (w.heap.size) 25 i0 _ 4 Try.underlying23 Hi.out hz0 hz1 .i64 .i64 _ _ l.length rfl rfl rfl rfl (by rw [hz2]; omega) (by simp only [maxLen]; omega) (by simp; omega) ?_
         intro w1 hown hgrow
         have HF := fill_made (S := fun _ => False) hown
         have HA := (after_make hgrow).2
         obtain ⟨⟨b0, b1, b2, b3⟩, _, _⟩ := (after_make hgrow).1.parts
         clear hown hgrow)
      obtain ⟨HB, HR, g1⟩ := HA.out
      replace HB := Lib.hid HB
      replace HR := Lib.hid HR
      have hg2 : w.heap.size + 1 + 1 < w1.heap.size := HF.out.lt
      clear b0 b1 b2 b3 HA
      go_loopw [25] (fun i wr => ∃ k : Nat, k ≤ l.length ∧ i = .int .i64 k ∧ Hid (∃ lm : List Tm, lm.length = k ∧ Tm.eraseL lm = T.mapL f (Tm.eraseL (l.take k)) ∧ Filling wr (w.heap.size + 1 + 1) (fun _ => False) (w.heap.size + 1 + 1) l.length lm ∧ Tm.WholeL wr lm) ∧ Below (w.heap.size + 1 + 1) w1 wr)
        (fun i _ => l.length - (intOf i).toNat)
      case atStart => exact ⟨0, Nat.zero_le _, rfl, ⟨[], rfl, by simp [T.mapL, Tm.eraseL], HF.out, by rw [Tm.WholeL]; trivial⟩, Below.refl _ _⟩
      case round =>
        obtain ⟨k, hk, rfl, hlm, hb⟩ := hrel
        have hbs := hb.size
        have gr : Gr w wr := Below.trans g1 (hb.mono (by omega))
        have HB' : Hid _ := Lib.hid (HB.out.below hb (by omega))
        have HR' : Hid _ := Lib.hid (HR.out.below hb (by omega))
        by_cases hlt : k < l.length
        · obtain ⟨⟨c0, c1, c2, c3⟩, hx, _⟩ := (HSl.out.mono gr).elem k hlt
          have Hx := Lib.hid hx
          have hmem : l[k] ∈ l := List.getElem_mem hlt
          have Hz := Hsz.out _ hmem
          have Hfx := Lib.hid (Hfl.out _ hmem)
          have Htk : Hid (T.mapL f (Tm.eraseL (l.take (k + 1))) = T.mapL f (Tm.eraseL (l.take k)) ++ [T.map f l[k].erase]) := T.mapL_erase f l k hlt
          clear hx hmem
          generalize hxe : l[k] = x at *
          go_wp2_with fail
          refine (Hih.out x _ f _ (by omega) (Tm.In_below (by go_grown) Hx.out) Hfx.out (Hf.out.gr (by go_grown))).mono ?_
          rintro e w2 ⟨xm, hin, he, rfl, hb2, hon, hwh⟩
          obtain ⟨lm, hl0, he0, hF, hWL⟩ := hlm.out
          have hg12 : Gr wr w2 := below_step hb2 (by go_grown)
          have HWL := Lib.hid (Tm.WholeL.same (S := (· < wr.heap.size)) (fun b hb => hg12.block b hb) (hF.2.2.2.2.mono fun b hb => hb.2.1) hWL)
          have HLon := Lib.hid (hF.2.2.2.2.mono (S' := fun b => b < w2.heap.size ∧ b ≠ w.heap.size + 1 + 1) fun b hb => ⟨Nat.lt_of_lt_of_le hb.2.1 hg12.size, hb.2.2⟩)
          have Hwh := Lib.hid hwh
          have hF2 : Filling w2 (w.heap.size + 1 + 1) (fun _ => False) (w.heap.size + 1 + 1) l.length lm := Filling.gr (w := wr) hF (below_step hb2 (by go_grown))
          have HF2 := Lib.hid hF2
          have g2 : Below (w.heap.size + 1 + 1) w1 w2 := Below.trans hb ((show Gr wr w2 from below_step hb2 (by go_grown)).mono (by omega))
          obtain ⟨⟨q0, r0⟩, fr0⟩ := hF2.spot (j := k * 4) (by omega)
          obtain ⟨⟨q1, r1⟩, fr1⟩ := hF2.spot (j := k * 4 + 1) (by omega)
          obtain ⟨⟨q2, r2⟩, fr2⟩ := hF2.spot (j := k * 4 + 2) (by omega)
          obtain ⟨⟨q3, r3⟩, fr3⟩ := hF2.spot (j := k * 4 + 3) (by omega)
          have hs2 := hb2.size
          simp only [World.size_alloc] at hs2 hon
          have Hl0 := Lib.hid hl0
          have He0 := Lib.hid he0
          have Hin := Lib.hid hin
          have Hon := Lib.hid hon
          have He := Lib.hid he
          clear hF hF2 hl0 he0 hin hon he hb2 hlm hwh hWL hg12
          obtain ⟨k', n', s', p', c', l'⟩ := xm
          simp only [Tm.val, Tm.k, Tm.n, Tm.s, Tm.p, Tm.c, Tm.l]
          go_wp2_with fail
          go_roundw
          case rel =>
            refine ⟨k + 1, by omega, by go_num, ⟨lm ++ [.mk k' n' s' p' c' l'], by simp [Hl0.out], by rw [eraseL_append, He0.out, Htk.out]; simp [Tm.eraseL, He.out], ?_, ?_⟩, by go_grown⟩
            rotate_left
            · exact Tm.WholeL_append (Tm.WholeL.same (fun b hb => (Kp.set4 (C := fun x => x = w.heap.size + 1 + 1) rfl).block b hb.1 hb.2) HLon.out HWL.out)
                (by rw [Tm.WholeL, Tm.WholeL]; exact ⟨Tm.Whole.same (fun b hb => (Kp.set4 (C := fun x => x = w.heap.size + 1 + 1) rfl).block b hb.2 (by have := hb.1; omega)) (Tm.On.and Hon.out Hin.out.on) Hwh.out, trivial⟩)
            have := HF2.out.store (x := .mk k' n' s' p' c' l') (by rw [Hl0.out]; exact hlt) Hin.out (Hon.out.mono fun b hb => ?_)
            · rw [Hl0.out] at this
              simpa only [Tm.k, Tm.n, Tm.s, Tm.p, Tm.c, Tm.l] using this
            · exact ⟨.inr (by omega), by omega⟩
          case measure => simp [intOf]; omega
        · obtain rfl : k = l.length := by omega
          obtain ⟨lm, hl0, he0, hF, hWL⟩ := hlm.out
          have HWL := Lib.hid hWL
          have HLon := Lib.hid hF.2.2.2.2
          obtain ⟨⟨b0, b1, b2, b3⟩, ⟨e0, e1, e2, e3⟩, hbs1⟩ := HB'.out.parts
          obtain ⟨⟨y0, y1, y2, y3⟩, ⟨f0, f1, f2, f3⟩, hbs2⟩ := HR'.out.parts
          have HF := Lib.hid hF
          have Hl0 := Lib.hid hl0
          have He0 := Lib.hid he0
          clear hF hl0 he0 hlm hWL
          go_wp2_with fail
          refine bodyPost_ret (v := (Tm.mk 4 0 s (some ⟨w.heap.size + 1 + 1, 0, none⟩) l.length lm).val) (by simp [results, Try.results126, go_sem, Tm.val, Tm.k, Tm.n, Tm.s, Tm.p, Tm.c, Tm.l, Hl0.out, y0, y1, y2, y3]) rfl ?_
          have hsl := HF.out.sl Hl0.out (by omega)
          have hin : (Tm.mk 4 0 s (some ⟨w.heap.size + 1 + 1, 0, none⟩) l.length lm).In wr := compTm_in Hs.out hsl.1
          have hon : (Tm.mk 4 0 s (some ⟨w.heap.size + 1 + 1, 0, none⟩) l.length lm).On (fun b => w.heap.size + 1 + 1 ≤ b) := by
            rw [Tm.On]
            exact ⟨hsl.2.1.imp id fun ⟨b, o, h1, h2⟩ => ⟨b, o, h1, h2.elim (fun h => h.elim) id⟩, hsl.2.2.mono fun b hb => hb.elim (fun h => h.elim) id⟩
          have hwhole : (Tm.mk 4 0 s (some ⟨w.heap.size + 1 + 1, 0, none⟩) l.length lm).Whole wr := by
            obtain ⟨_, _, ⟨cur, hc1, hc2, _⟩, _⟩ := HF.out
            rw [Tm.Whole]
            exact ⟨.inr ⟨by rintro rfl; have := Hl0.out; simp at this; omega, _, cur, rfl, Hl0.out.symm, hc1, by rw [hc2, Hl0.out]⟩, HWL.out⟩
          have hfin : ∀ W, Kp (fun b => b = w.heap.size ∨ b = w.heap.size + 1) wr W → RetTmW (w.heap.size ≤ ·) (.mk 4 0 s.toList (T.mapL f (Tm.eraseL l))) w (.returned (Tm.mk 4 0 s (some ⟨w.heap.size + 1 + 1, 0, none⟩) l.length lm).val) W := fun W hK =>
            ⟨_, in_after' hin hon (fun b h1 h2 o => World.cell?_of_block (hK.block b h2 (by omega))), by rw [Tm.erase, He0.out, List.take_length], rfl, Below.trans gr (hK.below (B := w.heap.size) (fun b hb => by omega) gr.size), hon.mono fun b hb => by omega,
              Tm.Whole.same (fun b hb => hK.block b hb.2 (by have := hb.1; omega)) (Tm.On.and hon hin.on) hwhole⟩
          exact hfin _ ((Kp.set (C := fun b => b = w.heap.size ∨ b = w.heap.size + 1) (.inl rfl)).trans (Kp.set4 (C := fun b => b = w.heap.size ∨ b = w.heap.size + 1) (.inr rfl)))
    · rw [Tm.erase, T.map, if_neg hk1, if_neg hk4]
      exact mapW_leaf k n s p c l fv w h hk1 hk4


theorem mapW_calls {t : Tm} {fv : Value} {f : Int → T} {w : World} (h : t.In w) (hf : t.erase.formed = true) (hm : MapFnW fv f w) :
    Calls Try.prog 126 #[t.val, fv] w (RetTmW (w.heap.size ≤ ·) (T.map f t.erase) w) := mapW_any _ t fv f w (Nat.le_refl _) h hf hm
end Go.Proofs.Ythncdmijledpnaa

namespace Go.Proofs.Ythncdmijledpnaa
open Go.RowKit Go.Maps

theorem mem_withVar (V : List Int) (n : Int) : n ∈ withVar V n := by
  unfold withVar
  split
  · assumption
  · exact List.mem_append_right _ (List.mem_singleton.2 rfl)

theorem varsL_step (l : List Tm) (k : Nat) (hk : k < l.length) (V : List Int) : T.varsL (Tm.eraseL (l.take (k + 1))) V = T.vars l[k].erase (T.varsL (Tm.eraseL (l.take k)) V) := by
  rw [List.take_succ_eq_append_getElem hk, eraseL_append, T.varsL_append, Tm.eraseL, Tm.eraseL, T.varsL_single]
theorem formedL_erase {l : List Tm} (h : ∀ x ∈ l, x.erase.formed = true) : T.formedL (Tm.eraseL l) = true := by
  induction l with
  | nil => rw [Tm.eraseL, T.formedL]
  | cons x xs ih =>
    rw [Tm.eraseL, T.formedL, h x (List.mem_cons_self ..), ih fun y hy => h y (List.mem_cons_of_mem _ hy)]
    rfl
theorem mapL_step (l : List Tm) (hf : ∀ x ∈ l, x.erase.formed = true) (k : Nat) (hk : k < l.length) (d : Int) (V : List Int) :
    T.mapL (swapF d (T.varsL (Tm.eraseL (l.take (k + 1))) V)) (Tm.eraseL (l.take (k + 1))) =
      T.mapL (swapF d (T.varsL (Tm.eraseL (l.take k)) V)) (Tm.eraseL (l.take k)) ++ [T.map (swapF d (T.vars l[k].erase (T.varsL (Tm.eraseL (l.take k)) V))) l[k].erase] := by
  rw [T.mapL_erase _ l k hk, varsL_step l k hk V]
  congr 1
  exact T.mapL_swap (T.vars_prefix _ _) (T.varsL_within _ _ (formedL_erase fun x hx => hf x (List.mem_of_mem_take hx)))

end Go.Proofs.Ythncdmijledpnaa

namespace Go.Proofs.Ythncdmijledpnaa
open Go.RowKit Go.Maps

theorem RenSt.below {d : Int} {V : List Int} {N M F B : Nat} {w w' : World} (h : RenSt d V N M F w) (hg : Below B w w') (hN : N < B) (hM : M < B) (hF : F < B) : RenSt d V N M F w' :=
  ⟨(hg.block N hN).trans h.box, (hg.block F hF).trans h.next, h.map.same (hg.block M hM), h.apart⟩

theorem Built.kp {C : Nat → Prop} {w w' : World} {B : Nat} {v : Value} {l : List Tm} (h : Built w B (fun _ => False) v l) (hg : Kp C w w') (hC : ∀ b, B ≤ b → ¬ C b) : Built w' B (fun _ => False) v l := by
  obtain ⟨h1, h2, h3⟩ := h
  refine ⟨⟨h1.1, h1.2.imp id ?_⟩, Tm.InL.same (fun b hb o => World.cell?_of_block (hg.block b hb.2.1 (hC b (hb.1.resolve_left id)))) h2 h3, h3.mono fun b hb => ⟨hb.1, Nat.lt_of_lt_of_le hb.2.1 hg.size, hb.2.2⟩⟩
  rintro ⟨g, cap, cur, rfl, h5, h6, h7⟩
  exact ⟨g, cap, cur, rfl, h5, by rw [hg.block g (Array.getElem?_eq_some_iff.1 h6).1 (hC g h5)]; exact h6, h7⟩

theorem start_ren (w : World) (d : Int) : RenSt d [] (w.heap.size + 2) (w.heap.size + 1) w.heap.size (((w.alloc (.cells #[.int .i64 d] 2)).alloc (.map #[] 0)).alloc (.cells #[.map (some (w.heap.size + 1))] 149)) := by
  have s1 : (w.alloc (.cells #[.int .i64 d] 2)).heap.size = w.heap.size + 1 := World.size_alloc ..
  have s2 : ((w.alloc (.cells #[.int .i64 d] 2)).alloc (.map #[] 0)).heap.size = w.heap.size + 2 := by rw [World.size_alloc, s1]
  refine ⟨?_, ?_, ?_, ⟨by omega, by omega, by omega⟩⟩
  · rw [← s2]; exact heap_alloc_new _ _
  · rw [heap_alloc_old _ _ (by rw [s2]; omega), heap_alloc_old _ _ (by rw [s1]; omega), heap_alloc_new]
    simp
  · have h := NumMap.made (w.alloc (.cells #[.int .i64 d] 2)) d
    rw [s1] at h
    exact h.same (heap_alloc_old _ _ (by rw [s2]; omega))

end Go.Proofs.Ythncdmijledpnaa
