/-
  term.Map with a function that keeps nothing, term.Copy.
  term.Map with the function of term.Renamed.
  Maps that a program keeps: what they hold.
  Blocks of any type; new slices of one term and of two; append of nothing.
  base.body
-/
import Derived.Test.YtjdoflfdlhpbmaaGreatBF03
import Derived.Test.YtjdoflfdlhpbmaaGreatBF05
import Derived.Test.YtjdoflfdlhpbmaaGreatBF02
import Derived.Maps.OwnOps
import Derived.Maps.Views
import Derived.WideKeyEntry
import Derived.DeepKeys4
import Derived.Test.YtjdoflfdlhpbmaaGreatBF04
import Derived.Lib.AppendZeros
namespace Go.Proofs.YtjdoflfdlhpbmaaGreat
open Go.RowKit

/-- A function value that may be called: what it makes of a variable, whatever has grown since. -/
def MapFn (fv : Value) (S : Nat → Prop) (f : Int → T) (w0 : World) : Prop :=
  (∀ b, S b → b < w0.heap.size) ∧ ∃ (fid : FuncId) (cap : Array Value), fv = .func (.func fid) #[] cap ∧ (∀ (n : Int) (w : World), (callFunc fid (#[.int .i64 n] ++ cap)).run Tryz.prog w = .ok (.enter fid (#[.int .i64 n] ++ cap)) w) ∧
    ∀ (n : Int) (w : World), Gr w0 w → In64 n → Calls Tryz.prog fid (#[.int .i64 n] ++ cap) w (RetTm (fun b => S b ∨ w.heap.size ≤ b) (f n) w)

theorem MapFn.gr {fv : Value} {S : Nat → Prop} {f : Int → T} {w0 w1 : World} (h : MapFn fv S f w0) (hg : Gr w0 w1) : MapFn fv S f w1 := by
  obtain ⟨h0, fid, cap, h1, h2, h3⟩ := h
  exact ⟨fun b hb => Nat.lt_of_lt_of_le (h0 b hb) hg.size, fid, cap, h1, h2, fun n w hw hn => h3 n w (hg.trans hw) hn⟩

theorem in_after' {w2 W : World} {tb : Tm} {S : Nat → Prop} (hin : tb.In w2) (hon : tb.On S) (hc : ∀ b, S b → b < w2.heap.size → ∀ o, W.cell? ⟨b, o, none⟩ = w2.cell? ⟨b, o, none⟩) : tb.In W :=
  Tm.In.same (S := fun b => S b ∧ b < w2.heap.size) (fun b hb o => hc b hb.1 hb.2 o) hin (Tm.On.and hon (Tm.In.on hin))

theorem infoTermM : (Tryz.prog.info? 24).map (fun i => (i.zero, i.size, i.bytes)) = some (some (.agg #[.int .i64 0, .int .i64 0, .string ⟨#[]⟩, .slice none 0 0]), 4, 56) := by kernel_rfl

theorem after_make {w w1 : World} {v0 v1 v2 v3 u0 u1 u2 u3 : Value} (h : ((w.alloc (.cells #[v0, v1, v2, v3] 24)).alloc (.cells #[u0, u1, u2, u3] 24)).grownBy w1 none) :
    Blk4 w1 w.heap.size v0 v1 v2 v3 ∧ Hid (Blk4 w1 w.heap.size v0 v1 v2 v3 ∧ Blk4 w1 (w.heap.size + 1) u0 u1 u2 u3 ∧ Gr w w1) := by
  have hg0 := grownBy_below h (Nat.le_refl _) (fun _ h => by cases h)
  have h1 : Blk4 w1 w.heap.size v0 v1 v2 v3 := Blk4.gr (Blk4.old (Blk4.new w _ _ _ _) _) hg0
  refine ⟨h1, h1, Blk4.gr ?_ hg0, below_step hg0 (by go_grown)⟩
  have := Blk4.new (w.alloc (.cells #[v0, v1, v2, v3] 24)) u0 u1 u2 u3
  simpa only [World.size_alloc] using this

theorem fill_made {w w1 : World} {o1 o2 : Obj} {S : Nat → Prop} {n : Nat} {xs : List Value} (h : w1.ownsRow w.heap.size 24 4 (.slice (some ⟨((w.alloc o1).alloc o2).heap.size, 0, none⟩) n n) n xs) :
    Hid (Filling w1 (w.heap.size + 1 + 1) S (w.heap.size + 1 + 1) n []) := Filling.new (Nat.le_refl _) (by simpa only [World.size_alloc] using h)

set_option maxHeartbeats 2000000 in
set_option maxRecDepth 100000 in
theorem map_var (n : Int) (s : ByteArray) (p : Option Addr) (c : Nat) (l : List Tm) (fv : Value) (S : Nat → Prop) (f : Int → T) (w : World) (h : (Tm.mk 1 n s p c l).In w) (hf : MapFn fv S f w) :
    Calls Tryz.prog 49 #[(Tm.mk 1 n s p c l).val, fv] w (RetTm (fun b => S b ∨ w.heap.size ≤ b) (f n) w) := by
  rw [Tm.In] at h
  obtain ⟨hk, hn, hs, hlc, hc, hp, hIn⟩ := h
  clear hp hIn
  obtain ⟨hS, fid, cap, rfl, hq, hcall⟩ := hf
  have HS := Lib.hid hS
  clear hS
  have Hcall := Lib.hid hcall
  have Hn := Lib.hid hn
  clear hcall
  simp only [Tm.val, Tm.k, Tm.n, Tm.s, Tm.p, Tm.c, Tm.l]
  go_enter Tryz.func49, Tryz.ntmps49
  go_wp2_with fail
  refine (Hcall.out n _ (by go_grown) Hn.out).mono ?_
  rintro e w1 ⟨bm, hin, he, rfl, hb1, hon⟩
  obtain ⟨⟨y0, y1, y2, y3⟩, ⟨f0, f1, f2, f3⟩, hlt⟩ := (Blk4.gr (Blk4.new _ _ _ _ _) hb1).parts
  simp only [World.size_alloc] at y0 y1 y2 y3 f0 f1 f2 f3 hlt hon
  have g1 : Gr w w1 := below_step hb1 (by go_grown)
  have hs0 : w.heap.size + 1 < w1.heap.size := hlt
  have Hin := Lib.hid hin
  have Hon := Lib.hid hon
  have He := Lib.hid he
  clear hin hon he hb1
  obtain ⟨k', n', s', p', c', l'⟩ := bm
  simp only [Tm.val, Tm.k, Tm.n, Tm.s, Tm.p, Tm.c, Tm.l]
  go_wp2_with fail
  refine bodyPost_ret (v := (Tm.mk k' n' s' p' c' l').val) (by simp [results, Tryz.results49, go_sem, Tm.val, Tm.k, Tm.n, Tm.s, Tm.p, Tm.c, Tm.l, y0, y1, y2, y3]) rfl ⟨Tm.mk k' n' s' p' c' l', ?_, He.out, rfl, by go_grown, Hon.out.mono fun b hb => hb.imp id fun h => by omega⟩
  exact in_after' Hin.out Hon.out fun b h1 h2 o => by
    have : b ≠ w.heap.size + 1 := by rcases h1 with h1 | h1; · have := HS.out b h1; omega
                                     · omega
    rw [cell_set_ne this, cell_set_ne this, cell_set_ne this, cell_set_ne this]

set_option maxHeartbeats 2000000 in
set_option maxRecDepth 100000 in
theorem map_leaf (k n : Int) (s : ByteArray) (p : Option Addr) (c : Nat) (l : List Tm) (fv : Value) (w : World) (h : (Tm.mk k n s p c l).In w) (hk1 : k ≠ 1) (hk4 : k ≠ 4) :
    Calls Tryz.prog 49 #[(Tm.mk k n s p c l).val, fv] w (RetTm (w.heap.size ≤ ·) (.mk k n s.toList []) w) := by
  rw [Tm.In] at h
  obtain ⟨hk, hn, hs, hlc, hc, hp, hIn⟩ := h
  clear hp hIn
  have hk1' : (k == 1) = false := beq_eq_false_iff_ne.2 hk1
  have hk4' : (k == 4) = false := beq_eq_false_iff_ne.2 hk4
  have Hk := Lib.hid hk
  have Hn := Lib.hid hn
  have Hs := Lib.hid hs
  clear hk1 hk4 hk hn hs
  simp only [Tm.val, Tm.k, Tm.n, Tm.s, Tm.p, Tm.c, Tm.l]
  go_enter Tryz.func49, Tryz.ntmps49
  go_wp2_with fail
  refine bodyPost_ret (v := (Tm.mk k n s none 0 []).val) (by simp [results, Tryz.results49, go_sem, Tm.val, Tm.k, Tm.n, Tm.s, Tm.p, Tm.c, Tm.l]) rfl ⟨Tm.mk k n s none 0 [], ?_, by simp [Tm.erase, Tm.eraseL], rfl, by go_grown, ?_⟩
  · rw [Tm.In, Tm.InL]
    exact ⟨Hk.out, Hn.out, Hs.out, Nat.le_refl _, ⟨by simp, by omega⟩, .inl rfl, trivial⟩
  · rw [Tm.On, Tm.OnL]; exact ⟨.inl rfl, trivial⟩

set_option maxHeartbeats 4000000 in
set_option maxRecDepth 100000 in
theorem map_any (N : Nat) : ∀ (t : Tm) (fv : Value) (S : Nat → Prop) (f : Int → T) (w : World), SizeOf.sizeOf t ≤ N → t.In w → t.erase.formed = true → MapFn fv S f w →
    Calls Tryz.prog 49 #[t.val, fv] w (RetTm (fun b => S b ∨ w.heap.size ≤ b) (T.map f t.erase) w) := by
  induction N with
  | zero => intro t fv S f w h; cases t; simp at h
  | succ N ih =>
    intro t fv S f w hN h hfm hf
    obtain ⟨k, n, s, p, c, l⟩ := t
    by_cases hk1 : k = 1
    · subst hk1
      rw [Tm.erase, T.map, if_pos rfl]
      exact map_var n s p c l fv S f w h hf
    by_cases hk4 : k = 4
    · subst hk4
      obtain ⟨rfl, h100, hl1, hl50, hfl⟩ := formed_elem rfl hfm
      have hsz := fun x (hx : x ∈ l) => Tm.sizeOf_mem hx 4 0 s p c
      have HT := Lib.hid h
      have HSl := Lib.hid h.sl
      rw [Tm.In] at h
      obtain ⟨hk, hn, hs, hlc, hc, hp, hIn⟩ := h
      obtain ⟨b, o, rfl⟩ := HSl.out.ptr (by omega)
      have hbl : b < w.heap.size := Tm.row_lt (by rcases hp with rfl | ⟨b', o', he, hr⟩; · simp at hl1
                                                  · cases he; exact hr) (by rintro rfl; simp at hl1)
      obtain ⟨hS, fid, cap, rfl, hq, hcall⟩ := hf
      have HS := Lib.hid hS
      have Hf : Hid (MapFn (.func (.func fid) #[] cap) S f w) := ⟨hS, fid, cap, rfl, hq, hcall⟩
      have Hih := Lib.hid ih
      have Hsz := Lib.hid hsz
      have Hfl := Lib.hid hfl
      have Hs := Lib.hid hs
      clear hp hIn hcall hS hq ih hsz hfl hk hn hfm
      obtain ⟨i0, hi, hz0, hz1, hz2⟩ := info_parts infoTermM
      have Hi := Lib.hid hi
      clear hi
      rw [Tm.erase, T.map, if_neg (by decide), if_pos rfl]
      simp only [Tm.val, Tm.k, Tm.n, Tm.s, Tm.p, Tm.c, Tm.l]
      go_enter Tryz.func49, Tryz.ntmps49
      go_wp2_with
        (refine wpList_make_full _ rfl _ _ 22 rfl (w.heap.size) 24 i0 _ 4 Tryz.underlying22 Hi.out hz0 hz1 .i64 .i64 _ _ l.length rfl rfl rfl rfl (by rw [hz2]; omega) (by simp only [maxLen]; omega) (by simp; omega) ?_
         intro w1 hown hgrow
         have HF := fill_made (S := S) hown
         have HA := (after_make hgrow).2
         obtain ⟨⟨b0, b1, b2, b3⟩, _, _⟩ := (after_make hgrow).1.parts
         clear hown hgrow)
      obtain ⟨HB, HR, g1⟩ := HA.out
      replace HB := Lib.hid HB
      replace HR := Lib.hid HR
      have hg2 : w.heap.size + 1 + 1 < w1.heap.size := HF.out.lt
      clear b0 b1 b2 b3 HA
      go_loopw [25] (fun i wr => ∃ k : Nat, k ≤ l.length ∧ i = .int .i64 k ∧ Hid (∃ lm : List Tm, lm.length = k ∧ Tm.eraseL lm = T.mapL f (Tm.eraseL (l.take k)) ∧ Filling wr (w.heap.size + 1 + 1) S (w.heap.size + 1 + 1) l.length lm) ∧ Below (w.heap.size + 1 + 1) w1 wr)
        (fun i _ => l.length - (intOf i).toNat)
      case atStart => exact ⟨0, Nat.zero_le _, rfl, ⟨[], rfl, by simp [T.mapL, Tm.eraseL], HF.out⟩, Below.refl _ _⟩
      case round =>
        obtain ⟨k, hk, rfl, hlm, hb⟩ := hrel
        have hbs := hb.size
        have gr : Gr w wr := Below.trans g1 (hb.mono (by omega))
        have HB' : Hid _ := Lib.hid (HB.out.below hb (by omega))
        have HR' : Hid _ := Lib.hid (HR.out.below hb (by omega))
        by_cases hlt : k < l.length
        · obtain ⟨⟨c0, c1, c2, c3⟩, hx, _⟩ := (HSl.out.mono gr).elem k hlt
          have Hx := Lib.hid hx
          have hmem : l[k] ∈ l := List.getElem_mem hlt
          have Hz := Hsz.out _ hmem
          have Hfx := Lib.hid (Hfl.out _ hmem)
          have Htk : Hid (T.mapL f (Tm.eraseL (l.take (k + 1))) = T.mapL f (Tm.eraseL (l.take k)) ++ [T.map f l[k].erase]) := T.mapL_erase f l k hlt
          clear hx hmem
          generalize hxe : l[k] = x at *
          go_wp2_with fail
          refine (Hih.out x _ S f _ (by omega) (Tm.In_below (by go_grown) Hx.out) Hfx.out (Hf.out.gr (by go_grown))).mono ?_
          rintro e w2 ⟨xm, hin, he, rfl, hb2, hon⟩
          obtain ⟨lm, hl0, he0, hF⟩ := hlm.out
          have hF2 : Filling w2 (w.heap.size + 1 + 1) S (w.heap.size + 1 + 1) l.length lm := Filling.gr (w := wr) hF (below_step hb2 (by go_grown))
          have HF2 := Lib.hid hF2
          have g2 : Below (w.heap.size + 1 + 1) w1 w2 := Below.trans hb ((show Gr wr w2 from below_step hb2 (by go_grown)).mono (by omega))
          obtain ⟨⟨q0, r0⟩, fr0⟩ := hF2.spot (j := k * 4) (by omega)
          obtain ⟨⟨q1, r1⟩, fr1⟩ := hF2.spot (j := k * 4 + 1) (by omega)
          obtain ⟨⟨q2, r2⟩, fr2⟩ := hF2.spot (j := k * 4 + 2) (by omega)
          obtain ⟨⟨q3, r3⟩, fr3⟩ := hF2.spot (j := k * 4 + 3) (by omega)
          have hs2 := hb2.size
          simp only [World.size_alloc] at hs2 hon
          have Hl0 := Lib.hid hl0
          have He0 := Lib.hid he0
          have Hin := Lib.hid hin
          have Hon := Lib.hid hon
          have He := Lib.hid he
          clear hF hF2 hl0 he0 hin hon he hb2 hlm
          obtain ⟨k', n', s', p', c', l'⟩ := xm
          simp only [Tm.val, Tm.k, Tm.n, Tm.s, Tm.p, Tm.c, Tm.l]
          go_wp2_with fail
          go_roundw
          case rel =>
            refine ⟨k + 1, by omega, by go_num, ⟨lm ++ [.mk k' n' s' p' c' l'], by simp [Hl0.out], by rw [eraseL_append, He0.out, Htk.out]; simp [Tm.eraseL, He.out], ?_⟩, by go_grown⟩
            have := HF2.out.store (x := .mk k' n' s' p' c' l') (by rw [Hl0.out]; exact hlt) Hin.out (Hon.out.mono fun b hb => ?_)
            · rw [Hl0.out] at this
              simpa only [Tm.k, Tm.n, Tm.s, Tm.p, Tm.c, Tm.l] using this
            · rcases hb with hb | hb
              · exact ⟨.inl hb, by have := HS.out b hb; omega⟩
              · exact ⟨.inr (by omega), by omega⟩
          case measure => simp [intOf]; omega
        · obtain rfl : k = l.length := by omega
          obtain ⟨lm, hl0, he0, hF⟩ := hlm.out
          obtain ⟨⟨b0, b1, b2, b3⟩, ⟨e0, e1, e2, e3⟩, hbs1⟩ := HB'.out.parts
          obtain ⟨⟨y0, y1, y2, y3⟩, ⟨f0, f1, f2, f3⟩, hbs2⟩ := HR'.out.parts
          have HF := Lib.hid hF
          have Hl0 := Lib.hid hl0
          have He0 := Lib.hid he0
          clear hF hl0 he0 hlm
          go_wp2_with fail
          refine bodyPost_ret (v := (Tm.mk 4 0 s (some ⟨w.heap.size + 1 + 1, 0, none⟩) l.length lm).val) (by simp [results, Tryz.results49, go_sem, Tm.val, Tm.k, Tm.n, Tm.s, Tm.p, Tm.c, Tm.l, Hl0.out, y0, y1, y2, y3]) rfl ⟨_, ?_, ?_, rfl, by go_grown, ?_⟩
          · have hsl := HF.out.sl Hl0.out (by omega)
            have hin : (Tm.mk 4 0 s (some ⟨w.heap.size + 1 + 1, 0, none⟩) l.length lm).In wr := compTm_in Hs.out hsl.1
            have hon : (Tm.mk 4 0 s (some ⟨w.heap.size + 1 + 1, 0, none⟩) l.length lm).On (fun b => S b ∨ w.heap.size + 1 + 1 ≤ b) := by rw [Tm.On]; exact hsl.2
            exact in_after' hin hon fun b h1 h2 o => by
              have : b ≠ w.heap.size ∧ b ≠ w.heap.size + 1 := by
                rcases h1 with h1 | h1
                · have := HS.out b h1; omega
                · omega
              rw [cell_set_ne this.2, cell_set_ne this.2, cell_set_ne this.2, cell_set_ne this.2, cell_set_ne this.1]
          · rw [Tm.erase, He0.out, List.take_length]
          · have hsl := HF.out.sl Hl0.out (by omega)
            rw [Tm.On]
            exact ⟨hsl.2.1.imp id fun ⟨b, o, h1, h2⟩ => ⟨b, o, h1, h2.imp id fun h => by omega⟩, hsl.2.2.mono fun b hb => hb.imp id fun h => by omega⟩
    · rw [Tm.erase, T.map, if_neg hk1, if_neg hk4]
      exact (map_leaf k n s p c l fv w h hk1 hk4).mono fun e w' ⟨bm, h1, h2, h3, h4, h5⟩ => ⟨bm, h1, h2, h3, h4, h5.mono fun b hb => .inr hb⟩


mutual
theorem T.map_varT : ∀ {t : T}, t.formed = true → T.map varT t = t
  | .mk k n s l, h => by
    rw [T.formed] at h
    rw [T.map]
    by_cases h1 : k = 1
    · subst h1
      simp at h
      rw [if_pos rfl, varT, h.1.2, h.2]
    · rw [if_neg h1] at h ⊢
      by_cases h4 : k = 4
      · subst h4
        simp at h
        rw [if_pos rfl, T.mapL_varT h.2]
      · rw [if_neg h4]
        by_cases h2 : k = 2
        · subst h2
          simp at h
          rw [h.2]
        · by_cases h3 : k = 3
          · subst h3
            simp at h
            rw [h.2]
          · simp [h2, h3, h4] at h
theorem T.mapL_varT : ∀ {l : List T}, T.formedL l = true → T.mapL varT l = l
  | [], _ => by rw [T.mapL]
  | x :: xs, h => by
    rw [T.formedL, Bool.and_eq_true] at h
    rw [T.mapL, T.map_varT h.1, T.mapL_varT h.2]
end

theorem map_calls {t : Tm} {fv : Value} {S : Nat → Prop} {f : Int → T} {w : World} (h : t.In w) (hf : t.erase.formed = true) (hm : MapFn fv S f w) :
    Calls Tryz.prog 49 #[t.val, fv] w (RetTm (fun b => S b ∨ w.heap.size ≤ b) (T.map f t.erase) w) := map_any _ t fv S f w (Nat.le_refl _) h hf hm

theorem mapFn_V (w : World) : MapFn (.func (.func 45) #[] #[]) (fun _ => False) varT w :=
  ⟨fun _ h => h.elim, 45, #[], rfl, fun n w => by kernel_rfl, fun n w _ hn => (v_calls n w hn).mono fun e w' ⟨b, h1, h2, h3, h4, h5⟩ => ⟨b, h1, h2, h3, h4, h5.mono fun b hb => .inr hb⟩⟩

set_option maxHeartbeats 400000 in
/-- term.Copy: the same term in new memory. -/
theorem copy_calls {t : Tm} {w : World} (h : t.In w) (hf : t.erase.formed = true) : Calls Tryz.prog 53 #[t.val] w (RetTm (w.heap.size ≤ ·) t.erase w) := by
  have H := Lib.hid h
  have Hf := Lib.hid hf
  clear h hf
  simp only [Tm.val]
  go_enter Tryz.func53, Tryz.ntmps53
  go_wp2_with fail
  refine (map_calls (t := t) (Tm.In_below (by go_grown) H.out) Hf.out (mapFn_V _)).mono ?_
  rw [T.map_varT Hf.out]
  rintro e w1 ⟨bm, hin, he, rfl, hb1, hon⟩
  obtain ⟨⟨y0, y1, y2, y3⟩, ⟨f0, f1, f2, f3⟩, hlt⟩ := (Blk4.gr (Blk4.new _ _ _ _ _) hb1).parts
  simp only [World.size_alloc] at y0 y1 y2 y3 f0 f1 f2 f3 hlt hon
  have g1 : Gr w w1 := below_step hb1 (by go_grown)
  have Hin := Lib.hid hin
  have Hon := Lib.hid hon
  have He := Lib.hid he
  clear hin hon he hb1
  obtain ⟨k', n', s', p', c', l'⟩ := bm
  simp only [Tm.val, Tm.k, Tm.n, Tm.s, Tm.p, Tm.c, Tm.l]
  go_wp2_with fail
  refine bodyPost_ret (v := (Tm.mk k' n' s' p' c' l').val) (by simp [results, Tryz.results53, go_sem, Tm.val, Tm.k, Tm.n, Tm.s, Tm.p, Tm.c, Tm.l, y0, y1, y2, y3]) rfl ⟨Tm.mk k' n' s' p' c' l', ?_, He.out, rfl, by go_grown, Hon.out.mono fun b hb => hb.elim (fun h => h.elim) fun h => by omega⟩
  exact in_after' Hin.out Hon.out fun b h1 h2 o => by
    have : b ≠ w.heap.size + 1 := by rcases h1 with h1 | h1; · exact h1.elim
                                     · omega
    rw [cell_set_ne this, cell_set_ne this, cell_set_ne this, cell_set_ne this]

end Go.Proofs.YtjdoflfdlhpbmaaGreat

namespace Go.Proofs.YtjdoflfdlhpbmaaGreat
open Go.RowKit Go.Maps

theorem Kp.set4 {C : Nat → Prop} {W : World} {R o1 o2 o3 o4 : Nat} {a b c e : Value} (hC : C R) :
    Kp C W ((((W.setCell ⟨R, o1, none⟩ a).setCell ⟨R, o2, none⟩ b).setCell ⟨R, o3, none⟩ c).setCell ⟨R, o4, none⟩ e) := (((Kp.set hC).trans (Kp.set hC)).trans (Kp.set hC)).trans (Kp.set hC)
theorem Blk4.kp {C : Nat → Prop} {w w' : World} {b : Nat} {v0 v1 v2 v3 : Value} (h : Blk4 w b v0 v1 v2 v3) (hg : Kp C w w') (hb : ¬ C b) : Blk4 w' b v0 v1 v2 v3 := (hg.block b (Array.getElem?_eq_some_iff.1 h).1 hb).trans h

/-- What the function touches. -/
abbrev MF (M F : Nat) : Nat → Prop := fun b => b = M ∨ b = F

def RetRen (d : Int) (V : List Int) (t : T) (N M F : Nat) (w : World) (e : Ending) (w' : World) : Prop :=
  ∃ bm : Tm, bm.In w' ∧ bm.erase = T.map (swapF d (T.vars t V)) t ∧ e = .returned bm.val ∧ RenSt d (T.vars t V) N M F w' ∧ Kp (MF M F) w w' ∧ bm.On (w.heap.size ≤ ·)

theorem Filling.kp {C : Nat → Prop} {w w' : World} {B : Nat} {g n : Nat} {l : List Tm} (h : Filling w B (fun _ => False) g n l) (hg : Kp C w w') (hC : ∀ b, B ≤ b → ¬ C b) : Filling w' B (fun _ => False) g n l := by
  obtain ⟨h1, h2, ⟨cur, h3, h4⟩, h5, h6⟩ := h
  refine ⟨h1, h2, ⟨cur, (hg.block g (Array.getElem?_eq_some_iff.1 h3).1 (hC g h1)).trans h3, h4⟩, Tm.InL.same (fun b hb o => World.cell?_of_block (hg.block b hb.2.1 (hC b (hb.1.resolve_left id)))) h5 h6,
    h6.mono fun b hb => ⟨hb.1, Nat.lt_of_lt_of_le hb.2.1 hg.size, hb.2.2⟩⟩

theorem two_blocks (w : World) (v0 v1 v2 v3 u0 u1 u2 u3 : Value) :
    Hid (Blk4 ((w.alloc (.cells #[v0, v1, v2, v3] 24)).alloc (.cells #[u0, u1, u2, u3] 24)) w.heap.size v0 v1 v2 v3) ∧
    Hid (Blk4 ((w.alloc (.cells #[v0, v1, v2, v3] 24)).alloc (.cells #[u0, u1, u2, u3] 24)) (w.heap.size + 1) u0 u1 u2 u3) ∧
    Gr w ((w.alloc (.cells #[v0, v1, v2, v3] 24)).alloc (.cells #[u0, u1, u2, u3] 24)) := by
  have h1 := Blk4.new (w.alloc (.cells #[v0, v1, v2, v3] 24)) u0 u1 u2 u3
  rw [World.size_alloc] at h1
  exact ⟨Blk4.old (Blk4.new w _ _ _ _) _, h1, by go_grown⟩
theorem varTm_val (n : Int) : (varTm n).val = .agg #[.int .i64 1, .int .i64 n, .string ⟨#[]⟩, .slice none 0 0] := rfl

set_option maxHeartbeats 1000000 in
set_option maxRecDepth 100000 in
theorem mapRen_var (d : Int) (V : List Int) (n : Int) (s : ByteArray) (p : Option Addr) (c : Nat) (l : List Tm) (N M F : Nat) (w : World) (hn : 0 ≤ n ∧ n ≤ 1099511627776) (hd : 0 ≤ d ∧ d ≤ 1099511627777) (hV : VarsOk V) (h : RenSt d V N M F w) :
    Calls Tryz.prog 49 #[(Tm.mk 1 n s p c l).val, .func (.func 50) #[] #[.pointer (some ⟨N, 0, none⟩), .pointer (some ⟨F, 0, none⟩)]] w fun e w' =>
      e = .returned (varTm (d + ((withVar V n).idxOf n : Int))).val ∧ RenSt d (withVar V n) N M F w' ∧ Kp (MF M F) w w' := by
  generalize hQ : (fun (e : Ending) (w' : World) => e = .returned (varTm (d + ((withVar V n).idxOf n : Int))).val ∧ RenSt d (withVar V n) N M F w' ∧ Kp (MF M F) w w') = Q
  have hR : Hid (∀ w', RenSt d (withVar V n) N M F w' → Kp (MF M F) w w' → Q (.returned (varTm (d + ((withVar V n).idxOf n : Int))).val) w') := fun w' h1 h2 => by rw [← hQ]; exact ⟨rfl, h1, h2⟩
  clear hQ
  have hlen := hV.len
  obtain ⟨hlN, hlM, hlF⟩ := h.lts
  have hen : ∀ args w, (callFunc 50 args).run Tryz.prog w = .ok (.enter 50 args) w := fun args w => by kernel_rfl
  have hc := Lib.hid (fun W (hW : Gr w W) => rename1_calls d V N M F n W (h.gr hW) ⟨by omega, by omega⟩ ⟨⟨by omega, by omega⟩, by omega, by omega⟩ (by unfold maxLen; omega))
  clear h
  generalize d + ((withVar V n).idxOf n : Int) = m at *
  simp only [Tm.val, Tm.k, Tm.n, Tm.s, Tm.p, Tm.c, Tm.l]
  go_enter Tryz.func49, Tryz.ntmps49
  try simp only [List.append_eq, List.cons_append, List.nil_append]
  go_upto_region 1 with fail
  obtain ⟨HB, HR, gA⟩ := two_blocks w (.int .i64 1) (.int .i64 n) (.string s) (.slice p l.length c) (.int .i64 0) (.int .i64 0) (.string ⟨#[]⟩) (.slice none 0 0)
  generalize (w.alloc (.cells #[.int .i64 1, .int .i64 n, .string s, .slice p l.length c] 24)).alloc (.cells #[.int .i64 0, .int .i64 0, .string ⟨#[]⟩, .slice none 0 0] 24) = wA at *
  obtain ⟨⟨b0, b1, b2, b3⟩, _, _⟩ := HB.out.parts
  go_wp2_with (first
    | (go_at_call 50; refine (hc.out _ gA).mono ?_; rintro e w' ⟨rfl, hs, hk⟩; rewrite [varTm_val]; have HS := Lib.hid hs; have HK := Lib.hid hk; obtain ⟨⟨y0, y1, y2, y3⟩, ⟨f0, f1, f2, f3⟩, hlt⟩ := (HR.out.kp hk (by omega)).parts; clear hs hk b0 b1 b2 b3)
    | fail)
  refine bodyPost_ret (v := (varTm m).val) (by simp [results, Tryz.results49, go_sem, varTm, Tm.val, Tm.k, Tm.n, Tm.s, Tm.p, Tm.c, Tm.l, y0, y1, y2, y3]) rfl ?_
  exact hR.out _ (HS.out.kp (Kp.set4 (C := fun b => b = w.heap.size + 1) rfl) (by omega) (by omega) (by omega))
    ((((Kp.of_gr gA).trans (HK.out.mono (C' := fun b => MF M F b ∨ b = w.heap.size + 1) fun _ h => .inl h)).trans (Kp.set4 (.inr rfl))).weaken fun b hb hc => hc.resolve_right (by omega))
end Go.Proofs.YtjdoflfdlhpbmaaGreat

namespace Go.Proofs.YtjdoflfdlhpbmaaGreat
open Go.RowKit Go.Maps

/-- Block b is a map: it holds just what f says. -/
def GMap {K : Type} (k : TypeId) (κ : K → Value) (w : World) (b : Nat) (f : K → Option Value) : Prop :=
  ∃ (E : Array MapEntry) (c : Nat), w.heap[b]? = some (.map E c) ∧ (∀ e ∈ E.toList, ∃ l, keyOf Tryz.prog k e.key = some l) ∧ (E.toList.map (·.key)).Nodup ∧
    ∀ x v, f x = some v ↔ ∃ e ∈ E.toList, e.key = κ x ∧ e.val = v

section
variable {K : Type} {k : TypeId} {κ : K → Value} {w w' : World} {b : Nat} {f : K → Option Value}
theorem GMap.lt (h : GMap k κ w b f) : b < w.heap.size := by
  obtain ⟨E, c, h1, _⟩ := h
  exact (Array.getElem?_eq_some_iff.1 h1).1
theorem GMap.same (h : GMap k κ w b f) (hb : w'.heap[b]? = w.heap[b]?) : GMap k κ w' b f := by
  obtain ⟨E, c, h1, h2⟩ := h
  exact ⟨E, c, hb.trans h1, h2⟩
theorem GMap.gr (h : GMap k κ w b f) (hg : Gr w w') : GMap k κ w' b f := h.same (hg.block b h.lt)
theorem GMap.kp {C : Nat → Prop} (h : GMap k κ w b f) (hg : Kp C w w') (hb : ¬ C b) : GMap k κ w' b f := h.same (hg.block b h.lt hb)
theorem GMap.made (k : TypeId) (κ : K → Value) (w : World) : GMap k κ (w.alloc (.map #[] 0)) w.heap.size fun _ => none :=
  ⟨#[], 0, heap_alloc_new _ _, (fun _ h => by cases h), List.nodup_nil, fun x v => ⟨(fun h => by cases h), fun ⟨e, he, _⟩ => by cases he⟩⟩
theorem GMap.ext {g : K → Option Value} (h : GMap k κ w b f) (hfg : ∀ x, f x = g x) : GMap k κ w b g := (funext hfg : f = g) ▸ h

set_option maxRecDepth 100000 in
theorem GMap.run (h : GMap k κ w b f) (KK : Keyed Tryz.prog k) {t e : TypeId} (ht : Tryz.prog.underlying t = some (.map k e)) {z : Value} (hz : (zeroValue e).run Tryz.prog w = .ok z w) {x : K} {l : Lit} (hx : keyOf Tryz.prog k (κ x) = some l) :
    (Instr.lookup t (.map (some b)) (κ x) false).run Tryz.prog w = .ok ((f x).getD z) w ∧ (Instr.lookup t (.map (some b)) (κ x) true).run Tryz.prog w = .ok (.tuple #[(f x).getD z, .bool (f x).isSome]) w := by
  obtain ⟨E, c, hb, hk, hn, hf⟩ := h
  rcases KK.find w hx E.toList hk with ⟨h1, h2⟩ | ⟨j, e0, h1, h2, h3⟩
  · have hfx : f x = none := by
      cases hv : f x with
      | none => rfl
      | some v =>
        obtain ⟨e, he, hek, _⟩ := (hf x v).1 hv
        exact absurd hek (h2 e he)
    rw [hfx]
    constructor
    · simp [Instr.lookup, run_underlying ht, MapKept.run_getObj_map hb, KK.check w _ hx, h1, hz, Result.andThen]
    · simp [Instr.lookup, run_underlying ht, MapKept.run_getObj_map hb, KK.check w _ hx, h1, hz, Result.andThen]
  · have hfx : f x = some e0.val := (hf x e0.val).2 ⟨e0, List.mem_of_getElem? h2, h3, rfl⟩
    rw [hfx]
    constructor
    · simp [Instr.lookup, run_underlying ht, MapKept.run_getObj_map hb, KK.check w _ hx, h1, Result.andThen]
    · simp [Instr.lookup, run_underlying ht, MapKept.run_getObj_map hb, KK.check w _ hx, h1, Result.andThen]

theorem setBlock_grown {E : Array MapEntry} {c : Nat} (hb : w.heap[b]? = some (.map E c)) (o : Obj) : w.grownBy (ChangeMaps.setBlock w b o) (some b) :=
  ⟨rfl, rfl, rfl, by simp [ChangeMaps.setBlock], fun i _ hi => ChangeMaps.heap_setBlock_other hb _ (fun e => hi (by rw [e]))⟩

set_option maxRecDepth 100000 in
theorem GMap.update (h : GMap k κ w b f) (KK : Keyed Tryz.prog k) {t e : TypeId} (ht : Tryz.prog.underlying t = some (.map k e)) {x : K} {l : Lit} (hx : keyOf Tryz.prog k (κ x) = some l) (hinj : ∀ y, κ y = κ x → y = x) (v : Value)
    {g : K → Option Value} (hg1 : g x = some v) (hg2 : ∀ y, y ≠ x → g y = f y) :
    ∃ w', (Instr.mapUpdate t (.map (some b)) (κ x) v).run Tryz.prog w = .ok () w' ∧ GMap k κ w' b g ∧ w.grownBy w' (some b) := by
  obtain ⟨E, c, hb, hk, hn, hf⟩ := h
  rcases KK.find w hx E.toList hk with ⟨h1, h2⟩ | ⟨j, e0, h1, h2, h3⟩
  · refine ⟨ChangeMaps.setBlock w b (.map (E.push ⟨κ x, v, c⟩) (c + 1)), ?_, ⟨E.push ⟨κ x, v, c⟩, c + 1, ChangeMaps.heap_setBlock_same hb _, ?_, ?_, ?_⟩, setBlock_grown hb _⟩
    · simp [Instr.mapUpdate, run_underlying ht, MapKept.run_getObj_map hb, KK.check w false hx, h1, MapKept.run_setObj_map _ hb, Result.andThen, ChangeMaps.setBlock]
    · intro e he
      rw [Array.toList_push, List.mem_append, List.mem_singleton] at he
      rcases he with he | rfl
      · exact hk e he
      · exact ⟨l, hx⟩
    · rw [Array.toList_push, List.map_append, List.nodup_append]
      refine ⟨hn, by simp, ?_⟩
      intro a ha d hd
      obtain ⟨e, he, rfl⟩ := List.mem_map.1 ha
      simp only [List.map_cons, List.map_nil, List.mem_singleton] at hd
      subst hd
      exact h2 e he
    · intro y v'
      rw [Array.toList_push]
      by_cases hy : y = x
      · subst hy
        rw [hg1]
        constructor
        · intro h; cases h; exact ⟨⟨κ y, v, c⟩, by simp, rfl, rfl⟩
        · rintro ⟨e, he, he2, rfl⟩
          rcases List.mem_append.1 he with he | he
          · exact absurd he2 (h2 e he)
          · rw [List.mem_singleton.1 he]
      · rw [hg2 y hy, hf y v']
        constructor
        · rintro ⟨e, he, h3⟩; exact ⟨e, List.mem_append_left _ he, h3⟩
        · rintro ⟨e, he, he2, he3⟩
          rcases List.mem_append.1 he with he | he
          · exact ⟨e, he, he2, he3⟩
          · rw [List.mem_singleton.1 he] at he2
            exact absurd (hinj y he2.symm) hy
  · have hj : E[j]? = some e0 := by simpa using h2
    obtain ⟨hjl, hj0⟩ := List.getElem?_eq_some_iff.1 h2
    obtain ⟨A, a, B, hE, hA, hM⟩ := List.exists_of_modify (fun e : MapEntry => { e with key := κ x, val := v }) hjl
    have ha : a = e0 := by
      rw [hE, List.getElem?_append_right (by omega), hA, Nat.sub_self] at h2
      exact Option.some.inj h2
    subst ha
    have hM' : (E.modify j fun e => { e with key := κ x, val := v }).toList = A ++ { a with key := κ x, val := v } :: B := by rw [Array.toList_modify]; exact hM
    have hn2 := hn
    rw [hE, List.map_append, List.map_cons, h3, List.nodup_append, List.nodup_cons] at hn2
    obtain ⟨n1, ⟨n2, n3⟩, n4⟩ := hn2
    refine ⟨ChangeMaps.setBlock w b (.map (E.modify j fun e => { e with key := κ x, val := v }) c), ?_, ⟨E.modify j fun e => { e with key := κ x, val := v }, c, ChangeMaps.heap_setBlock_same hb _, ?_, ?_, ?_⟩, setBlock_grown hb _⟩
    · simp [Instr.mapUpdate, run_underlying ht, MapKept.run_getObj_map hb, KK.check w false hx, h1, hj, h3, KK.stays w hx, MapKept.run_setObj_map _ hb, Result.andThen, ChangeMaps.setBlock]
    · rw [hM']
      intro e he
      rcases List.mem_append.1 he with he | he
      · exact hk e (by rw [hE]; exact List.mem_append_left _ he)
      · rcases List.mem_cons.1 he with rfl | he
        · exact ⟨l, hx⟩
        · exact hk e (by rw [hE]; exact List.mem_append_right _ (List.mem_cons_of_mem _ he))
    · rw [hM', List.map_append, List.map_cons, List.nodup_append, List.nodup_cons]
      exact ⟨n1, ⟨n2, n3⟩, n4⟩
    · intro y v'
      rw [hM']
      by_cases hy : y = x
      · subst hy
        rw [hg1]
        constructor
        · intro h; cases h; exact ⟨{ a with key := κ y, val := v }, by simp, rfl, rfl⟩
        · rintro ⟨e, he, he2, rfl⟩
          rcases List.mem_append.1 he with he | he
          · exact absurd he2 (n4 e.key (List.mem_map_of_mem he) (κ y) (by simp))
          · rcases List.mem_cons.1 he with rfl | he
            · rfl
            · exact absurd (List.mem_map_of_mem (f := (·.key)) he) (by simp only [he2]; exact n2)
      · rw [hg2 y hy, hf y v', hE]
        have hne : κ x ≠ κ y := fun e => hy (hinj y e.symm)
        constructor
        · rintro ⟨e, he, he2, he3⟩
          rcases List.mem_append.1 he with he | he
          · exact ⟨e, List.mem_append_left _ he, he2, he3⟩
          · rcases List.mem_cons.1 he with rfl | he
            · exact absurd (h3.symm.trans he2) hne
            · exact ⟨e, List.mem_append_right _ (List.mem_cons_of_mem _ he), he2, he3⟩
        · rintro ⟨e, he, he2, he3⟩
          rcases List.mem_append.1 he with he | he
          · exact ⟨e, List.mem_append_left _ he, he2, he3⟩
          · rcases List.mem_cons.1 he with rfl | he
            · exact absurd he2 hne
            · exact ⟨e, List.mem_append_right _ (List.mem_cons_of_mem _ he), he2, he3⟩
end
end Go.Proofs.YtjdoflfdlhpbmaaGreat

namespace Go.Proofs.YtjdoflfdlhpbmaaGreat
open Go.RowKit Go.Maps Go.Lib

/-- A new slice of one term. -/
theorem one_new {t : Tm} {w w' : World} (ht : t.In w) (hg : Gr (w.alloc (.cells #[.int .i64 t.k, .int .i64 t.n, .string t.s, .slice t.p t.l.length t.c] 24)) w') : Tm.Sl w' (some ⟨w.heap.size, 0, none⟩) 1 [t] := by
  obtain ⟨⟨y0, y1, y2, y3⟩, _, _⟩ := ((Blk4.new w (.int .i64 t.k) (.int .i64 t.n) (.string t.s) (.slice t.p t.l.length t.c)).gr hg).parts
  exact one_row (Tm.In_below (below_step hg (by go_grown)) ht) y0 y1 y2 y3

theorem tm_val (k n : Int) (s : ByteArray) (p : Option Addr) (c : Nat) (l : List Tm) : (Tm.mk k n s p c l).val = .agg #[.int .i64 k, .int .i64 n, .string s, .slice p l.length c] := rfl

/-- A new slice of two terms. -/
theorem two_new {t u : Tm} {w w' : World} (ht : t.In w) (hu : u.In w)
    (hg : Gr (w.alloc (.cells #[.int .i64 t.k, .int .i64 t.n, .string t.s, .slice t.p t.l.length t.c, .int .i64 u.k, .int .i64 u.n, .string u.s, .slice u.p u.l.length u.c] 24)) w') : Tm.Sl w' (some ⟨w.heap.size, 0, none⟩) 2 [t, u] := by
  have hb : w'.heap[w.heap.size]? = some (.cells #[.int .i64 t.k, .int .i64 t.n, .string t.s, .slice t.p t.l.length t.c, .int .i64 u.k, .int .i64 u.n, .string u.s, .slice u.p u.l.length u.c] 24) :=
    (hg.block w.heap.size (by simp)).trans (heap_alloc_new w _)
  have hw : Gr w w' := below_step hg (by go_grown)
  exact two_row (Tm.In_below hw ht) (Tm.In_below hw hu) (cell_of_row _ _ 0 _ _ _ hb) (cell_of_row _ _ 1 _ _ _ hb) (cell_of_row _ _ 2 _ _ _ hb) (cell_of_row _ _ 3 _ _ _ hb) (cell_of_row _ _ 4 _ _ _ hb) (cell_of_row _ _ 5 _ _ _ hb) (cell_of_row _ _ 6 _ _ _ hb) (cell_of_row _ _ 7 _ _ _ hb)

theorem Blk4.set4 {w : World} {b : Nat} {v0 v1 v2 v3 : Value} (h : Blk4 w b v0 v1 v2 v3) (u0 u1 u2 u3 : Value) : Blk4 ((((w.setCell ⟨b, 0, none⟩ u0).setCell ⟨b, 1, none⟩ u1).setCell ⟨b, 2, none⟩ u2).setCell ⟨b, 3, none⟩ u3) b u0 u1 u2 u3 := by
  have h1 := heap_setCell_same _ b 0 _ _ u0 h
  have h2 := heap_setCell_same _ b 1 _ _ u1 h1
  have h3 := heap_setCell_same _ b 2 _ _ u2 h2
  have h4 := heap_setCell_same _ b 3 _ _ u3 h3
  exact h4

/-- A block that is just these cells. -/
def BlkT (w : World) (b : Nat) (t : TypeId) (vs : Array Value) : Prop := w.heap[b]? = some (.cells vs t)
section
variable {w w' : World} {b : Nat} {t : TypeId} {vs : Array Value}
theorem BlkT.lt (h : BlkT w b t vs) : b < w.heap.size := (Array.getElem?_eq_some_iff.1 h).1
theorem BlkT.gr (h : BlkT w b t vs) (hg : Gr w w') : BlkT w' b t vs := (hg.block b h.lt).trans h
theorem BlkT.kp {C : Nat → Prop} (h : BlkT w b t vs) (hg : Kp C w w') (hb : ¬ C b) : BlkT w' b t vs := (hg.block b h.lt hb).trans h
theorem BlkT.new (w : World) (t : TypeId) (vs : Array Value) : BlkT (w.alloc (.cells vs t)) w.heap.size t vs := heap_alloc_new w _
theorem BlkT.cell (h : BlkT w b t vs) (i : Nat) {v : Value} (hi : vs[i]? = some v) : w.cell? ⟨b, i, none⟩ = some v := by rw [cell_of_row w b i _ _ _ h, hi]
theorem BlkT.open_ (h : BlkT w b t vs) (i : Nat) : w.frozen? ⟨b, i, none⟩ = false := frozen_of_row w b i _ _ h
theorem BlkT.set (h : BlkT w b t vs) (i : Nat) (v : Value) : BlkT (w.setCell ⟨b, i, none⟩ v) b t (vs.setIfInBounds i v) := heap_setCell_same _ b i _ _ v h
end

/-- append of nothing. -/
theorem run_append_empty {P : Program} (w : World) (t ty e : TypeId) (i : TypeInfo) (ht : P.underlying t = some (.slice e)) (hi : P.info? e = some i) (q : Option Addr) (k cp : Nat) (p : Option Addr) (c : Nat) (hk : k ≤ cp) :
    (Builtin.append_ #[t, t] ty #[.slice q k cp, .slice p 0 c]).run P w = .ok (.slice q k cp) w := by
  have h0 : (Builtin.firstCells i.size 0 (.slice p 0 c)).run P w = .ok #[] w := by
    cases p with
    | none => exact run_firstCells_none w _ _ _ _
    | some a => exact run_firstCells_some w i.size 0 a 0 c [] (by simp) (by simp)
  cases q <;> simp [Builtin.append_, run_underlying ht, Go.sizeOf, typeInfo, hi, hk, h0, Builtin.lenOf, storeCells]
end Go.Proofs.YtjdoflfdlhpbmaaGreat

namespace Go.Proofs.YtjdoflfdlhpbmaaGreat
open Go.RowKit

/-- A body is handed back, and whether there is one. -/
def RetBody (S : Nat → Prop) (r : Option T) (w : World) (e : Ending) (w' : World) : Prop :=
  ∃ (bm : Tm) (ok : Bool), e = .returned (.tuple #[bm.val, .bool ok]) ∧ bm.In w' ∧ ok = r.isSome ∧ (∀ u, r = some u → bm.erase = u) ∧ Gr w w' ∧ bm.On fun b => S b ∨ w.heap.size ≤ b

theorem bl44 : (ByteArray.mk #[44]).toList = [44] := by rw [ByteArray.toList_mk]
theorem bl59 : (ByteArray.mk #[59]).toList = [59] := by rw [ByteArray.toList_mk]
theorem bl4562 : (ByteArray.mk #[45, 62]).toList = [45, 62] := by rw [ByteArray.toList_mk]
theorem blCall : (ByteArray.mk #[99, 97, 108, 108]).toList = sCallT := by rw [ByteArray.toList_mk]; rfl
theorem blTrue : (ByteArray.mk #[116, 114, 117, 101]).toList = sTrue := by rw [ByteArray.toList_mk]; rfl
theorem blNeck : (ByteArray.mk #[58, 45]).toList = sNeck := by rw [ByteArray.toList_mk]; rfl


def bodyOf (t : Tm) : Prop := ∀ (S : Nat → Prop) (w : World), t.In w → t.erase.formed = true → t.On S → (∀ b, S b → b < w.heap.size) → Calls Tryz.prog 21 #[t.val] w (RetBody S (T.body t.erase) w)


set_option maxHeartbeats 2000000 in
set_option maxRecDepth 100000 in
theorem body_walk_var (n : Int) (s : ByteArray) (p : Option Addr) (c : Nat) (l : List Tm) (S : Nat → Prop) (w : World) (hin : (Tm.mk 1 n s p c l).In w) (hon : (Tm.mk 1 n s p c l).On S) (hS : ∀ b, S b → b < w.heap.size) :
    Calls Tryz.prog 21 #[(Tm.mk 1 n s p c l).val] w (RetBody S (some (compT sCallT [(Tm.mk 1 n s p c l).erase])) w) := by
  generalize hQ : RetBody S (some (compT sCallT [(Tm.mk 1 n s p c l).erase])) w = Q
  have HQ := Lib.hid hQ
  have Hin := Lib.hid hin
  have Hon := Lib.hid hon
  have HS := Lib.hid hS
  clear hQ hin hon hS
  simp only [tm_val]
  go_enter Tryz.func21, Tryz.ntmps21
  try simp only [List.append_eq, List.cons_append, List.nil_append]
  go_upto_region 1 with fail
  obtain ⟨HB, HR, gA⟩ := two_blocks w (.int .i64 1) (.int .i64 n) (.string s) (.slice p l.length c) (.int .i64 0) (.int .i64 0) (.string ⟨#[]⟩) (.slice none 0 0)
  generalize (w.alloc (.cells #[.int .i64 1, .int .i64 n, .string s, .slice p l.length c] 24)).alloc (.cells #[.int .i64 0, .int .i64 0, .string ⟨#[]⟩, .slice none 0 0] 24) = wA at *
  obtain ⟨⟨b0, b1, b2, b3⟩, _, _⟩ := HB.out.parts
  go_wp2_with (first
    | (go_at_call 47; refine (comp_calls _ _ _ _ _).mono ?_; rintro e w' ⟨rfl, hb⟩; have HB2 := Lib.hid (one_new (t := .mk 1 n s p c l) (Tm.In_below gA Hin.out) hb); have g2 : Gr wA w' := below_step hb (by go_grown); obtain ⟨⟨y0, y1, y2, y3⟩, ⟨f0, f1, f2, f3⟩, hlt⟩ := (HR.out.gr g2).parts; clear hb b0 b1 b2 b3)
    | fail)
  refine bodyPost_ret (v := .tuple #[(compTm ⟨#[99, 97, 108, 108]⟩ (some ⟨wA.heap.size, 0, none⟩) 1 [.mk 1 n s p c l]).val, .bool true]) (by simp (maxDischargeDepth := 9) [results, Tryz.results21, go_sem, compTm, Tm.val, Tm.k, Tm.n, Tm.s, Tm.p, Tm.c, Tm.l, y0, y1, y2, y3]) rfl ?_
  rw [← HQ.out]
  have hg : Gr w w' := gA.trans g2
  have hs := gA.size
  refine ⟨compTm ⟨#[99, 97, 108, 108]⟩ (some ⟨wA.heap.size, 0, none⟩) 1 [.mk 1 n s p c l], true, rfl, ?_, rfl, fun u hu => ?_, by go_grown, ?_⟩
  · refine in_after' (S := fun b => b ≠ w.heap.size + 1) (compTm_in (by decide) HB2.out) ?_ fun b h1 h2 o => by rw [cell_set_ne h1, cell_set_ne h1, cell_set_ne h1, cell_set_ne h1]
    rw [compTm, Tm.On, Tm.OnL, Tm.OnL]
    have := HR.out.parts.2.2
    exact ⟨.inr ⟨_, _, rfl, by omega⟩, Hon.out.mono fun b hb => by have := HS.out b hb; omega, trivial⟩
  · cases hu
    rw [compTm, Tm.erase, Tm.eraseL, Tm.eraseL, blCall]
    rfl
  · rw [compTm, Tm.On, Tm.OnL, Tm.OnL]
    exact ⟨.inr ⟨_, _, rfl, .inr hs⟩, Hon.out.mono fun b hb => .inl hb, trivial⟩

end Go.Proofs.YtjdoflfdlhpbmaaGreat
