/-
  term.Map with a function that keeps nothing, term.Copy.
  hornref.Same, hornref.Formed
-/
import Derived.Test.YtcblmkhhhibddaaTS04
import Derived.Test.YtcblmkhhhibddaaTS02
namespace Go.Proofs.Ytcblmkhhhibddaa
open Go.RowKit

/-- A function value that may be called: what it makes of a variable, whatever has grown since. -/
def MapFn (fv : Value) (S : Nat → Prop) (f : Int → T) (w0 : World) : Prop :=
  (∀ b, S b → b < w0.heap.size) ∧ ∃ (fid : FuncId) (cap : Array Value), fv = .func (.func fid) #[] cap ∧ (∀ (n : Int) (w : World), (callFunc fid (#[.int .i64 n] ++ cap)).run Try.prog w = .ok (.enter fid (#[.int .i64 n] ++ cap)) w) ∧
    ∀ (n : Int) (w : World), Gr w0 w → In64 n → Calls Try.prog fid (#[.int .i64 n] ++ cap) w (RetTm (fun b => S b ∨ w.heap.size ≤ b) (f n) w)

theorem MapFn.gr {fv : Value} {S : Nat → Prop} {f : Int → T} {w0 w1 : World} (h : MapFn fv S f w0) (hg : Gr w0 w1) : MapFn fv S f w1 := by
  obtain ⟨h0, fid, cap, h1, h2, h3⟩ := h
  exact ⟨fun b hb => Nat.lt_of_lt_of_le (h0 b hb) hg.size, fid, cap, h1, h2, fun n w hw hn => h3 n w (hg.trans hw) hn⟩

theorem in_after' {w2 W : World} {tb : Tm} {S : Nat → Prop} (hin : tb.In w2) (hon : tb.On S) (hc : ∀ b, S b → b < w2.heap.size → ∀ o, W.cell? ⟨b, o, none⟩ = w2.cell? ⟨b, o, none⟩) : tb.In W :=
  Tm.In.same (S := fun b => S b ∧ b < w2.heap.size) (fun b hb o => hc b hb.1 hb.2 o) hin (Tm.On.and hon (Tm.In.on hin))

theorem infoTermM : (Try.prog.info? 25).map (fun i => (i.zero, i.size, i.bytes)) = some (some (.agg #[.int .i64 0, .int .i64 0, .string ⟨#[]⟩, .slice none 0 0]), 4, 56) := by kernel_rfl

theorem after_make {w w1 : World} {v0 v1 v2 v3 u0 u1 u2 u3 : Value} (h : ((w.alloc (.cells #[v0, v1, v2, v3] 25)).alloc (.cells #[u0, u1, u2, u3] 25)).grownBy w1 none) :
    Blk4 w1 w.heap.size v0 v1 v2 v3 ∧ Hid (Blk4 w1 w.heap.size v0 v1 v2 v3 ∧ Blk4 w1 (w.heap.size + 1) u0 u1 u2 u3 ∧ Gr w w1) := by
  have hg0 := grownBy_below h (Nat.le_refl _) (fun _ h => by cases h)
  have h1 : Blk4 w1 w.heap.size v0 v1 v2 v3 := Blk4.gr (Blk4.old (Blk4.new w _ _ _ _) _) hg0
  refine ⟨h1, h1, Blk4.gr ?_ hg0, below_step hg0 (by go_grown)⟩
  have := Blk4.new (w.alloc (.cells #[v0, v1, v2, v3] 25)) u0 u1 u2 u3
  simpa only [World.size_alloc] using this

theorem fill_made {w w1 : World} {o1 o2 : Obj} {S : Nat → Prop} {n : Nat} {xs : List Value} (h : w1.ownsRow w.heap.size 25 4 (.slice (some ⟨((w.alloc o1).alloc o2).heap.size, 0, none⟩) n n) n xs) :
    Hid (Filling w1 (w.heap.size + 1 + 1) S (w.heap.size + 1 + 1) n []) := Filling.new (Nat.le_refl _) (by simpa only [World.size_alloc] using h)

set_option maxHeartbeats 2000000 in
set_option maxRecDepth 100000 in
theorem map_var (n : Int) (s : ByteArray) (p : Option Addr) (c : Nat) (l : List Tm) (fv : Value) (S : Nat → Prop) (f : Int → T) (w : World) (h : (Tm.mk 1 n s p c l).In w) (hf : MapFn fv S f w) :
    Calls Try.prog 136 #[(Tm.mk 1 n s p c l).val, fv] w (RetTm (fun b => S b ∨ w.heap.size ≤ b) (f n) w) := by
  rw [Tm.In] at h
  obtain ⟨hk, hn, hs, hlc, hc, hp, hIn⟩ := h
  clear hp hIn
  obtain ⟨hS, fid, cap, rfl, hq, hcall⟩ := hf
  have HS := Lib.hid hS
  clear hS
  have Hcall := Lib.hid hcall
  have Hn := Lib.hid hn
  clear hcall
  simp only [Tm.val, Tm.k, Tm.n, Tm.s, Tm.p, Tm.c, Tm.l]
  go_enter Try.func136, Try.ntmps136
  go_wp2_with fail
  refine (Hcall.out n _ (by go_grown) Hn.out).mono ?_
  rintro e w1 ⟨bm, hin, he, rfl, hb1, hon⟩
  obtain ⟨⟨y0, y1, y2, y3⟩, ⟨f0, f1, f2, f3⟩, hlt⟩ := (Blk4.gr (Blk4.new _ _ _ _ _) hb1).parts
  simp only [World.size_alloc] at y0 y1 y2 y3 f0 f1 f2 f3 hlt hon
  have g1 : Gr w w1 := below_step hb1 (by go_grown)
  have hs0 : w.heap.size + 1 < w1.heap.size := hlt
  have Hin := Lib.hid hin
  have Hon := Lib.hid hon
  have He := Lib.hid he
  clear hin hon he hb1
  obtain ⟨k', n', s', p', c', l'⟩ := bm
  simp only [Tm.val, Tm.k, Tm.n, Tm.s, Tm.p, Tm.c, Tm.l]
  go_wp2_with fail
  refine bodyPost_ret (v := (Tm.mk k' n' s' p' c' l').val) (by simp [results, Try.results136, go_sem, Tm.val, Tm.k, Tm.n, Tm.s, Tm.p, Tm.c, Tm.l, y0, y1, y2, y3]) rfl ⟨Tm.mk k' n' s' p' c' l', ?_, He.out, rfl, by go_grown, Hon.out.mono fun b hb => hb.imp id fun h => by omega⟩
  exact in_after' Hin.out Hon.out fun b h1 h2 o => by
    have : b ≠ w.heap.size + 1 := by rcases h1 with h1 | h1; · have := HS.out b h1; omega
                                     · omega
    rw [cell_set_ne this, cell_set_ne this, cell_set_ne this, cell_set_ne this]

set_option maxHeartbeats 2000000 in
set_option maxRecDepth 100000 in
theorem map_leaf (k n : Int) (s : ByteArray) (p : Option Addr) (c : Nat) (l : List Tm) (fv : Value) (w : World) (h : (Tm.mk k n s p c l).In w) (hk1 : k ≠ 1) (hk4 : k ≠ 4) :
    Calls Try.prog 136 #[(Tm.mk k n s p c l).val, fv] w (RetTm (w.heap.size ≤ ·) (.mk k n s.toList []) w) := by
  rw [Tm.In] at h
  obtain ⟨hk, hn, hs, hlc, hc, hp, hIn⟩ := h
  clear hp hIn
  have hk1' : (k == 1) = false := beq_eq_false_iff_ne.2 hk1
  have hk4' : (k == 4) = false := beq_eq_false_iff_ne.2 hk4
  have Hk := Lib.hid hk
  have Hn := Lib.hid hn
  have Hs := Lib.hid hs
  clear hk1 hk4 hk hn hs
  simp only [Tm.val, Tm.k, Tm.n, Tm.s, Tm.p, Tm.c, Tm.l]
  go_enter Try.func136, Try.ntmps136
  go_wp2_with fail
  refine bodyPost_ret (v := (Tm.mk k n s none 0 []).val) (by simp [results, Try.results136, go_sem, Tm.val, Tm.k, Tm.n, Tm.s, Tm.p, Tm.c, Tm.l]) rfl ⟨Tm.mk k n s none 0 [], ?_, by simp [Tm.erase, Tm.eraseL], rfl, by go_grown, ?_⟩
  · rw [Tm.In, Tm.InL]
    exact ⟨Hk.out, Hn.out, Hs.out, Nat.le_refl _, ⟨by simp, by omega⟩, .inl rfl, trivial⟩
  · rw [Tm.On, Tm.OnL]; exact ⟨.inl rfl, trivial⟩

set_option maxHeartbeats 4000000 in
set_option maxRecDepth 100000 in
theorem map_any (N : Nat) : ∀ (t : Tm) (fv : Value) (S : Nat → Prop) (f : Int → T) (w : World), SizeOf.sizeOf t ≤ N → t.In w → t.erase.formed = true → MapFn fv S f w →
    Calls Try.prog 136 #[t.val, fv] w (RetTm (fun b => S b ∨ w.heap.size ≤ b) (T.map f t.erase) w) := by
  induction N with
  | zero => intro t fv S f w h; cases t; simp at h
  | succ N ih =>
    intro t fv S f w hN h hfm hf
    obtain ⟨k, n, s, p, c, l⟩ := t
    by_cases hk1 : k = 1
    · subst hk1
      rw [Tm.erase, T.map, if_pos rfl]
      exact map_var n s p c l fv S f w h hf
    by_cases hk4 : k = 4
    · subst hk4
      obtain ⟨rfl, h100, hl1, hl50, hfl⟩ := formed_elem rfl hfm
      have hsz := fun x (hx : x ∈ l) => Tm.sizeOf_mem hx 4 0 s p c
      have HT := Lib.hid h
      have HSl := Lib.hid h.sl
      rw [Tm.In] at h
      obtain ⟨hk, hn, hs, hlc, hc, hp, hIn⟩ := h
      obtain ⟨b, o, rfl⟩ := HSl.out.ptr (by omega)
      have hbl : b < w.heap.size := Tm.row_lt (by rcases hp with rfl | ⟨b', o', he, hr⟩; · simp at hl1
                                                  · cases he; exact hr) (by rintro rfl; simp at hl1)
      obtain ⟨hS, fid, cap, rfl, hq, hcall⟩ := hf
      have HS := Lib.hid hS
      have Hf : Hid (MapFn (.func (.func fid) #[] cap) S f w) := ⟨hS, fid, cap, rfl, hq, hcall⟩
      have Hih := Lib.hid ih
      have Hsz := Lib.hid hsz
      have Hfl := Lib.hid hfl
      have Hs := Lib.hid hs
      clear hp hIn hcall hS hq ih hsz hfl hk hn hfm
      obtain ⟨i0, hi, hz0, hz1, hz2⟩ := info_parts infoTermM
      have Hi := Lib.hid hi
      clear hi
      rw [Tm.erase, T.map, if_neg (by decide), if_pos rfl]
      simp only [Tm.val, Tm.k, Tm.n, Tm.s, Tm.p, Tm.c, Tm.l]
      go_enter Try.func136, Try.ntmps136
      go_wp2_with
        (refine wpList_make_full _ rfl _ _ 23 rfl (w.heap.size) 25 i0 _ 4 Try.underlying23 Hi.out hz0 hz1 .i64 .i64 _ _ l.length rfl rfl rfl rfl (by rw [hz2]; omega) (by simp only [maxLen]; omega) (by simp; omega) ?_
         intro w1 hown hgrow
         have HF := fill_made (S := S) hown
         have HA := (after_make hgrow).2
         obtain ⟨⟨b0, b1, b2, b3⟩, _, _⟩ := (after_make hgrow).1.parts
         clear hown hgrow)
      obtain ⟨HB, HR, g1⟩ := HA.out
      replace HB := Lib.hid HB
      replace HR := Lib.hid HR
      have hg2 : w.heap.size + 1 + 1 < w1.heap.size := HF.out.lt
      clear b0 b1 b2 b3 HA
      go_loopw [25] (fun i wr => ∃ k : Nat, k ≤ l.length ∧ i = .int .i64 k ∧ Hid (∃ lm : List Tm, lm.length = k ∧ Tm.eraseL lm = T.mapL f (Tm.eraseL (l.take k)) ∧ Filling wr (w.heap.size + 1 + 1) S (w.heap.size + 1 + 1) l.length lm) ∧ Below (w.heap.size + 1 + 1) w1 wr)
        (fun i _ => l.length - (intOf i).toNat)
      case atStart => exact ⟨0, Nat.zero_le _, rfl, ⟨[], rfl, by simp [T.mapL, Tm.eraseL], HF.out⟩, Below.refl _ _⟩
      case round =>
        obtain ⟨k, hk, rfl, hlm, hb⟩ := hrel
        have hbs := hb.size
        have gr : Gr w wr := Below.trans g1 (hb.mono (by omega))
        have HB' : Hid _ := Lib.hid (HB.out.below hb (by omega))
        have HR' : Hid _ := Lib.hid (HR.out.below hb (by omega))
        by_cases hlt : k < l.length
        · obtain ⟨⟨c0, c1, c2, c3⟩, hx, _⟩ := (HSl.out.mono gr).elem k hlt
          have Hx := Lib.hid hx
          have hmem : l[k] ∈ l := List.getElem_mem hlt
          have Hz := Hsz.out _ hmem
          have Hfx := Lib.hid (Hfl.out _ hmem)
          have Htk : Hid (T.mapL f (Tm.eraseL (l.take (k + 1))) = T.mapL f (Tm.eraseL (l.take k)) ++ [T.map f l[k].erase]) := T.mapL_erase f l k hlt
          clear hx hmem
          generalize hxe : l[k] = x at *
          go_wp2_with fail
          refine (Hih.out x _ S f _ (by omega) (Tm.In_below (by go_grown) Hx.out) Hfx.out (Hf.out.gr (by go_grown))).mono ?_
          rintro e w2 ⟨xm, hin, he, rfl, hb2, hon⟩
          obtain ⟨lm, hl0, he0, hF⟩ := hlm.out
          have hF2 : Filling w2 (w.heap.size + 1 + 1) S (w.heap.size + 1 + 1) l.length lm := Filling.gr (w := wr) hF (below_step hb2 (by go_grown))
          have HF2 := Lib.hid hF2
          have g2 : Below (w.heap.size + 1 + 1) w1 w2 := Below.trans hb ((show Gr wr w2 from below_step hb2 (by go_grown)).mono (by omega))
          obtain ⟨⟨q0, r0⟩, fr0⟩ := hF2.spot (j := k * 4) (by omega)
          obtain ⟨⟨q1, r1⟩, fr1⟩ := hF2.spot (j := k * 4 + 1) (by omega)
          obtain ⟨⟨q2, r2⟩, fr2⟩ := hF2.spot (j := k * 4 + 2) (by omega)
          obtain ⟨⟨q3, r3⟩, fr3⟩ := hF2.spot (j := k * 4 + 3) (by omega)
          have hs2 := hb2.size
          simp only [World.size_alloc] at hs2 hon
          have Hl0 := Lib.hid hl0
          have He0 := Lib.hid he0
          have Hin := Lib.hid hin
          have Hon := Lib.hid hon
          have He := Lib.hid he
          clear hF hF2 hl0 he0 hin hon he hb2 hlm
          obtain ⟨k', n', s', p', c', l'⟩ := xm
          simp only [Tm.val, Tm.k, Tm.n, Tm.s, Tm.p, Tm.c, Tm.l]
          go_wp2_with fail
          go_roundw
          case rel =>
            refine ⟨k + 1, by omega, by go_num, ⟨lm ++ [.mk k' n' s' p' c' l'], by simp [Hl0.out], by rw [eraseL_append, He0.out, Htk.out]; simp [Tm.eraseL, He.out], ?_⟩, by go_grown⟩
            have := HF2.out.store (x := .mk k' n' s' p' c' l') (by rw [Hl0.out]; exact hlt) Hin.out (Hon.out.mono fun b hb => ?_)
            · rw [Hl0.out] at this
              simpa only [Tm.k, Tm.n, Tm.s, Tm.p, Tm.c, Tm.l] using this
            · rcases hb with hb | hb
              · exact ⟨.inl hb, by have := HS.out b hb; omega⟩
              · exact ⟨.inr (by omega), by omega⟩
          case measure => simp [intOf]; omega
        · obtain rfl : k = l.length := by omega
          obtain ⟨lm, hl0, he0, hF⟩ := hlm.out
          obtain ⟨⟨b0, b1, b2, b3⟩, ⟨e0, e1, e2, e3⟩, hbs1⟩ := HB'.out.parts
          obtain ⟨⟨y0, y1, y2, y3⟩, ⟨f0, f1, f2, f3⟩, hbs2⟩ := HR'.out.parts
          have HF := Lib.hid hF
          have Hl0 := Lib.hid hl0
          have He0 := Lib.hid he0
          clear hF hl0 he0 hlm
          go_wp2_with fail
          refine bodyPost_ret (v := (Tm.mk 4 0 s (some ⟨w.heap.size + 1 + 1, 0, none⟩) l.length lm).val) (by simp [results, Try.results136, go_sem, Tm.val, Tm.k, Tm.n, Tm.s, Tm.p, Tm.c, Tm.l, Hl0.out, y0, y1, y2, y3]) rfl ⟨_, ?_, ?_, rfl, by go_grown, ?_⟩
          · have hsl := HF.out.sl Hl0.out (by omega)
            have hin : (Tm.mk 4 0 s (some ⟨w.heap.size + 1 + 1, 0, none⟩) l.length lm).In wr := compTm_in Hs.out hsl.1
            have hon : (Tm.mk 4 0 s (some ⟨w.heap.size + 1 + 1, 0, none⟩) l.length lm).On (fun b => S b ∨ w.heap.size + 1 + 1 ≤ b) := by rw [Tm.On]; exact hsl.2
            exact in_after' hin hon fun b h1 h2 o => by
              have : b ≠ w.heap.size ∧ b ≠ w.heap.size + 1 := by
                rcases h1 with h1 | h1
                · have := HS.out b h1; omega
                · omega
              rw [cell_set_ne this.2, cell_set_ne this.2, cell_set_ne this.2, cell_set_ne this.2, cell_set_ne this.1]
          · rw [Tm.erase, He0.out, List.take_length]
          · have hsl := HF.out.sl Hl0.out (by omega)
            rw [Tm.On]
            exact ⟨hsl.2.1.imp id fun ⟨b, o, h1, h2⟩ => ⟨b, o, h1, h2.imp id fun h => by omega⟩, hsl.2.2.mono fun b hb => hb.imp id fun h => by omega⟩
    · rw [Tm.erase, T.map, if_neg hk1, if_neg hk4]
      exact (map_leaf k n s p c l fv w h hk1 hk4).mono fun e w' ⟨bm, h1, h2, h3, h4, h5⟩ => ⟨bm, h1, h2, h3, h4, h5.mono fun b hb => .inr hb⟩


mutual
theorem T.map_varT : ∀ {t : T}, t.formed = true → T.map varT t = t
  | .mk k n s l, h => by
    rw [T.formed] at h
    rw [T.map]
    by_cases h1 : k = 1
    · subst h1
      simp at h
      rw [if_pos rfl, varT, h.1.2, h.2]
    · rw [if_neg h1] at h ⊢
      by_cases h4 : k = 4
      · subst h4
        simp at h
        rw [if_pos rfl, T.mapL_varT h.2]
      · rw [if_neg h4]
        by_cases h2 : k = 2
        · subst h2
          simp at h
          rw [h.2]
        · by_cases h3 : k = 3
          · subst h3
            simp at h
            rw [h.2]
          · simp [h2, h3, h4] at h
theorem T.mapL_varT : ∀ {l : List T}, T.formedL l = true → T.mapL varT l = l
  | [], _ => by rw [T.mapL]
  | x :: xs, h => by
    rw [T.formedL, Bool.and_eq_true] at h
    rw [T.mapL, T.map_varT h.1, T.mapL_varT h.2]
end

theorem map_calls {t : Tm} {fv : Value} {S : Nat → Prop} {f : Int → T} {w : World} (h : t.In w) (hf : t.erase.formed = true) (hm : MapFn fv S f w) :
    Calls Try.prog 136 #[t.val, fv] w (RetTm (fun b => S b ∨ w.heap.size ≤ b) (T.map f t.erase) w) := map_any _ t fv S f w (Nat.le_refl _) h hf hm

theorem mapFn_V (w : World) : MapFn (.func (.func 86) #[] #[]) (fun _ => False) varT w :=
  ⟨fun _ h => h.elim, 86, #[], rfl, fun n w => by kernel_rfl, fun n w _ hn => (v_calls n w hn).mono fun e w' ⟨b, h1, h2, h3, h4, h5⟩ => ⟨b, h1, h2, h3, h4, h5.mono fun b hb => .inr hb⟩⟩

set_option maxHeartbeats 400000 in
/-- term.Copy: the same term in new memory. -/
theorem copy_calls {t : Tm} {w : World} (h : t.In w) (hf : t.erase.formed = true) : Calls Try.prog 81 #[t.val] w (RetTm (w.heap.size ≤ ·) t.erase w) := by
  have H := Lib.hid h
  have Hf := Lib.hid hf
  clear h hf
  simp only [Tm.val]
  go_enter Try.func81, Try.ntmps81
  go_wp2_with fail
  refine (map_calls (t := t) (Tm.In_below (by go_grown) H.out) Hf.out (mapFn_V _)).mono ?_
  rw [T.map_varT Hf.out]
  rintro e w1 ⟨bm, hin, he, rfl, hb1, hon⟩
  obtain ⟨⟨y0, y1, y2, y3⟩, ⟨f0, f1, f2, f3⟩, hlt⟩ := (Blk4.gr (Blk4.new _ _ _ _ _) hb1).parts
  simp only [World.size_alloc] at y0 y1 y2 y3 f0 f1 f2 f3 hlt hon
  have g1 : Gr w w1 := below_step hb1 (by go_grown)
  have Hin := Lib.hid hin
  have Hon := Lib.hid hon
  have He := Lib.hid he
  clear hin hon he hb1
  obtain ⟨k', n', s', p', c', l'⟩ := bm
  simp only [Tm.val, Tm.k, Tm.n, Tm.s, Tm.p, Tm.c, Tm.l]
  go_wp2_with fail
  refine bodyPost_ret (v := (Tm.mk k' n' s' p' c' l').val) (by simp [results, Try.results81, go_sem, Tm.val, Tm.k, Tm.n, Tm.s, Tm.p, Tm.c, Tm.l, y0, y1, y2, y3]) rfl ⟨Tm.mk k' n' s' p' c' l', ?_, He.out, rfl, by go_grown, Hon.out.mono fun b hb => hb.elim (fun h => h.elim) fun h => by omega⟩
  exact in_after' Hin.out Hon.out fun b h1 h2 o => by
    have : b ≠ w.heap.size + 1 := by rcases h1 with h1 | h1; · exact h1.elim
                                     · omega
    rw [cell_set_ne this, cell_set_ne this, cell_set_ne this, cell_set_ne this]

end Go.Proofs.Ytcblmkhhhibddaa

namespace Go.Proofs.Ytcblmkhhhibddaa
open Go.RowKit

mutual
/-- The same term? -/
def T.same : T → T → Bool
  | .mk k n s l, .mk k' n' s' l' => decide (k = k') && decide (n = n') && decide (s = s') && decide (l.length = l'.length) && T.sameL l l'
def T.sameL : List T → List T → Bool
  | x :: xs, y :: ys => T.same x y && T.sameL xs ys
  | _, _ => true
end

theorem sameL_take (l l' : List Tm) (k : Nat) (hk : k < l.length) (hk' : k < l'.length) :
    T.sameL (Tm.eraseL (l.take (k + 1))) (Tm.eraseL (l'.take (k + 1))) = (T.sameL (Tm.eraseL (l.take k)) (Tm.eraseL (l'.take k)) && T.same l[k].erase l'[k].erase) := by
  induction l generalizing k l' with
  | nil => exact absurd hk (by simp)
  | cons x xs ih =>
    cases l' with
    | nil => exact absurd hk' (by simp)
    | cons y ys =>
      cases k with
      | zero => simp [Tm.eraseL, T.sameL]
      | succ k =>
        simp only [List.length_cons] at hk hk'
        simp only [List.take_succ_cons, Tm.eraseL, T.sameL, List.getElem_cons_succ]
        rw [ih ys k (by omega) (by omega), Bool.and_assoc]

theorem sameL_false {l l' : List Tm} (k : Nat) (hk : k < l.length) (hk' : k < l'.length) (h : T.same l[k].erase l'[k].erase = false) : T.sameL (Tm.eraseL l) (Tm.eraseL l') = false := by
  induction l generalizing k l' with
  | nil => exact absurd hk (by simp)
  | cons x xs ih =>
    cases l' with
    | nil => exact absurd hk' (by simp)
    | cons y ys =>
      rw [Tm.eraseL, Tm.eraseL, T.sameL]
      cases k with
      | zero => simp only [List.getElem_cons_zero] at h; rw [h]; rfl
      | succ k =>
        simp only [List.length_cons] at hk hk'
        rw [ih k (by omega) (by omega) (by simpa using h), Bool.and_false]

set_option maxHeartbeats 400000 in
set_option maxRecDepth 100000 in
theorem same_any (N : Nat) : ∀ (t u : Tm) (w : World), SizeOf.sizeOf t ≤ N → t.In w → u.In w →
    Calls Try.prog 26 #[t.val, u.val] w (Ret (.bool (T.same t.erase u.erase)) w) := by
  induction N with
  | zero => intro t u w h _; cases t; simp at h
  | succ N ih =>
    intro t u w hN h hu
    obtain ⟨k, n, s, p, c, l⟩ := t
    obtain ⟨k', n', s', p', c', l'⟩ := u
    have hsz := fun x (hx : x ∈ l) => Tm.sizeOf_mem hx k n s p c
    rw [Tm.In] at h hu
    obtain ⟨_, _, hs, hl, hc, hp, hIn⟩ := h
    obtain ⟨_, _, hs', hl', hc', hp', hIn'⟩ := hu
    have Hp := Lib.hid hp
    have HIn := Lib.hid hIn
    have Hp' := Lib.hid hp'
    have HIn' := Lib.hid hIn'
    have Hsz := Lib.hid hsz
    have Hih := Lib.hid ih
    clear hp hIn hsz ih hp' hIn'
    simp only [Tm.val, Tm.k, Tm.n, Tm.s, Tm.p, Tm.c, Tm.l, Tm.erase, T.same, Tm.eraseL_length]
    generalize hr : (_ && _ : Bool) = r
    have Hr := Lib.hid hr
    clear hr
    by_cases hg : k = k' ∧ n = n' ∧ s.toList = s'.toList ∧ l.length = l'.length
    · obtain ⟨rfl, rfl, e3, e4⟩ := hg
      have e3' : (s.toList == s'.toList) = true := by simp [e3]
      have E4 : Hid (l'.length = l.length) := e4.symm
      have Hfin : Hid (r = T.sameL (Tm.eraseL l) (Tm.eraseL l')) := by
        refine Hr.out.symm.trans ?_; simp [e3, e4]
      clear Hr e3 e4
      rw [E4.out]
      go_enter Try.func26, Try.ntmps26
      go_wp2_with fail
      go_loopw [5] (fun i wr => ∃ k : Nat, k ≤ l.length ∧ i = .int .i64 k ∧ Hid (T.sameL (Tm.eraseL (l.take k)) (Tm.eraseL (l'.take k)) = true) ∧ Gr w wr ∧
          w.heap.size + 2 ≤ wr.heap.size ∧ wr.cell? ⟨w.heap.size, 3, none⟩ = some (.slice p l.length c) ∧ wr.cell? ⟨w.heap.size + 1, 3, none⟩ = some (.slice p' l.length c'))
        (fun i _ => l.length - (intOf i).toNat)
      case atStart => exact ⟨0, Nat.zero_le _, rfl, rfl, by go_grown, by simp, by go_cell, by go_cell⟩
      case round =>
        obtain ⟨i, hi, rfl, hpre, hb, hbs, b1, b2⟩ := hrel
        by_cases hlt : i < l.length
        · rcases Hp.out with rfl | ⟨b, o, rfl, hrow⟩
          · simp at hlt
          rcases Hp'.out with rfl | ⟨b', o', rfl, hrow'⟩
          · have := E4.out; simp at this; omega
          have Hrow := Lib.hid hrow
          have Hrow' := Lib.hid hrow'
          clear hrow hrow'
          have hlt' : i < l'.length := by have := E4.out; omega
          have hbl : b < w.heap.size := Tm.row_lt Hrow.out (by rintro rfl; simp at hlt)
          have hbl' : b' < w.heap.size := Tm.row_lt Hrow'.out (by rintro rfl; simp at hlt')
          obtain ⟨c0, c1, c2, c3⟩ := Tm.row_mono Hrow.out (fun o' => hb.cell (p := ⟨b, o', none⟩) hbl) i l[i] (List.getElem?_eq_getElem hlt)
          obtain ⟨d0, d1, d2, d3⟩ := Tm.row_mono Hrow'.out (fun o'' => hb.cell (p := ⟨b', o'', none⟩) hbl') i l'[i] (List.getElem?_eq_getElem hlt')
          have hmem : l[i] ∈ l := List.getElem_mem hlt
          have hmem' : l'[i] ∈ l' := List.getElem_mem hlt'
          have hx : Hid (l[i].In wr) := Tm.In_below (hb.mono (by omega)) (Tm.InL_mem HIn.out _ hmem)
          have hx' : Hid (l'[i].In wr) := Tm.In_below (hb.mono (by omega)) (Tm.InL_mem HIn'.out _ hmem')
          have Hz := Hsz.out _ hmem
          generalize hxe : l[i] = x at *
          generalize hxe' : l'[i] = x' at *
          go_wp2_with fail
          refine wp_region_rely [fx (.pointer (some ⟨w.heap.size, 3, none⟩)), fx (.slice (some ⟨b, o, none⟩) l.length c), fx (.int .i64 i), fx (.pointer (some ⟨b, o + i * 4, none⟩)), fx x.val,
            fx (.pointer (some ⟨w.heap.size + 1, 3, none⟩)), fx (.slice (some ⟨b', o', none⟩) l.length c'), fx (.int .i64 i), fx (.pointer (some ⟨b', o' + i * 4, none⟩)), fx x'.val,
            fx (.bool (T.same x.erase x'.erase)), fx (.bool (!T.same x.erase x'.erase))] (by kernel_rfl) (by kernel_rfl) (by repeat (first | exact Stable.nil | refine Stable.fix ?_)) ?_ ?_
          · refine ⟨?_, ?_, ?_, ?_, ?_, ?_, ?_, ?_, ?_, ?_, ?_, ?_, trivial⟩
            all_goals
              intro a w1 hg hold
              have h2 : a.tmps[2]?.getD undef = .pointer (some ⟨w.heap.size, 0, none⟩) := hold 2 rfl
              have h3 : a.tmps[3]?.getD undef = .pointer (some ⟨w.heap.size + 1, 0, none⟩) := hold 3 rfl
              have h5 : a.tmps[5]?.getD undef = .int .i64 i := hold 5 rfl
              clear hold
              have z1 := Gr.at hg b1
              have z2 := Gr.at hg b2
              have z3 := Gr.at hg c0
              have z4 := Gr.at hg c1
              have z5 := Gr.at hg c2
              have z6 := Gr.at hg c3
              have z7 := Gr.at hg d0
              have z8 := Gr.at hg d1
              have z9 := Gr.at hg d2
              have z10 := Gr.at hg d3
              simp [predsImp, Region.binds, dstAt, fx]
              intros
              rename_i K hK
              clear b1 b2 c0 c1 c2 c3 d0 d1 d2 d3
              go_simp
              first
                | exact hK _ _ rfl (Gr.rfl' _)
                | (refine (Hih.out x x' _ (by omega) (Tm.In_below hg hx.out) (Tm.In_below hg hx'.out)).mono ?_
                   rintro e w2 ⟨rfl, hb2⟩
                   exact hK _ _ rfl hb2)
          · intro w1 hg
            have hsz1 := hg.size
            have b1' := Gr.at hg b1
            have b2' := Gr.at hg b2
            rintro _ rfl _ rfl _ rfl _ rfl _ rfl _ rfl _ rfl _ rfl _ rfl _ rfl _ rfl _ rfl
            simp only [finAll, Act.put, Exit.then, List.setIfInBounds_toArray, List.set_cons_succ, List.set_cons_zero]
            generalize hxf : T.same x.erase x'.erase = bx
            have Hxf := Lib.hid hxf
            have Htk : Hid (T.sameL (Tm.eraseL (l.take (i + 1))) (Tm.eraseL (l'.take (i + 1))) = bx) := by
              have h9 := sameL_take l l' i hlt hlt'
              rw [hpre.out, hxe, hxe', Hxf.out] at h9
              exact h9
            clear hxf b1 b2
            cases bx
            · go_wp2_with fail
              go_ret
              refine ret_bool ?_ (hb.trans hg)
              rw [Hfin.out, sameL_false i hlt hlt' (by rw [hxe, hxe']; exact Hxf.out)]
            · go_wp2_with fail
              go_roundw
              case rel => exact ⟨i + 1, by omega, by go_num, Htk.out, hb.trans hg, by omega, b1', b2'⟩
              case measure => simp [intOf]; omega
        · go_wp2_with fail
          go_ret
          refine ret_bool ?_ hb
          have E := E4.out
          rw [Hfin.out, ← hpre.out, List.take_of_length_le (by omega), List.take_of_length_le (by omega)]
    · have Hfin : Hid (r = false) := by
        refine Hr.out.symm.trans ?_
        rw [Bool.eq_false_iff]
        intro h9
        simp only [Bool.and_eq_true, decide_eq_true_eq] at h9
        exact hg ⟨h9.1.1.1.1, h9.1.1.1.2, h9.1.1.2, h9.1.2⟩
      have Hg := Lib.hid hg
      clear hg Hr
      go_enter Try.func26, Try.ntmps26
      go_wp2_with fail
      all_goals first
        | (go_ret; exact ret_bool Hfin.out.symm (by go_grown))
        | (exfalso; refine Hg.out ⟨by assumption, by assumption, by assumption, ?_⟩
           have h9 : ((l.length : Int) != l'.length) = false := by assumption
           simp at h9; omega)

/-- hornref.Same, of whatever terms. -/
theorem same_calls {t u : Tm} {w : World} (h : t.In w) (hu : u.In w) : Calls Try.prog 26 #[t.val, u.val] w (Ret (.bool (T.same t.erase u.erase)) w) :=
  same_any _ t u w (Nat.le_refl _) h hu
end Go.Proofs.Ytcblmkhhhibddaa
